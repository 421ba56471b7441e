/- Own text of this claim: part 25 of an interpreter that is proved sound against the model, and of what it shows of the law. -/
import Derived.Test.YtnipphfkiikbdaaDoorAbs24
/- Runs, in plain Lean. -/
namespace Go.RtlEnv
open Go Go.Proofs Go.Abs Go.RowKit
set_option maxRecDepth 10000
theorem okM_congr {r : GRtl} {ins regs regs' : GSl (GSl UInt8)} (h : vals regs = vals regs') : okM r ins regs = okM r ins regs' := by unfold okM; rw [h]
theorem allM_congr {r : GRtl} {ins regs regs' : GSl (GSl UInt8)} (h : vals regs = vals regs') : allM r ins regs = allM r ins regs' := by unfold allM; rw [okM_congr h, h]
theorem evalO_congr {r : GRtl} {ins regs regs' : GSl (GSl UInt8)} (h : vals regs = vals regs') : evalO r ins regs = evalO r ins regs' := by unfold evalO; rw [okM_congr h, allM_congr h]
theorem evalN_congr {r : GRtl} {ins regs regs' : GSl (GSl UInt8)} (h : vals regs = vals regs') : evalN r ins regs = evalN r ins regs' := by unfold evalN; rw [okM_congr h, allM_congr h]
def initsM (r : GRtl) : List (List UInt8) := r.regs.xs.map fun h => h.init.xs
def stM (r : GRtl) (ins : List (GSl (GSl UInt8))) : Nat → List (List UInt8)
  | 0 => initsM r
  | t + 1 => match ins[t]? with
    | some l => evalN r l (ofRows (stM r ins t))
    | none => stM r ins t
def ouM (r : GRtl) (ins : List (GSl (GSl UInt8))) (t : Nat) : List (List UInt8) :=
  match ins[t]? with
  | some l => evalO r l (ofRows (stM r ins t))
  | none => []
def knownI (r : GRtl) : Bool := r.regs.xs.all fun h => upto 1 h.init.xs
def runOk (r : GRtl) (ins : List (GSl (GSl UInt8))) : Bool := validM r && decide (ins.length ≤ 1000) && ins.all (fun l => fitsM (vals l) (lensI r)) && knownI r
def runM (r : GRtl) (ins : List (GSl (GSl UInt8))) : List (List (List UInt8)) := if runOk r ins then (List.range ins.length).map (ouM r ins) else []
def rcode (r : GRtl) (ins : List (GSl (GSl UInt8))) : Int := if runOk r ins then 0 else 2
theorem runOk_iff {r : GRtl} {ins : List (GSl (GSl UInt8))} : runOk r ins = true ↔ validM r = true ∧ ins.length ≤ 1000 ∧ (∀ l ∈ ins, fitsM (vals l) (lensI r) = true) ∧ knownI r = true := by
  simp only [runOk, Bool.and_eq_true, decide_eq_true_eq, List.all_eq_true, and_assoc]
theorem run_ok {r : GRtl} {ins : List (GSl (GSl UInt8))} (h : runOk r ins = true) : runM r ins = (List.range ins.length).map (ouM r ins) := by unfold runM; rw [if_pos h]
theorem rcode_ok {r : GRtl} {ins : List (GSl (GSl UInt8))} (h : runOk r ins = true) : rcode r ins = 0 := by unfold rcode; rw [if_pos h]
theorem run_bad {r : GRtl} {ins : List (GSl (GSl UInt8))} (h : runOk r ins = false) : runM r ins = [] := by unfold runM; rw [h]; rfl
theorem rcode_bad {r : GRtl} {ins : List (GSl (GSl UInt8))} (h : runOk r ins = false) : rcode r ins = 2 := by unfold rcode; rw [h]; rfl
theorem fits_inits (r : GRtl) : fitsM (initsM r) (lensR r) = knownI r := by
  have h1 : (initsM r).length = r.regs.xs.length := List.length_map _
  have h2 : (lensR r).length = r.regs.xs.length := List.length_map _
  have key : ∀ i, i < r.regs.xs.length → rowOk (initsM r) (lensR r) i = upto 1 ((r.regs.xs[i]?).map (fun h => h.init.xs) |>.getD []) := by
    intro i hi
    unfold rowOk knownM initsM lensR
    rw [List.getD_eq_getElem?_getD, List.getD_eq_getElem?_getD, List.getElem?_map, List.getElem?_map, List.getElem?_eq_getElem hi]
    simp
  unfold fitsM knownI
  rw [decide_eq_true (by omega), Bool.true_and, h1]
  apply Bool.eq_iff_iff.2
  rw [List.all_eq_true, List.all_eq_true]
  constructor
  · intro h x hx
    obtain ⟨i, hi, rfl⟩ := List.mem_iff_getElem.1 hx
    have := h i (by simpa using hi)
    rw [key i hi, List.getElem?_eq_getElem hi] at this
    exact this
  · intro h i hi
    have hi : i < r.regs.xs.length := by simpa using hi
    rw [key i hi, List.getElem?_eq_getElem hi]
    exact h _ (List.getElem_mem hi)
theorem valid_nextW {r : GRtl} (h : validM r = true) {i : Nat} (hi : i < r.regs.xs.length) : wlen r.words.xs (r.regs.xs[i]).next = (r.regs.xs[i]).init.xs.length ∧ 0 ≤ (r.regs.xs[i]).next ∧ (r.regs.xs[i]).next < r.words.xs.length := by
  simp only [validM, Bool.and_eq_true, List.all_eq_true] at h
  have := atLen_iff (h.1.2 _ (List.getElem_mem hi))
  exact ⟨this.2.2, this.1, this.2.1⟩
/-- What registers take next fits. -/
theorem next_fits {r : GRtl} {ins regs : GSl (GSl UInt8)} (h : okM r ins regs = true) : fitsM (evalN r ins regs) (lensR r) = true := by
  have hE := okM_iff.1 h
  have ho := hE.out (Nat.le_refl _)
  rw [evalN_ok h, all_ok h]
  generalize outM (vals ins) (vals regs) r.words.xs r.words.xs.length = O at ho
  have h1 : (nextM r O).length = r.regs.xs.length := List.length_map _
  have h2 : (lensR r).length = r.regs.xs.length := List.length_map _
  unfold fitsM
  rw [decide_eq_true (by omega), Bool.true_and, List.all_eq_true]
  intro i hi
  have hi : i < r.regs.xs.length := by rw [h1] at hi; simpa using hi
  obtain ⟨a, b, c⟩ := valid_nextW hE.valid hi
  have hk : (r.regs.xs[i]).next.toNat < r.words.xs.length := by omega
  have hko : (r.regs.xs[i]).next.toNat < O.length := by rw [ho.1]; exact hk
  have := ho.2 _ _ _ (List.getElem?_eq_getElem hk) (List.getElem?_eq_getElem hko)
  unfold rowOk knownM nextM lensR
  rw [List.getD_eq_getElem?_getD, List.getD_eq_getElem?_getD, List.getElem?_map, List.getElem?_map, List.getElem?_eq_getElem hi]
  simp only [Option.map_some, Option.getD_some]
  rw [Bool.and_eq_true, decide_eq_true_eq, List.getD_eq_getElem?_getD, List.getElem?_eq_getElem hko, Option.getD_some]
  refine ⟨?_, this.2.1⟩
  rw [wlen_at hk] at a
  omega
theorem st_fits {r : GRtl} {ins : List (GSl (GSl UInt8))} (h : runOk r ins = true) : ∀ t, t ≤ ins.length → fitsM (stM r ins t) (lensR r) = true
  | 0, _ => by rw [stM, fits_inits]; exact (runOk_iff.1 h).2.2.2
  | t + 1, ht => by
    have ih := st_fits h t (by omega)
    obtain ⟨a, b, c, d⟩ := runOk_iff.1 h
    have hlt : t < ins.length := by omega
    simp only [stM, List.getElem?_eq_getElem hlt]
    exact next_fits (okM_iff.2 ⟨a, c _ (List.getElem_mem hlt), by rw [vals_of]; exact ih⟩)
theorem st_ok {r : GRtl} {ins : List (GSl (GSl UInt8))} (h : runOk r ins = true) {t : Nat} (ht : t < ins.length) {sg : GSl (GSl UInt8)} (hs : vals sg = stM r ins t) : okM r ins[t] sg = true := by
  obtain ⟨a, b, c, d⟩ := runOk_iff.1 h
  exact okM_iff.2 ⟨a, c _ (List.getElem_mem ht), by rw [hs]; exact st_fits h t (by omega)⟩
theorem st_succ {r : GRtl} {ins : List (GSl (GSl UInt8))} {t : Nat} (ht : t < ins.length) {sg : GSl (GSl UInt8)} (hs : vals sg = stM r ins t) : stM r ins (t + 1) = evalN r ins[t] sg := by
  simp only [stM, List.getElem?_eq_getElem ht]
  exact evalN_congr (by rw [vals_of, hs])
theorem ou_at {r : GRtl} {ins : List (GSl (GSl UInt8))} {t : Nat} (ht : t < ins.length) {sg : GSl (GSl UInt8)} (hs : vals sg = stM r ins t) : ouM r ins t = evalO r ins[t] sg := by
  simp only [ouM, List.getElem?_eq_getElem ht]
  exact evalO_congr (by rw [vals_of, hs])
def rowsL (l : List (List UInt8)) : AV := rowsAV (ofRows l)
def rows3 (s : GSl (GSl (GSl UInt8))) : AV := s.av 1 rowsAV
theorem rowsL_plain (l : List (List UInt8)) : AV.plain (rowsL l) = rowsL l := rowsAV_plain _
theorem rowsL_free (l : List (List UInt8)) : AV.free (rowsL l) = true := rowsAV_free _
theorem rows3_plain (s : GSl (GSl (GSl UInt8))) : AV.plain (rows3 s) = rows3 s := plain_av rowsAV_plain
theorem rows3_free (s : GSl (GSl (GSl UInt8))) : AV.free (rows3 s) = true := free_av rowsAV_free
theorem cells_rows (s : GSl (GSl UInt8)) : (rowsAV s).cells = [rowsAV s] := cells_av s
theorem cells_av1 (s : GSl UInt8) : (s.av 1 bitAV).cells = [s.av 1 bitAV] := cells_av s
theorem ok_rows (s : GSl (GSl UInt8)) : (rowsAV s).ok = true := by
  unfold rowsAV
  rcases s.cases (fun x => x.av 1 bitAV) 1 with ⟨_, h | h⟩ | h <;> rw [h] <;> rfl
theorem idx3 {α : Type} {E : Env} {t e : TypeId} {y ey : Ty} {kd : IntKind} {f : α → AV} {s : GSl α} {i : Nat} {a : α} (hf : (f a).cells = [f a]) (h1 : E.ty t = some y) (h2 : y.d = .slice e) (h3 : E.ty e = some ey) (h4 : ey.size = 1) (ha : s.xs[i]? = some a) : indexAddrA E t (s.av 1 f) (.int kd (i : Int)) = some (.ip [f a]) := by
  rw [indexAddrA_nat h1 h2 h3 h4 ha, hf]
theorem build1 {E : Env} {t e : TypeId} {y ey : Ty} {v : AV} (h1 : E.ty t = some y) (h2 : y.d = .slice e) (h3 : E.ty e = some ey) (h4 : ey.size = 1) (hok : v.ok = true) (hc : v.cells = [v]) : buildSliceA E t 1 [(0, v)] = some (.vs 1 .full [v]) := by
  unfold buildSliceA
  rw [h1]
  dsimp only
  rw [h2]
  dsimp only
  rw [h3]
  dsimp only
  rw [if_pos ⟨by omega, by omega⟩]
  simp [litA, hok, hc, h4]
theorem okE1 {et : Ty} (h : Nat.beq et.size 1 = true) {v : AV} (hok : v.ok = true) (hc : v.cells = [v]) : okElems et [v] = true := by
  have := Nat.eq_of_beq_eq_true h
  simp [okElems, hok, hc, this]
theorem range_map_succ {α : Type} (f : Nat → α) (i : Nat) : (List.range (i + 1)).map f = (List.range i).map f ++ [f i] := by rw [List.range_succ, List.map_append]; rfl
/-- Rows of any bits, as they were appended. -/
def avsOf (l : List (GSl UInt8)) : List AV := l.map fun x => x.av 1 bitAV
theorem plain_avs (t : Nat) (l : List (GSl UInt8)) : AV.plain (accA t 1 (avsOf l)) = rowsAV (GSl.of l) := plain_acc fun a => plain_av bit_plain
theorem vals_gof (l : List (GSl UInt8)) : vals (GSl.of l) = l.map (·.xs) := rfl
theorem gof_fits {l : List (GSl UInt8)} (h1 : l.length < 9223372036854775808) (h2 : ∀ x ∈ l, x.xs.length < 9223372036854775808) : FitsR (GSl.of l) := ⟨h1, h2⟩
end Go.RtlEnv

/- rtl.Run. -/
namespace Go.RtlEnv
open Go Go.Proofs Go.Abs Go.RowKit
set_option maxRecDepth 10000
def clones (r : GRtl) : List (GSl UInt8) := r.regs.xs.map fun h => cloneG h.init
theorem vals_clones (r : GRtl) : vals (GSl.of (clones r)) = initsM r := by
  rw [vals_gof]
  unfold clones initsM
  rw [List.map_map]
  exact List.map_congr_left fun h _ => clone_xs h.init
theorem known_inits (r : GRtl) : allKnown (initsM r) = knownI r := by
  unfold allKnown initsM knownI
  rw [List.all_map]; rfl
theorem clones_succ {r : GRtl} {i : Nat} (h : i < r.regs.xs.length) : avsOf ((clones r).take (i + 1)) = avsOf ((clones r).take i) ++ [(cloneG (r.regs.xs[i]).init).av 1 bitAV] := by
  have hl : (clones r).length = r.regs.xs.length := List.length_map _
  unfold avsOf
  rw [List.take_succ_eq_append_getElem (by omega), List.map_append]
  simp [clones]
def fitK (r : GRtl) (l : GSl (GSl UInt8)) : Bool := fitsM (vals l) (lensI r) && fitsM (initsM r) (lensR r)
theorem acc_bad3 : AV.tup [.nilsl, .int .i64 2] = AV.tup [accA 0 1 (([] : List (List (List UInt8))).map rowsL), .int .i64 2] := rfl
theorem frz_rowsL2 (l m : List (List UInt8)) (st : St) : freezeA st (.tup [rowsAV (ofRows l), rowsAV (ofRows m)]) = some (.tup [rowsAV (ofRows l), rowsAV (ofRows m)], st) := frz_rows2 _ _ st
attribute [local irreducible] WS QS OS OD Abs.Sub SubO SubK CW GSl.av accA SegK rowsAV
section
variable {pr : Prims}
set_option maxHeartbeats 2000000 in
theorem run19 (h1 : pr 19 = none) {p10 p41 p42 p46 p47 : List AV → St → Option (AV × St)} (h10 : pr 10 = some p10) (h41 : pr 41 = some p41) (h42 : pr 42 = some p42) (h46 : pr 46 = some p46) (h47 : pr 47 = some p47) (r : GRtl) (ins : GSl (GSl (GSl UInt8)))
    (hri : ins.xs.length < 9223372036854775808) (hrr : r.regs.xs.length ≤ 1000000)
    (u10 : ∀ st, p10 [rtlAV r] st = some (.bool (validM r), st)) (u46 : ∀ h ∈ r.regs.xs, ∀ st, p46 [h.init.av 1 bitAV] st = some ((cloneG h.init).av 1 bitAV, st))
    (u41 : ∀ l ∈ ins.xs, ∀ t st, p41 [rtlAV r, rowsAV l, accA t 1 (avsOf (clones r))] st = some (.bool (fitK r l), st)) (u47 : ∀ t st, p47 [accA t 1 (avsOf (clones r)), .fn 48 [] []] st = some (.bool (!(knownI r)), st))
    (u42 : ∀ l ∈ ins.xs, ∀ S sg, AV.plain S = rowsAV sg → okM r l sg = true → ∀ st, p42 [rtlAV r, rowsAV l, S] st = some (.tup [rowsAV (ofRows (evalO r l sg)), rowsAV (ofRows (evalN r l sg))], st)) (st : St) :
    CW (En pr) 19 [rtlAV r, rows3 ins] st fun x _ => ∃ t, x = .tup [accA t 1 ((runM r ins.xs).map rowsL), .int .i64 (rcode r ins.xs)] := by
  have hcl : (clones r).length = r.regs.xs.length := List.length_map _
  unfold rows3
  refine CW.start (N := 72) h1 rfl rfl ?_
  repeat' (first | (refine OS.do rfl ?_; first | refine OD.box rfl rfl rfl rfl (rtl_ok _) rfl (fun b2 => ?_) | refine OD.loadP 0 rfl rfl rfl rfl rfl rfl ?_ | refine OD.auto rfl rfl ?_ | refine OD.len rfl rfl (fun _ => lenTy_av rfl rfl) ?_) | refine OS.nil ?_ | refine WS.seq ?_ | refine QS.seqN ?_ | refine WS.region ?_ | refine WS.block ?_)
  refine WS.loop (D := Nat × Nat) (fun d => [(1, ins.av 1 rowsAV), (2, .ptr b2 0 0), (6, accA d.2 1 (avsOf ((clones r).take d.1))), (17, r.regs.av 3 holdAV), (18, .int .i64 r.regs.xs.length), (19, .int .i64 d.1)]) (fun _ => [(b2, .row 4 [rtlAV r])]) (fun d => [(d.2, !(avsOf ((clones r).take d.1)).isEmpty)])
    (fun d => d.1 ≤ r.regs.xs.length) (fun d => r.regs.xs.length + 1 - d.1) (0, 0) (by omega) ?_ (.refl _) (SubK.new (.nil _)) ?_
  · repeat' (first | exact Sub.nil _ | refine Sub.cons (congrArg some (accA_nil _ _).symm) ?_ | refine Sub.cons (congrArg (fun z => some (AV.int .i64 z)) (wrap_succ (by omega))) ?_ | refine Sub.cons rfl ?_)
  rintro ⟨i, tk⟩ hi
  dsimp only at hi ⊢
  repeat' (first | (refine OS.do rfl ?_; first | refine OD.alloc rfl rfl rfl rfl (fun b8 => ?_) | refine OD.call rfl rfl rfl h46 (u46 _ (List.getElem_mem (by omega))) av_frz ?_ | refine OD.buildSlice rfl rfl (build1 rfl rfl rfl rfl (bit_av_ok _) (cells_av1 _)) ?_ | refine OD.append 0 rfl rfl rfl rfl rfl rfl rfl rfl rfl rfl rfl (.inr ⟨⟨_, rfl⟩, rfl⟩) (fun _ => rfl) (okE1 rfl (bit_av_ok _) (cells_av1 _)) rfl (roomB rfl (by simp only [avsOf, List.length_map, List.length_take, List.length_cons, List.length_nil]; omega)) (fun tk' => ?_) | refine OD.call rfl rfl rfl h10 u10 (fun _ => rfl) ?_ | refine OD.loadP 0 rfl rfl rfl rfl rfl rfl ?_ | refine OD.auto rfl rfl ?_ | refine OD.len rfl rfl (fun _ => lenTy_av rfl rfl) ?_ | refine OD.indexAddr rfl rfl rfl (indexAddrA_nat rfl rfl rfl rfl (by first | assumption | exact List.getElem?_eq_getElem (by omega))) ?_ | refine OD.storeW 0 rfl rfl rfl rfl (by first | rfl | exact hold_ok _ | exact word_ok _ | exact rtl_ok _) rfl rfl rfl ?_) | refine OS.nil ?_ | refine OS.skip rfl rfl rfl ?_ | refine WS.seq ?_ | refine QS.seqN ?_ | refine WS.region ?_ | refine WS.condT rfl ?_ | refine WS.condD rfl (fun _ => ?_) (fun _ => ?_) | refine WS.skip ?_ | refine WS.block ?_ | refine WS.ret ?_ | refine QS.seqR ?_ | refine QS.blockN ?_ | refine WS.exit ?_ | refine QS.seqE ?_ | refine QS.blockH ?_ | refine QS.loopE ?_ | ((fail_if_success (refine OS.do rfl ?_)); first | refine OS.splitN rfl rfl rfl (fun _ => ?_) (fun _ => ?_)))
  · have hlt : i < r.regs.xs.length := by omega
    have hA := clones_succ hlt
    refine QS.loopN (i + 1, tk') ?_ ?_ ?_ ?_ ?_
    · dsimp only; omega
    · dsimp only; omega
    · repeat' (first | exact Sub.nil _ | refine Sub.cons (congrArg (fun z => some (accA tk' 1 z)) hA.symm) ?_ | refine Sub.cons (congrArg (fun z => some (AV.int .i64 z)) (wrap_succ (by omega))) ?_ | refine Sub.cons rfl ?_)
    · repeat' (first | exact SubO.nil _ | exact SubO.refl _ | refine SubO.keep ?_ | refine SubO.drop ?_)
    · dsimp only; rw [hA]; exact .refl _
  · rename_i hv
    have hb : runOk r ins.xs = false := by unfold runOk; rw [hv]; rfl
    refine QS.retR (by rfl) fun _ => ⟨0, ?_⟩
    rw [run_bad hb, rcode_bad hb]; exact acc_bad3
  · rename_i hv hn
    have hb : runOk r ins.xs = false := by unfold runOk; rw [hv, decide_eq_false (by omega)]; rfl
    refine QS.retR (by rfl) fun _ => ⟨0, ?_⟩
    rw [run_bad hb, rcode_bad hb]; exact acc_bad3
  rename_i hx hv hn
  have hT : (clones r).take i = clones r := List.take_of_length_le (by omega)
  rw [hT]
  clear hT hx hi
  refine WS.loop (D := Nat) (fun d => [(1, ins.av 1 rowsAV), (2, .ptr b2 0 0), (6, accA tk 1 (avsOf (clones r))), (38, ins.av 1 rowsAV), (39, .int .i64 ins.xs.length), (40, .int .i64 d)]) (fun _ => [(b2, .row 4 [rtlAV r])]) (fun d => [])
    (fun d => d ≤ ins.xs.length ∧ (ins.xs.take d).all (fitK r) = true) (fun d => ins.xs.length + 1 - d) 0 ⟨by omega, by simp⟩ ?_ (.refl _) (.nil _) ?_
  · repeat' (first | exact Sub.nil _ | refine Sub.cons (congrArg (fun z => some (AV.int .i64 z)) (wrap_succ (by omega))) ?_ | refine Sub.cons rfl ?_)
  rintro i ⟨hi, ha⟩
  repeat' (first | (refine OS.do rfl ?_; first | refine OD.indexAddr rfl rfl rfl (idx3 (cells_rows _) rfl rfl rfl rfl (List.getElem?_eq_getElem (by omega))) ?_ | refine OD.call rfl rfl rfl h41 (u41 _ (List.getElem_mem (by omega)) _) (fun _ => rfl) ?_ | refine OD.call rfl rfl rfl h47 (u47 _) (fun _ => rfl) ?_ | refine OD.loadP 0 rfl rfl rfl rfl rfl rfl ?_ | refine OD.auto rfl rfl ?_ | refine OD.len rfl rfl (fun _ => lenTy_av rfl rfl) ?_) | refine OS.nil ?_ | refine WS.seq ?_ | refine QS.seqN ?_ | refine WS.region ?_ | refine WS.condD rfl (fun _ => ?_) (fun _ => ?_) | refine WS.skip ?_ | refine WS.block ?_ | refine WS.ret ?_ | refine QS.seqR ?_ | refine QS.blockR ?_ | refine QS.loopR ?_ | refine QS.blockN ?_ | refine WS.exit ?_ | refine QS.seqE ?_ | refine QS.blockH ?_ | refine QS.loopE ?_ | refine WS.condN rfl (fun _ => ?_) (fun _ => ?_))
  · rename_i hq
    have hlt : i < ins.xs.length := by omega
    have hb : runOk r ins.xs = false := by
      apply Bool.eq_false_iff.2
      intro k
      obtain ⟨_, _, c, d⟩ := runOk_iff.1 k
      unfold fitK at hq
      rw [c _ (List.getElem_mem hlt), fits_inits, d] at hq
      cases hq
    refine QS.retR (by rfl) fun _ => ⟨0, ?_⟩
    rw [run_bad hb, rcode_bad hb]; exact acc_bad3
  · rename_i hq
    refine QS.loopN (i + 1) ?_ ?_ ?_ ?_ ?_
    · exact ⟨by omega, all_take_succ (by omega) ha hq⟩
    · omega
    · repeat' (first | exact Sub.nil _ | refine Sub.cons (congrArg (fun z => some (AV.int .i64 z)) (wrap_succ (by omega))) ?_ | refine Sub.cons rfl ?_)
    · exact .refl _
    · exact .nil _
  · rename_i hq
    have hb : runOk r ins.xs = false := by
      unfold runOk; rw [hq, Bool.and_false]
    refine QS.retR (by rfl) fun _ => ⟨0, ?_⟩
    rw [run_bad hb, rcode_bad hb]; exact acc_bad3
  rename_i hq
  have hall : ins.xs.all (fitK r) = true := all_of_take (i := i) (by omega) ha
  have hok : runOk r ins.xs = true := by
    refine runOk_iff.2 ⟨hv, by omega, fun l hl => ?_, hq⟩
    have := List.all_eq_true.1 hall l hl
    unfold fitK at this
    rw [Bool.and_eq_true] at this
    exact this.1
  rw [run_ok hok, rcode_ok hok]
  have hlen : ins.xs.length ≤ 1000 := (runOk_iff.1 hok).2.1
  clear hi ha hq hall
  refine WS.loop (D := Nat × Nat × AV × GSl (GSl UInt8)) (fun d => [(2, .ptr b2 0 0), (6, d.2.2.1), (11, accA d.2.1 1 ((List.range d.1).map fun t => rowsL (ouM r ins.xs t))), (52, ins.av 1 rowsAV), (53, .int .i64 ins.xs.length), (54, .int .i64 d.1)]) (fun _ => [(b2, .row 4 [rtlAV r])]) (fun d => [(d.2.1, !((List.range d.1).map fun t => rowsL (ouM r ins.xs t)).isEmpty)])
    (fun d => d.1 ≤ ins.xs.length ∧ AV.plain d.2.2.1 = rowsAV d.2.2.2 ∧ vals d.2.2.2 = stM r ins.xs d.1) (fun d => ins.xs.length + 1 - d.1) (0, 0, accA tk 1 (avsOf (clones r)), GSl.of (clones r)) ⟨by omega, plain_avs _ _, vals_clones r⟩ ?_ (.refl _) (SubK.new (.nil _)) ?_
  · repeat' (first | exact Sub.nil _ | refine Sub.cons (congrArg some (accA_nil _ _).symm) ?_ | refine Sub.cons (congrArg (fun z => some (AV.int .i64 z)) (wrap_succ (by omega))) ?_ | refine Sub.cons rfl ?_)
  rintro ⟨i, tk3, S, sg⟩ ⟨hi, hS, hsg⟩
  dsimp only at hi hS hsg ⊢
  repeat' (first | (refine OS.do rfl ?_; first | refine OD.indexAddr rfl rfl rfl (idx3 (cells_rows _) rfl rfl rfl rfl (List.getElem?_eq_getElem (by omega))) ?_ | refine OD.call rfl rfl rfl h42 (u42 _ (List.getElem_mem (by omega)) S sg hS (st_ok hok (by omega) hsg)) (frz_rowsL2 _ _) ?_ | refine OD.buildSlice rfl rfl (build1 rfl rfl rfl rfl (ok_rows _) (cells_rows _)) ?_ | refine OD.append 0 rfl rfl rfl rfl rfl rfl rfl rfl rfl rfl rfl (.inr ⟨⟨_, rfl⟩, rfl⟩) (fun _ => rfl) (okE1 rfl (ok_rows _) (cells_rows _)) rfl (roomB rfl (by simp only [List.length_map, List.length_range, List.length_cons, List.length_nil]; omega)) (fun tk' => ?_) | refine OD.loadP 0 rfl rfl rfl rfl rfl rfl ?_ | refine OD.auto rfl rfl ?_) | refine OS.nil ?_ | refine WS.seq ?_ | refine QS.seqN ?_ | refine WS.region ?_ | refine WS.condD rfl (fun _ => ?_) (fun _ => ?_) | refine WS.skip ?_ | refine WS.block ?_ | refine WS.ret ?_ | refine QS.blockN ?_ | refine WS.exit ?_ | refine QS.seqE ?_ | refine QS.blockH ?_ | refine QS.loopE ?_)
  · have hlt : i < ins.xs.length := by omega
    have hA : (List.range (i + 1)).map (fun t => rowsL (ouM r ins.xs t)) = (List.range i).map (fun t => rowsL (ouM r ins.xs t)) ++ [rowsAV (ofRows (evalO r ins.xs[i] sg))] := by
      rw [range_map_succ, ou_at hlt hsg]; rfl
    refine QS.loopN (i + 1, tk', rowsAV (ofRows (evalN r ins.xs[i] sg)), ofRows (evalN r ins.xs[i] sg)) ?_ ?_ ?_ ?_ ?_
    · exact ⟨by dsimp only; omega, rowsAV_plain _, by dsimp only; rw [vals_of, st_succ hlt hsg]⟩
    · dsimp only; omega
    · repeat' (first | exact Sub.nil _ | refine Sub.cons (congrArg (fun z => some (accA tk' 1 z)) hA.symm) ?_ | refine Sub.cons (congrArg (fun z => some (AV.int .i64 z)) (wrap_succ (by omega))) ?_ | refine Sub.cons rfl ?_)
    · exact .refl _
    · dsimp only; rw [hA]; exact .refl _
  · have e : i = ins.xs.length := by omega
    subst e
    refine QS.retR (by rfl) fun _ => ⟨tk3, ?_⟩
    rw [List.map_map]; rfl
end
end Go.RtlEnv

/- netwrightref21.Run. -/
namespace Go.RtlEnv
open Go Go.Proofs Go.Abs Go.RowKit
set_option maxRecDepth 10000
def initG (r : GRtl) : List (GSl UInt8) := r.regs.xs.map fun h => h.init
theorem vals_initG (r : GRtl) : vals (GSl.of (initG r)) = initsM r := by
  rw [vals_gof]
  unfold initG initsM
  rw [List.map_map]; rfl
theorem initG_succ {r : GRtl} {i : Nat} (h : i < r.regs.xs.length) : avsOf ((initG r).take (i + 1)) = avsOf ((initG r).take i) ++ [((r.regs.xs[i]).init).av 1 bitAV] := by
  have hl : (initG r).length = r.regs.xs.length := List.length_map _
  unfold avsOf
  rw [List.take_succ_eq_append_getElem (by omega), List.map_append]
  simp [initG]
theorem frz_rowsL3 (l m : List (List UInt8)) (n : Int) (st : St) : freezeA st (.tup [rowsAV (ofRows l), rowsAV (ofRows m), .int .i64 n]) = some (.tup [rowsAV (ofRows l), rowsAV (ofRows m), .int .i64 n], st) := frz_rows3 _ _ _ st
attribute [local irreducible] WS QS OS OD Abs.Sub SubO SubK CW GSl.av accA SegK rowsAV lensAV
section
variable {pr : Prims}
set_option maxHeartbeats 2000000 in
theorem run20 (h1 : pr 20 = none) {p11 p26 p44 p38 p15 : List AV → St → Option (AV × St)} (h11 : pr 11 = some p11) (h26 : pr 26 = some p26) (h44 : pr 44 = some p44) (h38 : pr 38 = some p38) (h15 : pr 15 = some p15) (r : GRtl) (ins : GSl (GSl (GSl UInt8)))
    (hri : ins.xs.length < 9223372036854775808) (hrr : r.regs.xs.length ≤ 1000000)
    (u11 : ∀ st, p11 [rtlAV r] st = some (.bool (validM r), st)) (u26 : ∀ st, p26 [rtlAV r] st = some (.tup [lensAV (lensI r), lensAV (lensR r)], st))
    (u44 : ∀ l ∈ ins.xs, ∀ st, p44 [rowsAV l, lensAV (lensI r)] st = some (.bool (fitsM (vals l) (lensI r)), st)) (u38 : ∀ h ∈ r.regs.xs, ∀ st, p38 [h.init.av 1 bitAV, .int .u8 1] st = some (.bool (upto 1 h.init.xs), st))
    (u15 : ∀ l ∈ ins.xs, ∀ S sg, AV.plain S = rowsAV sg → okM r l sg = true → ∀ st, p15 [rtlAV r, rowsAV l, S] st = some (.tup [rowsAV (ofRows (evalO r l sg)), rowsAV (ofRows (evalN r l sg)), .int .i64 0], st)) (st : St) :
    CW (En pr) 20 [rtlAV r, rows3 ins] st fun x _ => ∃ t, x = .tup [accA t 1 ((runM r ins.xs).map rowsL), .int .i64 (rcode r ins.xs)] := by
  have hcl : (initG r).length = r.regs.xs.length := List.length_map _
  unfold rows3
  refine CW.start (N := 81) h1 rfl rfl ?_
  repeat' (first | (refine OS.do rfl ?_; first | refine OD.box rfl rfl rfl rfl (rtl_ok _) rfl (fun b2 => ?_) | refine OD.call rfl rfl rfl h11 u11 (fun _ => rfl) ?_ | refine OD.call rfl rfl rfl h26 u26 (frz_lens _ _) ?_ | refine OD.loadP 0 rfl rfl rfl rfl rfl rfl ?_ | refine OD.auto rfl rfl ?_ | refine OD.len rfl rfl (fun _ => lenTy_av rfl rfl) ?_) | refine OS.nil ?_ | refine OS.skip rfl rfl rfl ?_ | refine WS.seq ?_ | refine QS.seqN ?_ | refine WS.region ?_ | refine WS.condT rfl ?_ | refine WS.condD rfl (fun _ => ?_) (fun _ => ?_) | refine WS.skip ?_ | refine WS.block ?_ | refine WS.ret ?_ | refine QS.seqR ?_ | ((fail_if_success (refine OS.do rfl ?_)); first | refine OS.splitN rfl rfl rfl (fun _ => ?_) (fun _ => ?_)))
  · rename_i hv
    have hb : runOk r ins.xs = false := by unfold runOk; rw [hv]; rfl
    refine QS.retR (by rfl) fun _ => ⟨0, ?_⟩
    rw [run_bad hb, rcode_bad hb]; exact acc_bad3
  · rename_i hv hn
    have hb : runOk r ins.xs = false := by unfold runOk; rw [hv, decide_eq_false (by omega)]; rfl
    refine QS.retR (by rfl) fun _ => ⟨0, ?_⟩
    rw [run_bad hb, rcode_bad hb]; exact acc_bad3
  rename_i hv hn
  refine WS.loop (D := Nat) (fun d => [(1, ins.av 1 rowsAV), (2, .ptr b2 0 0), (6, lensAV (lensI r)), (32, ins.av 1 rowsAV), (33, .int .i64 ins.xs.length), (34, .int .i64 d)]) (fun _ => [(b2, .row 4 [rtlAV r])]) (fun d => [])
    (fun d => d ≤ ins.xs.length ∧ (ins.xs.take d).all (fun l => fitsM (vals l) (lensI r)) = true) (fun d => ins.xs.length + 1 - d) 0 ⟨by omega, by simp⟩ ?_ (.refl _) (.nil _) ?_
  · repeat' (first | exact Sub.nil _ | refine Sub.cons (congrArg (fun z => some (AV.int .i64 z)) (wrap_succ (by omega))) ?_ | refine Sub.cons rfl ?_)
  rintro i ⟨hi, ha⟩
  repeat' (first | (refine OS.do rfl ?_; first | refine OD.indexAddr rfl rfl rfl (idx3 (cells_rows _) rfl rfl rfl rfl (List.getElem?_eq_getElem (by omega))) ?_ | refine OD.call rfl rfl rfl h44 (u44 _ (List.getElem_mem (by omega))) (fun _ => rfl) ?_ | refine OD.loadP 0 rfl rfl rfl rfl rfl rfl ?_ | refine OD.auto rfl rfl ?_ | refine OD.len rfl rfl (fun _ => lenTy_av rfl rfl) ?_) | refine OS.nil ?_ | refine WS.seq ?_ | refine QS.seqN ?_ | refine WS.region ?_ | refine WS.condD rfl (fun _ => ?_) (fun _ => ?_) | refine WS.skip ?_ | refine WS.block ?_ | refine WS.ret ?_ | refine QS.seqR ?_ | refine QS.blockR ?_ | refine QS.loopR ?_ | refine QS.blockN ?_ | refine WS.exit ?_ | refine QS.seqE ?_ | refine QS.blockH ?_ | refine QS.loopE ?_ | refine WS.condN rfl (fun _ => ?_) (fun _ => ?_))
  · rename_i hq
    have hlt : i < ins.xs.length := by omega
    have hb : runOk r ins.xs = false := by
      apply Bool.eq_false_iff.2
      intro k
      obtain ⟨_, _, c, d⟩ := runOk_iff.1 k
      rw [c _ (List.getElem_mem hlt)] at hq
      cases hq
    refine QS.retR (by rfl) fun _ => ⟨0, ?_⟩
    rw [run_bad hb, rcode_bad hb]; exact acc_bad3
  · rename_i hq
    refine QS.loopN (i + 1) ?_ ?_ ?_ ?_ ?_
    · exact ⟨by omega, all_take_succ (by omega) ha hq⟩
    · omega
    · repeat' (first | exact Sub.nil _ | refine Sub.cons (congrArg (fun z => some (AV.int .i64 z)) (wrap_succ (by omega))) ?_ | refine Sub.cons rfl ?_)
    · exact .refl _
    · exact .nil _
  have hall : ins.xs.all (fun l => fitsM (vals l) (lensI r)) = true := all_of_take (i := i) (by omega) ha
  rename_i hq
  clear hi ha hq
  refine WS.loop (D := Nat × Nat) (fun d => [(1, ins.av 1 rowsAV), (2, .ptr b2 0 0), (10, accA d.2 1 (avsOf ((initG r).take d.1))), (44, r.regs.av 3 holdAV), (45, .int .i64 r.regs.xs.length), (46, .int .i64 d.1)]) (fun _ => [(b2, .row 4 [rtlAV r])]) (fun d => [(d.2, !(avsOf ((initG r).take d.1)).isEmpty)])
    (fun d => d.1 ≤ r.regs.xs.length ∧ (r.regs.xs.take d.1).all (fun h => upto 1 h.init.xs) = true) (fun d => r.regs.xs.length + 1 - d.1) (0, 0) ⟨by omega, by simp⟩ ?_ (.refl _) (SubK.new (.nil _)) ?_
  · repeat' (first | exact Sub.nil _ | refine Sub.cons (congrArg some (accA_nil _ _).symm) ?_ | refine Sub.cons (congrArg (fun z => some (AV.int .i64 z)) (wrap_succ (by omega))) ?_ | refine Sub.cons rfl ?_)
  rintro ⟨i, tk⟩ ⟨hi, ha⟩
  dsimp only at hi ha ⊢
  repeat' (first | (refine OS.do rfl ?_; first | refine OD.alloc rfl rfl rfl rfl (fun b8 => ?_) | refine OD.call rfl rfl rfl h38 (u38 _ (List.getElem_mem (by omega))) (fun _ => rfl) ?_ | refine OD.buildSlice rfl rfl (build1 rfl rfl rfl rfl (bit_av_ok _) (cells_av1 _)) ?_ | refine OD.append 0 rfl rfl rfl rfl rfl rfl rfl rfl rfl rfl rfl (.inr ⟨⟨_, rfl⟩, rfl⟩) (fun _ => rfl) (okE1 rfl (bit_av_ok _) (cells_av1 _)) rfl (roomB rfl (by simp only [avsOf, List.length_map, List.length_take, List.length_cons, List.length_nil]; omega)) (fun tk' => ?_) | refine OD.loadP 0 rfl rfl rfl rfl rfl rfl ?_ | refine OD.auto rfl rfl ?_ | refine OD.len rfl rfl (fun _ => lenTy_av rfl rfl) ?_ | refine OD.indexAddr rfl rfl rfl (indexAddrA_nat rfl rfl rfl rfl (by first | assumption | exact List.getElem?_eq_getElem (by omega))) ?_ | refine OD.storeW 0 rfl rfl rfl rfl (by first | rfl | exact hold_ok _ | exact word_ok _ | exact rtl_ok _) rfl rfl rfl ?_) | refine OS.nil ?_ | refine WS.seq ?_ | refine QS.seqN ?_ | refine WS.region ?_ | refine WS.condD rfl (fun _ => ?_) (fun _ => ?_) | refine WS.skip ?_ | refine WS.block ?_ | refine WS.ret ?_ | refine QS.seqR ?_ | refine QS.blockR ?_ | refine QS.loopR ?_ | refine QS.blockN ?_ | refine WS.exit ?_ | refine QS.seqE ?_ | refine QS.blockH ?_ | refine QS.loopE ?_ | refine WS.condN rfl (fun _ => ?_) (fun _ => ?_))
  · rename_i hq
    have hlt : i < r.regs.xs.length := by omega
    have hb : runOk r ins.xs = false := by
      apply Bool.eq_false_iff.2
      intro k
      obtain ⟨_, _, c, d⟩ := runOk_iff.1 k
      unfold knownI at d
      rw [List.all_eq_true] at d
      rw [d _ (List.getElem_mem hlt)] at hq
      cases hq
    refine QS.retR (by rfl) fun _ => ⟨0, ?_⟩
    rw [run_bad hb, rcode_bad hb]; exact acc_bad3
  · rename_i hq
    have hlt : i < r.regs.xs.length := by omega
    have hA := initG_succ hlt
    refine QS.loopN (i + 1, tk') ?_ ?_ ?_ ?_ ?_
    · exact ⟨by dsimp only; omega, all_take_succ (by omega) ha hq⟩
    · dsimp only; omega
    · repeat' (first | exact Sub.nil _ | refine Sub.cons (congrArg (fun z => some (accA tk' 1 z)) hA.symm) ?_ | refine Sub.cons (congrArg (fun z => some (AV.int .i64 z)) (wrap_succ (by omega))) ?_ | refine Sub.cons rfl ?_)
    · repeat' (first | exact SubO.nil _ | exact SubO.refl _ | refine SubO.keep ?_ | refine SubO.drop ?_)
    · dsimp only; rw [hA]; exact .refl _
  have hk : knownI r = true := all_of_take (i := i) (by omega) ha
  have hT : (initG r).take i = initG r := List.take_of_length_le (by omega)
  rw [hT]
  have hok : runOk r ins.xs = true := runOk_iff.2 ⟨hv, by omega, fun l hl => List.all_eq_true.1 hall l hl, hk⟩
  rw [run_ok hok, rcode_ok hok]
  have hlen : ins.xs.length ≤ 1000 := (runOk_iff.1 hok).2.1
  rename_i hq
  clear hT hq hi ha hall
  refine WS.loop (D := Nat × Nat × AV × GSl (GSl UInt8)) (fun d => [(2, .ptr b2 0 0), (10, d.2.2.1), (13, accA d.2.1 1 ((List.range d.1).map fun t => rowsL (ouM r ins.xs t))), (60, ins.av 1 rowsAV), (61, .int .i64 ins.xs.length), (62, .int .i64 d.1)]) (fun _ => [(b2, .row 4 [rtlAV r])]) (fun d => [(d.2.1, !((List.range d.1).map fun t => rowsL (ouM r ins.xs t)).isEmpty)])
    (fun d => d.1 ≤ ins.xs.length ∧ AV.plain d.2.2.1 = rowsAV d.2.2.2 ∧ vals d.2.2.2 = stM r ins.xs d.1) (fun d => ins.xs.length + 1 - d.1) (0, 0, accA tk 1 (avsOf (initG r)), GSl.of (initG r)) ⟨by omega, plain_avs _ _, vals_initG r⟩ ?_ (.refl _) (SubK.new (.nil _)) ?_
  · repeat' (first | exact Sub.nil _ | refine Sub.cons (congrArg some (accA_nil _ _).symm) ?_ | refine Sub.cons (congrArg (fun z => some (AV.int .i64 z)) (wrap_succ (by omega))) ?_ | refine Sub.cons rfl ?_)
  rintro ⟨i, tk3, S, sg⟩ ⟨hi, hS, hsg⟩
  dsimp only at hi hS hsg ⊢
  repeat' (first | (refine OS.do rfl ?_; first | refine OD.indexAddr rfl rfl rfl (idx3 (cells_rows _) rfl rfl rfl rfl (List.getElem?_eq_getElem (by omega))) ?_ | refine OD.call rfl rfl rfl h15 (u15 _ (List.getElem_mem (by omega)) S sg hS (st_ok hok (by omega) hsg)) (frz_rowsL3 _ _ _) ?_ | refine OD.buildSlice rfl rfl (build1 rfl rfl rfl rfl (ok_rows _) (cells_rows _)) ?_ | refine OD.append 0 rfl rfl rfl rfl rfl rfl rfl rfl rfl rfl rfl (.inr ⟨⟨_, rfl⟩, rfl⟩) (fun _ => rfl) (okE1 rfl (ok_rows _) (cells_rows _)) rfl (roomB rfl (by simp only [List.length_map, List.length_range, List.length_cons, List.length_nil]; omega)) (fun tk' => ?_) | refine OD.loadP 0 rfl rfl rfl rfl rfl rfl ?_ | refine OD.auto rfl rfl ?_) | refine OS.nil ?_ | refine WS.seq ?_ | refine QS.seqN ?_ | refine WS.region ?_ | refine WS.condD rfl (fun _ => ?_) (fun _ => ?_) | refine WS.skip ?_ | refine WS.block ?_ | refine WS.ret ?_ | refine QS.blockN ?_ | refine WS.exit ?_ | refine QS.seqE ?_ | refine QS.blockH ?_ | refine QS.loopE ?_)
  · have hlt : i < ins.xs.length := by omega
    have hA : (List.range (i + 1)).map (fun t => rowsL (ouM r ins.xs t)) = (List.range i).map (fun t => rowsL (ouM r ins.xs t)) ++ [rowsAV (ofRows (evalO r ins.xs[i] sg))] := by
      rw [range_map_succ, ou_at hlt hsg]; rfl
    refine QS.loopN (i + 1, tk', rowsAV (ofRows (evalN r ins.xs[i] sg)), ofRows (evalN r ins.xs[i] sg)) ?_ ?_ ?_ ?_ ?_
    · exact ⟨by dsimp only; omega, rowsAV_plain _, by dsimp only; rw [vals_of, st_succ hlt hsg]⟩
    · dsimp only; omega
    · repeat' (first | exact Sub.nil _ | refine Sub.cons (congrArg (fun z => some (accA tk' 1 z)) hA.symm) ?_ | refine Sub.cons (congrArg (fun z => some (AV.int .i64 z)) (wrap_succ (by omega))) ?_ | refine Sub.cons rfl ?_)
    · exact .refl _
    · dsimp only; rw [hA]; exact .refl _
  · have e : i = ins.xs.length := by omega
    subst e
    refine QS.retR (by rfl) fun _ => ⟨tk3, ?_⟩
    rw [List.map_map]; rfl
end
end Go.RtlEnv
