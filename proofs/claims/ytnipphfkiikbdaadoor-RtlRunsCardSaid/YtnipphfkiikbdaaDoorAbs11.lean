/- Own text of this claim: part 11 of an interpreter that is proved sound against the model, and of what it shows of the law. -/
import Derived.Test.YtnipphfkiikbdaaDoorAbs8
/- The reference's word. -/
namespace Go.RtlEnv
open Go Go.Proofs Go.Abs Go.RowKit
set_option maxRecDepth 10000
attribute [local irreducible] WS QS OS OD Abs.Sub SubO SubK CW GSl.av accA
theorem finalM_all {r : GRtl} {op len n : Int} {bits : List UInt8} {l : List Int} {s : Int} (h : op ≠ 1 ∧ op ≠ 2 ∧ op ≠ 3 ∧ op ≠ 11 ∧ op ≠ 12 ∧ op ≠ 13 ∧ op ≠ 14 ∧ op ≠ 15 ∧ op ≠ 16 ∧ op ≠ 17) : finalM r op len n bits l s = l.all fun x => decide (x = len) := by
  unfold finalM
  rw [if_neg (by omega), if_neg (by omega), if_neg (by omega), if_neg (by omega), if_neg (by omega), if_neg (by omega), if_neg (by omega), if_neg (by omega)]
theorem okKids_bad {op : Int} {n : Nat} (h : (kids57 op).1 < 0 ∨ (n : Int) < (kids57 op).1 ∨ (kids57 op).2 < n) : okKids op n = false := decide_eq_false (by omega)
section
variable {pr : Prims}
set_option maxHeartbeats 4000000 in
theorem run40 (h1 : pr 40 = none) {p57 p38 p37 : List AV → St → Option (AV × St)} (h57 : pr 57 = some p57) (u57 : ∀ (op : Int) st, p57 [.int .i64 op] st = some (.tup [.int .i64 (kids57 op).1, .int .i64 (kids57 op).2], st))
    (h37 : pr 37 = some p37) (u37 : ∀ (n : Int) st, p37 [.int .i64 n] st = some (.bool (decide (1 ≤ n ∧ n ≤ 4096)), st))
    (h38 : pr 38 = some p38) (r : GRtl) (k : Nat) (w : GWord) (hw : r.words.xs[k]? = some w) (u38 : ∀ st, p38 [w.bits.av 1 bitAV, .int .u8 1] st = some (.bool (upto 1 w.bits.xs), st)) (st : St) :
    CW (En pr) 40 [rtlAV r, .int .i64 k] st fun x _ => x = .bool (wordM r k) := by
  have hk : k < r.words.xs.length := (List.getElem?_eq_some_iff.1 hw).1
  rw [wordM_at hw]
  refine CW.start (N := 264) h1 rfl rfl ?_
  repeat' (first | refine WS.cut (a := .seq (.region 3 _ _) _) [(0, rtlAV r), (1, .int .i64 k), (2, .ptr b2 0 0), (5, .ptr b5 0 0)] [(b5, .row 5 [wordAV w]), (b2, .row 4 [rtlAV r])] [] (okKids w.op w.kids.xs.length = true ∧ (1 ≤ w.len ∧ w.len ≤ 4096)) ?_ (fun hh => ?_) | (refine OS.do rfl ?_; first | refine OD.box rfl rfl rfl rfl (rtl_ok _) rfl (fun b2 => ?_) | refine OD.alloc rfl rfl rfl rfl (fun b5 => ?_) | refine OD.loadP 0 rfl rfl rfl rfl rfl rfl ?_ | refine OD.auto rfl rfl ?_ | refine OD.len rfl rfl (fun _ => lenTy_av rfl rfl) ?_ | refine OD.indexAddr rfl rfl rfl (indexAddrA_nat rfl rfl rfl rfl (by first | assumption | exact List.getElem?_eq_getElem (by omega))) ?_ | refine OD.storeW 0 rfl rfl rfl rfl (by first | rfl | exact hold_ok _ | exact word_ok _ | exact rtl_ok _) rfl rfl rfl ?_ | refine OD.call rfl rfl rfl h57 (u57 _) (fun _ => rfl) ?_ | refine OD.call rfl rfl rfl h37 (u37 _) (fun _ => rfl) ?_) | refine OS.nil ?_ | refine OS.skip rfl rfl rfl ?_ | refine WS.seq ?_ | refine QS.seqN ?_ | refine WS.region ?_ | refine WS.condT rfl ?_ | refine WS.skip ?_ | refine WS.block ?_ | refine WS.ret ?_ | refine QS.cutR ?_ | refine WS.condN rfl (fun _ => ?_) (fun _ => ?_) | ((fail_if_success (refine OS.do rfl ?_)); first | refine OS.splitD rfl rfl rfl (fun _ => ?_) (fun _ => ?_)))
  all_goals try (refine QS.retR (by rfl) fun _ => ?_; rw [wordW_head (by first | exact headM_len (by omega) | exact headM_len (of_decide_eq_false (by assumption)) | exact headM_kids (okKids_bad (by omega)))]; rfl)
  all_goals try (refine QS.cutN ⟨decide_eq_true (by omega), of_decide_eq_true (by assumption)⟩ ?_ ?_ (.nil _)
                 · repeat' (first | exact Sub.nil _ | refine Sub.cons (congrArg (fun z => some (AV.int .i64 z)) (wrap_succ (by omega))) ?_ | refine Sub.cons rfl ?_)
                 · repeat' (first | exact SubO.nil _ | exact SubO.refl _ | refine SubO.keep ?_ | refine SubO.drop ?_))
  obtain ⟨hok, hhl⟩ := hh
  have hkl : w.kids.xs.length ≤ 500 := okKids_le hok
  obtain ⟨hk2, hk3, hk1⟩ := okKids_two hok
  obtain ⟨ls, hls⟩ : ∃ ls, ls = w.kids.xs.map (wlen r.words.xs) := ⟨_, rfl⟩
  have hll : ls.length = w.kids.xs.length := by rw [hls]; simp
  have hlt : ∀ (i : Nat) (h : i < w.kids.xs.length) (h' : i < ls.length), ls[i] = wlen r.words.xs w.kids.xs[i] := fun i h h' => by subst hls; simp
  refine WS.loop (D := Nat × Nat) (fun d => [(0, rtlAV r), (1, .int .i64 k), (2, .ptr b2 0 0), (5, .ptr b5 0 0), (8, accA d.2 1 ((ls.take d.1).map intAV)), (9, .int .i64 (sumW (ls.take d.1))), (48, w.kids.av 1 intAV), (49, .int .i64 w.kids.xs.length), (50, .int .i64 d.1)])
      (fun _ => [(b5, .row 5 [wordAV w]), (b2, .row 4 [rtlAV r])]) (fun d => [(d.2, !((ls.take d.1).map intAV).isEmpty)])
      (fun d => d.1 ≤ w.kids.xs.length ∧ (w.kids.xs.take d.1).all (kidIn k) = true) (fun d => w.kids.xs.length + 1 - d.1) (0, 0) ⟨by omega, by simp⟩ ?_ ?_ ?_ ?_
  · repeat' (first | exact Sub.nil _ | refine Sub.cons (congrArg some (accA_zero _ _ _ _).symm) ?_ | refine Sub.cons (congrArg (fun z => some (AV.int .i64 z)) (wrap_succ (by omega))) ?_ | refine Sub.cons rfl ?_)
  · repeat' (first | exact SubO.nil _ | exact SubO.refl _ | refine SubO.keep ?_ | refine SubO.drop ?_)
  · repeat' (first | exact SubK.nil _ | exact SubK.refl _ | refine SubK.keep (by simp) ?_ | refine SubK.new ?_ | refine SubK.drop ?_)
  rintro ⟨i, tk⟩ ⟨hi, ha⟩
  dsimp only at hi ha ⊢
  repeat' (first | refine WS.cut (a := .seq (.region 15 _ _) _) [(0, rtlAV r), (1, .int .i64 k), (2, .ptr b2 0 0), (5, .ptr b5 0 0), (8, accA tk 1 (ls.map intAV)), (9, .int .i64 (sumW ls))] [(b5, .row 5 [wordAV w]), (b2, .row 4 [rtlAV r])] [(tk, !(ls.map intAV).isEmpty)] (wordW r k w = finalM r w.op w.len w.n w.bits.xs ls (sumW ls)) ?_ ?_ | (refine OS.do rfl ?_; first | refine OD.loadP 0 rfl rfl rfl rfl rfl rfl ?_ | refine OD.auto rfl rfl ?_ | refine OD.loadP 1 rfl rfl rfl rfl rfl rfl ?_ | refine OD.len rfl rfl (fun _ => lenTy_av rfl rfl) ?_ | refine OD.indexAddr rfl rfl rfl (indexAddrA_nat rfl rfl rfl rfl (by first | assumption | exact List.getElem?_eq_getElem (by omega))) ?_ | refine OD.indexAddr rfl rfl rfl (indexAddrA_int rfl rfl rfl rfl (by first | assumption | omega) (by first | assumption | exact List.getElem?_eq_getElem (by omega))) ?_ | refine OD.append 0 rfl rfl rfl rfl rfl rfl rfl rfl rfl rfl rfl (.inr ⟨⟨_, rfl⟩, rfl⟩) (fun _ => rfl) rfl rfl (roomB rfl (by simp only [List.length_map, List.length_take, List.length_cons, List.length_nil]; omega)) (fun tk' => ?_)) | refine OS.nil ?_ | refine OS.skip rfl rfl rfl ?_ | refine WS.seq ?_ | refine QS.seqN ?_ | refine WS.region ?_ | refine WS.condT rfl ?_ | refine WS.condF rfl ?_ | refine WS.condD rfl (fun _ => ?_) (fun _ => ?_) | refine WS.skip ?_ | refine WS.block ?_ | refine WS.ret ?_ | refine QS.seqR ?_ | refine QS.blockR ?_ | refine QS.loopR ?_ | refine QS.blockN ?_ | refine WS.exit ?_ | refine QS.seqE ?_ | refine QS.blockH ?_ | refine QS.loopE ?_ | refine QS.cutR ?_ | refine WS.condNe rfl (fun _ => ?_) (fun _ => ?_) | ((fail_if_success (refine OS.do rfl ?_)); first | refine OS.splitD rfl rfl rfl (fun _ => ?_) (fun _ => ?_) | refine OS.splitNe rfl rfl rfl (fun _ => ?_) (fun _ => ?_)))
  all_goals try (refine QS.retR (by rfl) fun _ => ?_; rw [wordW_kids (all_false (i := i) (by omega) (decide_eq_false (by omega)))]; rfl)
  all_goals try (refine QS.retR (by rfl) fun _ => ?_; rw [wordW_flag (flagM_false (by omega))]; rfl)
  all_goals try (refine QS.retR (by rfl) fun _ => ?_; rw [wordW_head (headM_bits (by omega))]; rfl)
  all_goals try (refine QS.loopN (i + 1, tk') ?_ ?_ ?_ ?_ ?_
                 · exact ⟨by omega, all_take_succ (by omega) ha (decide_eq_true (by omega))⟩
                 · dsimp only; omega
                 · have hkk : (w.kids.xs[i]).toNat < r.words.xs.length := by omega
                   have hA : (ls.take (i + 1)).map intAV = (ls.take i).map intAV ++ [.int .i64 (r.words.xs[(w.kids.xs[i]).toNat]).len] := by
                     rw [List.take_succ_eq_append_getElem (by omega), List.map_append, hlt i (by omega) (by omega), wlen_at hkk]; rfl
                   have hS : sumW (ls.take (i + 1)) = IntKind.i64.wrap (sumW (ls.take i) + (r.words.xs[(w.kids.xs[i]).toNat]).len) := by
                     rw [sumW_take (by omega), hlt i (by omega) (by omega), wlen_at hkk]
                   repeat' (first | exact Sub.nil _ | refine Sub.cons (congrArg (fun z => some (accA tk' 1 z)) hA.symm) ?_ | refine Sub.cons (congrArg (fun z => some (AV.int .i64 z)) hS.symm) ?_ | refine Sub.cons (congrArg (fun z => some (AV.int .i64 z)) (wrap_succ (by omega))) ?_ | refine Sub.cons rfl ?_)
                 · exact .refl _
                 · exact SubK.keep (fun _ => by simp) (.refl _))
  all_goals try (have hT : ls.take i = ls := List.take_of_length_le (by omega)
                 rw [hT]
                 refine QS.cutN ?_ ?_ ?_ ?_
                 · rw [hls]; exact wordW_final (headM_true hok hhl (by omega)) (all_of_take (i := i) (by omega) ha) (flagM_true (by omega))
                 · repeat' (first | exact Sub.nil _ | refine Sub.cons (congrArg (fun z => some (AV.int .i64 z)) (wrap_succ (by omega))) ?_ | refine Sub.cons rfl ?_)
                 · exact .refl _
                 · exact .refl _)
  intro hh
  repeat' (first | (refine OS.do rfl ?_; first | refine OD.loadP 0 rfl rfl rfl rfl rfl rfl ?_ | refine OD.auto rfl rfl ?_ | refine OD.loadP 1 rfl rfl rfl rfl rfl rfl ?_ | refine OD.len rfl rfl (fun _ => lenTy_av rfl rfl) ?_ | refine OD.indexAddr rfl rfl rfl (indexAddrA_int rfl rfl rfl rfl (by first | assumption | omega) (by first | assumption | exact List.getElem?_eq_getElem (by omega))) ?_ | refine OD.indexAddr rfl rfl rfl (indexAddrA_accm rfl rfl rfl rfl (by first | assumption | omega) (by first | assumption | exact List.getElem?_eq_getElem (by omega))) ?_ | refine OD.len rfl rfl (fun _ => lenTy_accm rfl rfl) ?_ | refine OD.call rfl rfl rfl h38 u38 (fun _ => rfl) ?_) | refine OS.nil ?_ | refine OS.skip rfl rfl rfl ?_ | refine WS.seq ?_ | refine QS.seqN ?_ | refine WS.region ?_ | refine WS.condT rfl ?_ | refine WS.condE rfl (fun _ => ?_) (fun _ => ?_) | refine WS.skip ?_ | refine WS.block ?_ | refine WS.ret ?_ | refine QS.seqR ?_ | refine QS.blockR ?_ | refine QS.blockN ?_ | refine WS.draw rfl rfl ?_ | ((fail_if_success (refine OS.do rfl ?_)); first | refine OS.splitD rfl rfl rfl (fun _ => ?_) (fun _ => ?_)))
  all_goals try (
    refine WS.loop (D := Nat) (fun j => [(5, .ptr b5 0 0), (253, accA tk 1 (ls.map intAV)), (254, .int .i64 ls.length), (255, .int .i64 j)]) (fun _ => [(b5, .row 5 [wordAV w])]) (fun _ => [])
      (fun j => j ≤ ls.length ∧ (ls.take j).all (fun x => decide (x = w.len)) = true) (fun j => ls.length + 1 - j) 0 ⟨by omega, by simp⟩ ?_ (.keep (.nil _)) (.nil _) ?_
    · repeat' (first | exact Sub.nil _ | refine Sub.cons (congrArg (fun z => some (AV.int .i64 z)) (wrap_succ (by omega))) ?_ | refine Sub.cons rfl ?_)
    rintro j ⟨hj, hb⟩
    repeat' (first | (refine OS.do rfl ?_; first | refine OD.loadP 0 rfl rfl rfl rfl rfl rfl ?_ | refine OD.auto rfl rfl ?_ | refine OD.indexAddr rfl rfl rfl (indexAddrA_accn rfl rfl rfl rfl (by first | assumption | exact List.getElem?_eq_getElem (by omega))) ?_) | refine OS.nil ?_ | refine WS.seq ?_ | refine QS.seqN ?_ | refine WS.region ?_ | refine WS.condD rfl (fun _ => ?_) (fun _ => ?_) | refine WS.skip ?_ | refine WS.block ?_ | refine WS.ret ?_ | refine QS.seqR ?_ | refine QS.blockR ?_ | refine QS.loopR ?_ | refine QS.blockN ?_ | refine WS.exit ?_ | refine QS.seqE ?_ | refine QS.blockH ?_ | refine QS.loopE ?_ | refine WS.condNe rfl (fun _ => ?_) (fun _ => ?_))
    all_goals try (refine QS.loopN (j + 1) ?_ ?_ ?_ ?_ ?_
                   · exact ⟨by omega, all_take_succ (by omega) hb (decide_eq_true (by assumption))⟩
                   · omega
                   · repeat' (first | exact Sub.nil _ | refine Sub.cons (congrArg (fun z => some (AV.int .i64 z)) (wrap_succ (by omega))) ?_ | refine Sub.cons rfl ?_)
                   · exact .refl _
                   · exact .nil _)
    all_goals try (refine QS.retR (by rfl) fun _ => ?_; rw [hh, finalM_all (by omega), all_of_take (by omega) hb]; rfl)
    all_goals (refine QS.retR (by rfl) fun _ => ?_; rw [hh, finalM_all (by omega), all_false (i := j) (f := fun (x : Int) => decide (x = w.len)) (by omega) (decide_eq_false (by assumption))]; rfl))
  all_goals (refine QS.retR (by rfl) fun _ => ?_
             rw [hh]
             show AV.bool _ = AV.bool _
             congr 1
             unfold finalM
             repeat' split)
  all_goals first
    | (exfalso; omega)
    | rfl
    | (rw [decide_eq_true (by assumption)]; simp; done)
    | (rw [decide_eq_false (by omega)]; rfl)
    | (rw [decide_eq_false (by omega)])
    | (rw [decide_eq_true (by omega), List.getElem?_eq_getElem (by omega)]; simp [int_beq]; done)
    | (rw [at0_eq (i := 0) (by omega), at0_eq (i := 1) (by omega), at0_eq (i := 2) (by omega)]; exact decide_eq_decide.2 ⟨fun h => ⟨by assumption, by assumption, h⟩, fun h => h.2.2⟩)
    | (rw [at0_eq (i := 0) (by omega), at0_eq (i := 1) (by omega), at0_eq (i := 2) (by omega)]; exact (decide_eq_false fun h => absurd h.2.1 (by assumption)).symm)
    | (rw [at0_eq (i := 0) (by omega), at0_eq (i := 1) (by omega), at0_eq (i := 2) (by omega)]; exact (decide_eq_false fun h => absurd h.1 (by assumption)).symm)
    | (rw [at0_eq (i := 0) (by omega), at0_eq (i := 1) (by omega)]; exact decide_eq_decide.2 ⟨fun h => ⟨by assumption, h⟩, fun h => h.2⟩)
    | (rw [at0_eq (i := 0) (by omega), at0_eq (i := 1) (by omega)]; exact (decide_eq_false fun h => absurd h.1 (by assumption)).symm)
    | (have hl : ls.length = 1 := by omega
       obtain ⟨a, rfl⟩ := List.length_eq_one_iff.1 hl
       simp_all [at0, int_beq]; done)
    | (simp [int_beq]; done)
    | (simp [int_beq]; intros; omega)
end
end Go.RtlEnv
