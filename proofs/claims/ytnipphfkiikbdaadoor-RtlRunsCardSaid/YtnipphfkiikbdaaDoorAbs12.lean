/- Own text of this claim: part 12 of an interpreter that is proved sound against the model, and of what it shows of the law. -/
import Derived.Test.YtnipphfkiikbdaaDoorAbs8
import Derived.Test.YtnipphfkiikbdaaDoorAbs6
/- rtl.Valid. -/
namespace Go.RtlEnv
open Go Go.Proofs Go.Abs Go.RowKit
set_option maxRecDepth 10000
def laneOk (l : GLane) : Bool := decide (1 ≤ l.len ∧ l.len ≤ 4096 ∧ l.word = 0)
def holdOk (h : GHold) : Bool := decide (1 ≤ h.init.xs.length ∧ h.init.xs.length ≤ 4096) && upto 2 h.init.xs
def atLen (r : GRtl) (k n : Int) : Bool := decide (0 ≤ k ∧ k < r.words.xs.length ∧ wlen r.words.xs k = n)
def nextOk (r : GRtl) (h : GHold) : Bool := atLen r h.next h.init.xs.length
def outOk (r : GRtl) (l : GLane) : Bool := atLen r l.word l.len
def wordsOk (r : GRtl) : Bool := (List.range r.words.xs.length).all (wordM r)
def headV (r : GRtl) : Bool := namesM (r.ins.xs.map (·.name)) && namesM (r.outs.xs.map (·.name)) && namesM (r.regs.xs.map (·.name)) && decide (r.words.xs.length ≤ 20000)
def validM (r : GRtl) : Bool := headV r && r.ins.xs.all laneOk && r.regs.xs.all holdOk && wordsOk r && r.regs.xs.all (nextOk r) && r.outs.xs.all (outOk r)
theorem validM_head {r : GRtl} (h : headV r = false) : validM r = false := by simp only [validM, h, Bool.false_and]
theorem validM_ins {r : GRtl} (h : r.ins.xs.all laneOk = false) : validM r = false := by simp only [validM, h, Bool.false_and, Bool.and_false]
theorem validM_regs {r : GRtl} (h : r.regs.xs.all holdOk = false) : validM r = false := by simp only [validM, h, Bool.false_and, Bool.and_false]
theorem validM_words {r : GRtl} (h : wordsOk r = false) : validM r = false := by simp only [validM, h, Bool.false_and, Bool.and_false]
theorem validM_next {r : GRtl} (h : r.regs.xs.all (nextOk r) = false) : validM r = false := by simp only [validM, h, Bool.false_and, Bool.and_false]
theorem validM_outs {r : GRtl} (h : r.outs.xs.all (outOk r) = false) : validM r = false := by simp only [validM, h, Bool.and_false]
theorem validM_true {r : GRtl} (h1 : headV r = true) (h2 : r.ins.xs.all laneOk = true) (h3 : r.regs.xs.all holdOk = true) (h4 : wordsOk r = true) (h5 : r.regs.xs.all (nextOk r) = true) (h6 : r.outs.xs.all (outOk r) = true) : validM r = true := by
  simp only [validM, h1, h2, h3, h4, h5, h6, Bool.and_self]
theorem range_take {n i : Nat} (h : i ≤ n) : (List.range n).take i = List.range i := by rw [List.take_range, Nat.min_eq_left h]
structure Fits (r : GRtl) : Prop where
  ins : r.ins.xs.length < 9223372036854775808
  regs : r.regs.xs.length < 9223372036854775808
  words : r.words.xs.length < 9223372036854775808
  outs : r.outs.xs.length < 9223372036854775808
  insN : ∀ x ∈ r.ins.xs, x.name.size < 9223372036854775808
  outsN : ∀ x ∈ r.outs.xs, x.name.size < 9223372036854775808
  regsN : ∀ x ∈ r.regs.xs, x.name.size < 9223372036854775808
  inits : ∀ x ∈ r.regs.xs, x.init.xs.length < 9223372036854775808
  kids : ∀ x ∈ r.words.xs, x.kids.xs.length < 9223372036854775808
  bits : ∀ x ∈ r.words.xs, x.bits.xs.length < 9223372036854775808
theorem headV_false {r : GRtl} (h : namesM (r.ins.xs.map (·.name)) = false ∨ namesM (r.outs.xs.map (·.name)) = false ∨ namesM (r.regs.xs.map (·.name)) = false ∨ ¬ r.words.xs.length ≤ 20000) : headV r = false := by
  unfold headV
  rcases h with h | h | h | h
  · rw [h]; rfl
  · rw [h, Bool.and_false]; rfl
  · rw [h, Bool.and_false]; rfl
  · rw [decide_eq_false h, Bool.and_false]
theorem words_false {r : GRtl} {i : Nat} (h : i < r.words.xs.length) (hb : wordM r i = false) : wordsOk r = false := by
  have := all_false (xs := List.range r.words.xs.length) (f := wordM r) (i := i) (by simpa using h) (by simpa using hb)
  exact this
attribute [local irreducible] WS QS OS OD Abs.Sub SubO SubK CW GSl.av accA
section
variable {pr : Prims}
set_option maxHeartbeats 4000000 in
theorem run10 (h1 : pr 10 = none) {p30 p32 p34 p36 : List AV → St → Option (AV × St)} (r : GRtl) (hr : Fits r) (h30 : pr 30 = some p30) (h32 : pr 32 = some p32) (h34 : pr 34 = some p34) (h36 : pr 36 = some p36)
    (u30 : ∀ st, p30 [r.ins.av 3 laneAV, .fn 31 [] []] st = some (.bool (namesM (r.ins.xs.map (·.name))), st))
    (u30' : ∀ st, p30 [r.outs.av 3 laneAV, .fn 31 [] []] st = some (.bool (namesM (r.outs.xs.map (·.name))), st))
    (u32 : ∀ st, p32 [r.regs.av 3 holdAV, .fn 33 [] []] st = some (.bool (namesM (r.regs.xs.map (·.name))), st))
    (u34 : ∀ (s : GSl UInt8) st, s.xs.length < 9223372036854775808 → p34 [s.av 1 bitAV, .fn 35 [] []] st = some (.bool (!(upto 2 s.xs)), st))
    (u36 : ∀ (k : Nat) st, k < r.words.xs.length → p36 [rtlAV r, .int .i64 k] st = some (.bool (wordM r k), st)) (st : St) :
    CW (En pr) 10 [rtlAV r] st fun x _ => x = .bool (validM r) := by
  obtain ⟨f1, f2, f3, f4, _, _, _, _, _, _⟩ := hr
  refine CW.start (N := 152) h1 rfl rfl ?_
  repeat' (first | refine WS.cut (a := .seq (.region 1 _ _) _) [(1, .ptr b1 0 0)] [(b1, .row 4 [rtlAV r])] [] (headV r = true) ?_ ?_ | (refine OS.do rfl ?_; first | refine OD.box rfl rfl rfl rfl (rtl_ok _) rfl (fun b1 => ?_) | refine OD.loadP 0 rfl rfl rfl rfl rfl rfl ?_ | refine OD.auto rfl rfl ?_ | refine OD.len rfl rfl (fun _ => lenTy_av rfl rfl) ?_ | refine OD.call rfl rfl rfl h30 u30 (fun _ => rfl) ?_ | refine OD.call rfl rfl rfl h30 u30' (fun _ => rfl) ?_ | refine OD.call rfl rfl rfl h32 u32 (fun _ => rfl) ?_) | refine OS.nil ?_ | refine OS.skip rfl rfl rfl ?_ | refine WS.seq ?_ | refine QS.seqN ?_ | refine WS.region ?_ | refine WS.condT rfl ?_ | refine WS.condD rfl (fun _ => ?_) (fun _ => ?_) | refine WS.skip ?_ | refine WS.ret ?_ | refine QS.cutR ?_ | ((fail_if_success (refine OS.do rfl ?_)); first | refine OS.splitN rfl rfl rfl (fun _ => ?_) (fun _ => ?_)))
  all_goals try (refine QS.retR (by rfl) fun _ => ?_; rw [validM_head (headV_false (by first | exact .inl (by assumption) | exact .inr (.inl (by assumption)) | exact .inr (.inr (.inl (by assumption))) | exact .inr (.inr (.inr (by omega)))))]; rfl)
  all_goals try (refine QS.cutN ?_ ?_ ?_ ?_
                 · unfold headV; simp only [*, Bool.true_and]; exact decide_eq_true (by omega)
                 · repeat' (first | exact Sub.nil _ | refine Sub.cons (congrArg (fun z => some (AV.int .i64 z)) (wrap_succ (by omega))) ?_ | refine Sub.cons rfl ?_)
                 · exact .refl _
                 · exact .refl _)
  intro hh
  repeat' (first | (refine OS.do rfl ?_; first | refine OD.loadP 0 rfl rfl rfl rfl rfl rfl ?_ | refine OD.auto rfl rfl ?_ | refine OD.len rfl rfl (fun _ => lenTy_av rfl rfl) ?_) | refine OS.nil ?_ | refine WS.seq ?_ | refine QS.seqN ?_ | refine WS.region ?_ | refine WS.block ?_)
  refine WS.loop (D := Nat) (fun i => [(1, .ptr b1 0 0), (35, r.ins.av 3 laneAV), (36, .int .i64 r.ins.xs.length), (37, .int .i64 i)]) (fun _ => [(b1, .row 4 [rtlAV r])]) (fun _ => [])
    (fun i => i ≤ r.ins.xs.length ∧ (r.ins.xs.take i).all laneOk = true) (fun i => r.ins.xs.length + 1 - i) 0 ⟨by omega, by simp⟩ ?_ (by repeat' (first | exact SubO.nil _ | exact SubO.refl _ | refine SubO.keep ?_ | refine SubO.drop ?_)) (.nil _) ?_
  · repeat' (first | exact Sub.nil _ | refine Sub.cons (congrArg (fun z => some (AV.int .i64 z)) (wrap_succ (by omega))) ?_ | refine Sub.cons rfl ?_)
  rintro i ⟨hi, ha⟩
  repeat' (first | (refine OS.do rfl ?_; first | refine OD.loadP 0 rfl rfl rfl rfl rfl rfl ?_ | refine OD.auto rfl rfl ?_ | refine OD.len rfl rfl (fun _ => lenTy_av rfl rfl) ?_ | refine OD.indexAddr rfl rfl rfl (indexAddrA_nat rfl rfl rfl rfl (by first | assumption | exact List.getElem?_eq_getElem (by omega))) ?_ | refine OD.alloc rfl rfl rfl rfl (fun _ => ?_) | refine OD.storeW 0 rfl rfl rfl rfl (by first | rfl | exact hold_ok _ | exact word_ok _ | exact rtl_ok _) rfl rfl rfl ?_) | refine OS.nil ?_ | refine OS.skip rfl rfl rfl ?_ | refine WS.seq ?_ | refine QS.seqN ?_ | refine WS.region ?_ | refine WS.condT rfl ?_ | refine WS.condD rfl (fun _ => ?_) (fun _ => ?_) | refine WS.skip ?_ | refine WS.block ?_ | refine WS.ret ?_ | refine QS.seqR ?_ | refine QS.blockR ?_ | refine QS.loopR ?_ | refine QS.blockN ?_ | refine WS.exit ?_ | refine QS.seqE ?_ | refine QS.blockH ?_ | refine QS.loopE ?_ | refine WS.condNe rfl (fun _ => ?_) (fun _ => ?_) | ((fail_if_success (refine OS.do rfl ?_)); first | refine OS.splitD rfl rfl rfl (fun _ => ?_) (fun _ => ?_)))
  all_goals try (refine QS.loopN (i + 1) ?_ ?_ ?_ ?_ ?_
                 · exact ⟨by omega, all_take_succ (by omega) ha (decide_eq_true (by omega))⟩
                 · omega
                 · repeat' (first | exact Sub.nil _ | refine Sub.cons (congrArg (fun z => some (AV.int .i64 z)) (wrap_succ (by omega))) ?_ | refine Sub.cons rfl ?_)
                 · repeat' (first | exact SubO.nil _ | exact SubO.refl _ | refine SubO.keep ?_ | refine SubO.drop ?_)
                 · exact .nil _)
  all_goals try (refine QS.retR (by rfl) fun _ => ?_; rw [validM_ins (all_false (i := i) (by omega) (decide_eq_false (by omega)))]; rfl)
  have a1 : r.ins.xs.all laneOk = true := all_of_take (i := i) (by omega) ha
  clear ha hi
  refine WS.loop (D := Nat) (fun i => [(1, .ptr b1 0 0), (56, r.regs.av 3 holdAV), (57, .int .i64 r.regs.xs.length), (58, .int .i64 i)]) (fun _ => [(b1, .row 4 [rtlAV r])]) (fun _ => [])
    (fun i => i ≤ r.regs.xs.length ∧ (r.regs.xs.take i).all holdOk = true) (fun i => r.regs.xs.length + 1 - i) 0 ⟨by omega, by simp⟩ ?_ (by repeat' (first | exact SubO.nil _ | exact SubO.refl _ | refine SubO.keep ?_ | refine SubO.drop ?_)) (.nil _) ?_
  · repeat' (first | exact Sub.nil _ | refine Sub.cons (congrArg (fun z => some (AV.int .i64 z)) (wrap_succ (by omega))) ?_ | refine Sub.cons rfl ?_)
  rintro i ⟨hi, ha⟩
  repeat' (first | (refine OS.do rfl ?_; first | refine OD.loadP 0 rfl rfl rfl rfl rfl rfl ?_ | refine OD.auto rfl rfl ?_ | refine OD.len rfl rfl (fun _ => lenTy_av rfl rfl) ?_ | refine OD.indexAddr rfl rfl rfl (indexAddrA_nat rfl rfl rfl rfl (by first | assumption | exact List.getElem?_eq_getElem (by omega))) ?_ | refine OD.alloc rfl rfl rfl rfl (fun _ => ?_) | refine OD.storeW 0 rfl rfl rfl rfl (by first | rfl | exact hold_ok _ | exact word_ok _ | exact rtl_ok _) rfl rfl rfl ?_ | refine OD.call rfl rfl rfl h34 (fun st => u34 _ st (by omega)) (fun _ => rfl) ?_) | refine OS.nil ?_ | refine OS.skip rfl rfl rfl ?_ | refine WS.seq ?_ | refine QS.seqN ?_ | refine WS.region ?_ | refine WS.condT rfl ?_ | refine WS.condD rfl (fun _ => ?_) (fun _ => ?_) | refine WS.skip ?_ | refine WS.block ?_ | refine WS.ret ?_ | refine QS.seqR ?_ | refine QS.blockR ?_ | refine QS.loopR ?_ | refine QS.blockN ?_ | refine WS.exit ?_ | refine QS.seqE ?_ | refine QS.blockH ?_ | refine QS.loopE ?_ | refine WS.condN rfl (fun _ => ?_) (fun _ => ?_) | ((fail_if_success (refine OS.do rfl ?_)); first | refine OS.splitD rfl rfl rfl (fun _ => ?_) (fun _ => ?_)))
  all_goals try (refine QS.loopN (i + 1) ?_ ?_ ?_ ?_ ?_
                 · exact ⟨by omega, all_take_succ (by omega) ha (by unfold holdOk; rw [decide_eq_true (by omega), Bool.true_and]; assumption)⟩
                 · omega
                 · repeat' (first | exact Sub.nil _ | refine Sub.cons (congrArg (fun z => some (AV.int .i64 z)) (wrap_succ (by omega))) ?_ | refine Sub.cons rfl ?_)
                 · repeat' (first | exact SubO.nil _ | exact SubO.refl _ | refine SubO.keep ?_ | refine SubO.drop ?_)
                 · exact .nil _)
  all_goals try (refine QS.retR (by rfl) fun _ => ?_; rw [validM_regs (all_false (i := i) (by omega) (by unfold holdOk; first | rw [decide_eq_false (by omega), Bool.false_and] | (rw [Bool.and_eq_false_iff]; right; assumption)))]; rfl)
  have a2 : r.regs.xs.all holdOk = true := all_of_take (i := i) (by omega) ha
  clear ha hi
  refine WS.loop (D := Nat) (fun i => [(1, .ptr b1 0 0), (79, r.words.av 5 wordAV), (80, .int .i64 r.words.xs.length), (81, .int .i64 i)]) (fun _ => [(b1, .row 4 [rtlAV r])]) (fun _ => [])
    (fun i => i ≤ r.words.xs.length ∧ (List.range i).all (wordM r) = true) (fun i => r.words.xs.length + 1 - i) 0 ⟨by omega, by simp⟩ ?_ (by repeat' (first | exact SubO.nil _ | exact SubO.refl _ | refine SubO.keep ?_ | refine SubO.drop ?_)) (.nil _) ?_
  · repeat' (first | exact Sub.nil _ | refine Sub.cons (congrArg (fun z => some (AV.int .i64 z)) (wrap_succ (by omega))) ?_ | refine Sub.cons rfl ?_)
  rintro i ⟨hi, ha⟩
  repeat' (first | (refine OS.do rfl ?_; first | refine OD.loadP 0 rfl rfl rfl rfl rfl rfl ?_ | refine OD.auto rfl rfl ?_ | refine OD.len rfl rfl (fun _ => lenTy_av rfl rfl) ?_ | refine OD.call rfl rfl rfl h36 (fun st => u36 _ st (by omega)) (fun _ => rfl) ?_) | refine OS.nil ?_ | refine WS.seq ?_ | refine QS.seqN ?_ | refine WS.region ?_ | refine WS.condD rfl (fun _ => ?_) (fun _ => ?_) | refine WS.skip ?_ | refine WS.block ?_ | refine WS.ret ?_ | refine QS.seqR ?_ | refine QS.blockR ?_ | refine QS.loopR ?_ | refine QS.blockN ?_ | refine WS.exit ?_ | refine QS.seqE ?_ | refine QS.blockH ?_ | refine QS.loopE ?_ | refine WS.condN rfl (fun _ => ?_) (fun _ => ?_))
  all_goals try (refine QS.loopN (i + 1) ?_ ?_ ?_ ?_ ?_
                 · exact ⟨by omega, by rw [List.range_succ, List.all_append, ha]; simp only [List.all_cons, List.all_nil, Bool.and_true, Bool.true_and]; assumption⟩
                 · omega
                 · repeat' (first | exact Sub.nil _ | refine Sub.cons (congrArg (fun z => some (AV.int .i64 z)) (wrap_succ (by omega))) ?_ | refine Sub.cons rfl ?_)
                 · repeat' (first | exact SubO.nil _ | exact SubO.refl _ | refine SubO.keep ?_ | refine SubO.drop ?_)
                 · exact .nil _)
  all_goals try (refine QS.retR (by rfl) fun _ => ?_; rw [validM_words (words_false (i := i) (by omega) (by assumption))]; rfl)
  have a3 : wordsOk r = true := by
    have e : i = r.words.xs.length := by omega
    subst e; exact ha
  clear ha hi
  refine WS.loop (D := Nat) (fun i => [(1, .ptr b1 0 0), (90, r.regs.av 3 holdAV), (91, .int .i64 r.regs.xs.length), (92, .int .i64 i)]) (fun _ => [(b1, .row 4 [rtlAV r])]) (fun _ => [])
    (fun i => i ≤ r.regs.xs.length ∧ (r.regs.xs.take i).all (nextOk r) = true) (fun i => r.regs.xs.length + 1 - i) 0 ⟨by omega, by simp⟩ ?_ (by repeat' (first | exact SubO.nil _ | exact SubO.refl _ | refine SubO.keep ?_ | refine SubO.drop ?_)) (.nil _) ?_
  · repeat' (first | exact Sub.nil _ | refine Sub.cons (congrArg (fun z => some (AV.int .i64 z)) (wrap_succ (by omega))) ?_ | refine Sub.cons rfl ?_)
  rintro i ⟨hi, ha⟩
  repeat' (first | (refine OS.do rfl ?_; first | refine OD.loadP 0 rfl rfl rfl rfl rfl rfl ?_ | refine OD.auto rfl rfl ?_ | refine OD.loadP 1 rfl rfl rfl rfl rfl rfl ?_ | refine OD.len rfl rfl (fun _ => lenTy_av rfl rfl) ?_ | refine OD.indexAddr rfl rfl rfl (indexAddrA_nat rfl rfl rfl rfl (by first | assumption | exact List.getElem?_eq_getElem (by omega))) ?_ | refine OD.indexAddr rfl rfl rfl (indexAddrA_int rfl rfl rfl rfl (by first | assumption | omega) (by first | assumption | exact List.getElem?_eq_getElem (by omega))) ?_ | refine OD.alloc rfl rfl rfl rfl (fun _ => ?_) | refine OD.storeW 0 rfl rfl rfl rfl (by first | rfl | exact hold_ok _ | exact word_ok _ | exact rtl_ok _) rfl rfl rfl ?_) | refine OS.nil ?_ | refine OS.skip rfl rfl rfl ?_ | refine WS.seq ?_ | refine QS.seqN ?_ | refine WS.region ?_ | refine WS.condT rfl ?_ | refine WS.condD rfl (fun _ => ?_) (fun _ => ?_) | refine WS.skip ?_ | refine WS.block ?_ | refine WS.ret ?_ | refine QS.seqR ?_ | refine QS.blockR ?_ | refine QS.loopR ?_ | refine QS.blockN ?_ | refine WS.exit ?_ | refine QS.seqE ?_ | refine QS.blockH ?_ | refine QS.loopE ?_ | refine WS.draw rfl rfl ?_ | refine WS.condNe rfl (fun _ => ?_) (fun _ => ?_) | ((fail_if_success (refine OS.do rfl ?_)); first | refine OS.splitD rfl rfl rfl (fun _ => ?_) (fun _ => ?_)))
  all_goals try (refine QS.loopN (i + 1) ?_ ?_ ?_ ?_ ?_
                 · exact ⟨by omega, all_take_succ (by omega) ha (decide_eq_true ⟨by omega, by omega, by rw [wlen_at (by omega)]; assumption⟩)⟩
                 · omega
                 · repeat' (first | exact Sub.nil _ | refine Sub.cons (congrArg (fun z => some (AV.int .i64 z)) (wrap_succ (by omega))) ?_ | refine Sub.cons rfl ?_)
                 · repeat' (first | exact SubO.nil _ | exact SubO.refl _ | refine SubO.keep ?_ | refine SubO.drop ?_)
                 · exact .nil _)
  all_goals try (refine QS.retR (by rfl) fun _ => ?_; rw [validM_next (all_false (i := i) (by omega) (by first | exact decide_eq_false (by omega) | exact decide_eq_false fun h => absurd h.2.2 (by rw [wlen_at (by omega)]; assumption)))]; rfl)
  have a4 : r.regs.xs.all (nextOk r) = true := all_of_take (i := i) (by omega) ha
  clear ha hi
  refine WS.loop (D := Nat) (fun i => [(1, .ptr b1 0 0), (122, r.outs.av 3 laneAV), (123, .int .i64 r.outs.xs.length), (124, .int .i64 i)]) (fun _ => [(b1, .row 4 [rtlAV r])]) (fun _ => [])
    (fun i => i ≤ r.outs.xs.length ∧ (r.outs.xs.take i).all (outOk r) = true) (fun i => r.outs.xs.length + 1 - i) 0 ⟨by omega, by simp⟩ ?_ (by repeat' (first | exact SubO.nil _ | exact SubO.refl _ | refine SubO.keep ?_ | refine SubO.drop ?_)) (.nil _) ?_
  · repeat' (first | exact Sub.nil _ | refine Sub.cons (congrArg (fun z => some (AV.int .i64 z)) (wrap_succ (by omega))) ?_ | refine Sub.cons rfl ?_)
  rintro i ⟨hi, ha⟩
  repeat' (first | (refine OS.do rfl ?_; first | refine OD.loadP 0 rfl rfl rfl rfl rfl rfl ?_ | refine OD.auto rfl rfl ?_ | refine OD.loadP 1 rfl rfl rfl rfl rfl rfl ?_ | refine OD.len rfl rfl (fun _ => lenTy_av rfl rfl) ?_ | refine OD.indexAddr rfl rfl rfl (indexAddrA_nat rfl rfl rfl rfl (by first | assumption | exact List.getElem?_eq_getElem (by omega))) ?_ | refine OD.indexAddr rfl rfl rfl (indexAddrA_int rfl rfl rfl rfl (by first | assumption | omega) (by first | assumption | exact List.getElem?_eq_getElem (by omega))) ?_ | refine OD.alloc rfl rfl rfl rfl (fun _ => ?_) | refine OD.storeW 0 rfl rfl rfl rfl (by first | rfl | exact hold_ok _ | exact word_ok _ | exact rtl_ok _) rfl rfl rfl ?_) | refine OS.nil ?_ | refine OS.skip rfl rfl rfl ?_ | refine WS.seq ?_ | refine QS.seqN ?_ | refine WS.region ?_ | refine WS.condT rfl ?_ | refine WS.condD rfl (fun _ => ?_) (fun _ => ?_) | refine WS.skip ?_ | refine WS.block ?_ | refine WS.ret ?_ | refine QS.seqR ?_ | refine QS.blockR ?_ | refine QS.loopR ?_ | refine QS.blockN ?_ | refine WS.exit ?_ | refine QS.seqE ?_ | refine QS.blockH ?_ | refine QS.loopE ?_ | refine WS.draw rfl rfl ?_ | refine WS.condNe rfl (fun _ => ?_) (fun _ => ?_) | ((fail_if_success (refine OS.do rfl ?_)); first | refine OS.splitD rfl rfl rfl (fun _ => ?_) (fun _ => ?_)))
  all_goals try (refine QS.loopN (i + 1) ?_ ?_ ?_ ?_ ?_
                 · exact ⟨by omega, all_take_succ (by omega) ha (decide_eq_true ⟨by omega, by omega, by rw [wlen_at (by omega)]; assumption⟩)⟩
                 · omega
                 · repeat' (first | exact Sub.nil _ | refine Sub.cons (congrArg (fun z => some (AV.int .i64 z)) (wrap_succ (by omega))) ?_ | refine Sub.cons rfl ?_)
                 · repeat' (first | exact SubO.nil _ | exact SubO.refl _ | refine SubO.keep ?_ | refine SubO.drop ?_)
                 · exact .nil _)
  all_goals try (refine QS.retR (by rfl) fun _ => ?_; rw [validM_outs (all_false (i := i) (by omega) (by first | exact decide_eq_false (by omega) | exact decide_eq_false fun h => absurd h.2.2 (by rw [wlen_at (by omega)]; assumption)))]; rfl)
  refine QS.retR (by rfl) fun _ => ?_
  rw [validM_true hh a1 a2 a3 a4 (all_of_take (i := i) (by omega) ha)]; rfl
end
end Go.RtlEnv

/- The reference's Valid. -/
namespace Go.RtlEnv
open Go Go.Proofs Go.Abs Go.RowKit
set_option maxRecDepth 10000
theorem lane_yes {l : GLane} (h1 : decide (1 ≤ l.len ∧ l.len ≤ 4096) = true) (h2 : l.word = 0) : laneOk l = true := by
  have := of_decide_eq_true h1
  exact decide_eq_true (by omega)
theorem lane_no1 {l : GLane} (h1 : decide (1 ≤ l.len ∧ l.len ≤ 4096) = false) : laneOk l = false := by
  have := of_decide_eq_false h1
  exact decide_eq_false (by omega)
theorem hold_yes {h : GHold} (h1 : decide (1 ≤ (h.init.xs.length : Int) ∧ (h.init.xs.length : Int) ≤ 4096) = true) (h2 : upto 2 h.init.xs = true) : holdOk h = true := by
  have := of_decide_eq_true h1
  unfold holdOk
  rw [decide_eq_true (by omega), h2]; rfl
theorem hold_no1 {h : GHold} (h1 : decide (1 ≤ (h.init.xs.length : Int) ∧ (h.init.xs.length : Int) ≤ 4096) = false) : holdOk h = false := by
  have := of_decide_eq_false h1
  unfold holdOk
  rw [decide_eq_false (by omega), Bool.false_and]
theorem hold_no2 {h : GHold} (h2 : upto 2 h.init.xs = false) : holdOk h = false := by
  unfold holdOk
  rw [h2, Bool.and_false]
attribute [local irreducible] WS QS OS OD Abs.Sub SubO SubK CW GSl.av accA
section
variable {pr : Prims}
set_option maxHeartbeats 4000000 in
theorem run11 (h1 : pr 11 = none) {p37 p38 p39 p40 : List AV → St → Option (AV × St)} (r : GRtl) (hr : Fits r) (h37 : pr 37 = some p37) (h38 : pr 38 = some p38) (h39 : pr 39 = some p39) (h40 : pr 40 = some p40)
    (u37 : ∀ (n : Int) st, p37 [.int .i64 n] st = some (.bool (decide (1 ≤ n ∧ n ≤ 4096)), st))
    (u38 : ∀ (s : GSl UInt8) st, s.xs.length < 9223372036854775808 → p38 [s.av 1 bitAV, .int .u8 2] st = some (.bool (upto 2 s.xs), st))
    (u39 : ∀ (t : Nat) (l : List ByteArray) st, p39 [accA t 1 (l.map strAV)] st = some (.bool (namesM l), st))
    (u40 : ∀ (k : Nat) st, k < r.words.xs.length → p40 [rtlAV r, .int .i64 k] st = some (.bool (wordM r k), st)) (st : St) :
    CW (En pr) 11 [rtlAV r] st fun x _ => x = .bool (validM r) := by
  obtain ⟨f1, f2, f3, f4, _, _, _, f8, _, _⟩ := hr
  refine CW.start (N := 185) h1 rfl rfl ?_
  repeat' (first | refine WS.cut (a := .seq (.region 1 _ _) _) [(1, .ptr b1 0 0)] [(b1, .row 4 [rtlAV r])] [] (r.words.xs.length ≤ 20000 ∧ r.ins.xs.length ≤ 500 ∧ r.regs.xs.length ≤ 500 ∧ r.outs.xs.length ≤ 500) ?_ ?_ | (refine OS.do rfl ?_; first | refine OD.box rfl rfl rfl rfl (rtl_ok _) rfl (fun b1 => ?_) | refine OD.loadP 0 rfl rfl rfl rfl rfl rfl ?_ | refine OD.auto rfl rfl ?_ | refine OD.len rfl rfl (fun _ => lenTy_av rfl rfl) ?_) | refine OS.nil ?_ | refine OS.skip rfl rfl rfl ?_ | refine WS.seq ?_ | refine QS.seqN ?_ | refine WS.region ?_ | refine WS.condT rfl ?_ | refine WS.condD rfl (fun _ => ?_) (fun _ => ?_) | refine WS.skip ?_ | refine WS.ret ?_ | refine QS.cutR ?_ | ((fail_if_success (refine OS.do rfl ?_)); first | refine OS.splitD rfl rfl rfl (fun _ => ?_) (fun _ => ?_)))
  all_goals try (refine QS.retR (by rfl) fun _ => ?_; rw [validM_head (headV_false (by first | exact .inr (.inr (.inr (by omega))) | exact .inl (namesM_len (by rw [List.length_map]; omega)) | exact .inr (.inl (namesM_len (by rw [List.length_map]; omega))) | exact .inr (.inr (.inl (namesM_len (by rw [List.length_map]; omega))))))]; rfl)
  all_goals try (refine QS.cutN ?_ ?_ ?_ ?_
                 · omega
                 · repeat' (first | exact Sub.nil _ | refine Sub.cons (congrArg (fun z => some (AV.int .i64 z)) (wrap_succ (by omega))) ?_ | refine Sub.cons rfl ?_)
                 · exact .refl _
                 · exact .refl _)
  rintro ⟨g1, g2, g3, g4⟩
  repeat' (first | (refine OS.do rfl ?_; first | refine OD.loadP 0 rfl rfl rfl rfl rfl rfl ?_ | refine OD.auto rfl rfl ?_ | refine OD.len rfl rfl (fun _ => lenTy_av rfl rfl) ?_) | refine OS.nil ?_ | refine WS.seq ?_ | refine QS.seqN ?_ | refine WS.region ?_ | refine WS.block ?_)
  refine WS.loop (D := Nat × Nat) (fun d => [(1, .ptr b1 0 0), (3, accA d.2 1 (((r.ins.xs.map (·.name)).take d.1).map strAV)), (4, .nilsl), (5, .nilsl), (40, r.ins.av 3 laneAV), (41, .int .i64 r.ins.xs.length), (42, .int .i64 d.1)]) (fun _ => [(b1, .row 4 [rtlAV r])]) (fun d => (d.2, !(((r.ins.xs.map (·.name)).take d.1).map strAV).isEmpty) :: [])
    (fun d => d.1 ≤ r.ins.xs.length ∧ (r.ins.xs.take d.1).all laneOk = true) (fun d => r.ins.xs.length + 1 - d.1) (0, 0) ⟨by omega, by simp⟩ ?_ (by repeat' (first | exact SubO.nil _ | exact SubO.refl _ | refine SubO.keep ?_ | refine SubO.drop ?_)) (by repeat' (first | exact SubK.nil _ | exact SubK.refl _ | refine SubK.keep (by simp) ?_ | refine SubK.new ?_ | refine SubK.drop ?_)) ?_
  · repeat' (first | exact Sub.nil _ | refine Sub.cons (congrArg some (accA_zero _ _ _ _).symm) ?_ | refine Sub.cons (congrArg (fun z => some (AV.int .i64 z)) (wrap_succ (by omega))) ?_ | refine Sub.cons rfl ?_)
  rintro ⟨i, tk3⟩ ⟨hi, ha⟩
  dsimp only at hi ha ⊢
  have hml : (r.ins.xs.map (·.name)).length = r.ins.xs.length := List.length_map _
  repeat' (first | (refine OS.do rfl ?_; first | refine OD.loadP 0 rfl rfl rfl rfl rfl rfl ?_ | refine OD.auto rfl rfl ?_ | refine OD.len rfl rfl (fun _ => lenTy_av rfl rfl) ?_ | refine OD.indexAddr rfl rfl rfl (indexAddrA_nat rfl rfl rfl rfl (by first | assumption | exact List.getElem?_eq_getElem (by omega))) ?_ | refine OD.alloc rfl rfl rfl rfl (fun _ => ?_) | refine OD.storeW 0 rfl rfl rfl rfl (by first | rfl | exact hold_ok _ | exact word_ok _ | exact rtl_ok _) rfl rfl rfl ?_ | refine OD.append 0 rfl rfl rfl rfl rfl rfl rfl rfl rfl rfl rfl (.inr ⟨⟨_, rfl⟩, rfl⟩) (fun _ => rfl) rfl rfl (roomB rfl (by simp only [List.length_map, List.length_take, List.length_cons, List.length_nil]; omega)) (fun tk' => ?_) | refine OD.call rfl rfl rfl h37 (u37 _) (fun _ => rfl) ?_) | refine OS.nil ?_ | refine OS.skip rfl rfl rfl ?_ | refine WS.seq ?_ | refine QS.seqN ?_ | refine WS.region ?_ | refine WS.condT rfl ?_ | refine WS.condD rfl (fun _ => ?_) (fun _ => ?_) | refine WS.skip ?_ | refine WS.block ?_ | refine WS.ret ?_ | refine QS.seqR ?_ | refine QS.blockR ?_ | refine QS.loopR ?_ | refine QS.blockN ?_ | refine WS.exit ?_ | refine QS.seqE ?_ | refine QS.blockH ?_ | refine QS.loopE ?_ | refine WS.condNe rfl (fun _ => ?_) (fun _ => ?_) | ((fail_if_success (refine OS.do rfl ?_)); first | refine OS.splitN rfl rfl rfl (fun _ => ?_) (fun _ => ?_)))
  all_goals try (refine QS.loopN (i + 1, tk') ?_ ?_ ?_ ?_ ?_
                 · exact ⟨by omega, all_take_succ (by omega) ha (lane_yes (by assumption) (by assumption))⟩
                 · dsimp only; omega
                 · have hlt : i < r.ins.xs.length := by omega
                   have hA : ((r.ins.xs.map (·.name)).take (i + 1)).map strAV = ((r.ins.xs.map (·.name)).take i).map strAV ++ [.str (r.ins.xs[i]).name] := by
                     rw [List.take_succ_eq_append_getElem (by omega), List.map_append, List.getElem_map]; rfl
                   repeat' (first | exact Sub.nil _ | refine Sub.cons (congrArg (fun z => some (accA tk' 1 z)) hA.symm) ?_ | refine Sub.cons (congrArg (fun z => some (AV.int .i64 z)) (wrap_succ (by omega))) ?_ | refine Sub.cons rfl ?_)
                 · repeat' (first | exact SubO.nil _ | exact SubO.refl _ | refine SubO.keep ?_ | refine SubO.drop ?_)
                 · exact SubK.keep (fun _ => by simp) (.refl _))
  all_goals try (refine QS.retR (by rfl) fun _ => ?_; rw [validM_ins (all_false (i := i) (by omega) (by first | exact lane_no1 (by assumption) | exact decide_eq_false (by omega)))]; rfl)
  have hT3 : (r.ins.xs.map (·.name)).take i = (r.ins.xs.map (·.name)) := List.take_of_length_le (by omega)
  rw [hT3]
  have a1 : r.ins.xs.all laneOk = true := all_of_take (i := i) (by omega) ha
  clear ha hi hml
  refine WS.loop (D := Nat × Nat) (fun d => [(1, .ptr b1 0 0), (4, accA d.2 1 (((r.regs.xs.map (·.name)).take d.1).map strAV)), (3, accA tk3 1 ((r.ins.xs.map (·.name)).map strAV)), (5, .nilsl), (62, r.regs.av 3 holdAV), (63, .int .i64 r.regs.xs.length), (64, .int .i64 d.1)]) (fun _ => [(b1, .row 4 [rtlAV r])]) (fun d => (d.2, !(((r.regs.xs.map (·.name)).take d.1).map strAV).isEmpty) :: [(tk3, !((r.ins.xs.map (·.name)).map strAV).isEmpty)])
    (fun d => d.1 ≤ r.regs.xs.length ∧ (r.regs.xs.take d.1).all holdOk = true) (fun d => r.regs.xs.length + 1 - d.1) (0, 0) ⟨by omega, by simp⟩ ?_ (by repeat' (first | exact SubO.nil _ | exact SubO.refl _ | refine SubO.keep ?_ | refine SubO.drop ?_)) (by repeat' (first | exact SubK.nil _ | exact SubK.refl _ | refine SubK.keep (by simp) ?_ | refine SubK.new ?_ | refine SubK.drop ?_)) ?_
  · repeat' (first | exact Sub.nil _ | refine Sub.cons (congrArg some (accA_zero _ _ _ _).symm) ?_ | refine Sub.cons (congrArg (fun z => some (AV.int .i64 z)) (wrap_succ (by omega))) ?_ | refine Sub.cons rfl ?_)
  rintro ⟨i, tk4⟩ ⟨hi, ha⟩
  dsimp only at hi ha ⊢
  have hml : (r.regs.xs.map (·.name)).length = r.regs.xs.length := List.length_map _
  repeat' (first | (refine OS.do rfl ?_; first | refine OD.loadP 0 rfl rfl rfl rfl rfl rfl ?_ | refine OD.auto rfl rfl ?_ | refine OD.len rfl rfl (fun _ => lenTy_av rfl rfl) ?_ | refine OD.indexAddr rfl rfl rfl (indexAddrA_nat rfl rfl rfl rfl (by first | assumption | exact List.getElem?_eq_getElem (by omega))) ?_ | refine OD.alloc rfl rfl rfl rfl (fun _ => ?_) | refine OD.storeW 0 rfl rfl rfl rfl (by first | rfl | exact hold_ok _ | exact word_ok _ | exact rtl_ok _) rfl rfl rfl ?_ | refine OD.append 0 rfl rfl rfl rfl rfl rfl rfl rfl rfl rfl rfl (.inr ⟨⟨_, rfl⟩, rfl⟩) (fun _ => rfl) rfl rfl (roomB rfl (by simp only [List.length_map, List.length_take, List.length_cons, List.length_nil]; omega)) (fun tk' => ?_) | refine OD.call rfl rfl rfl h37 (u37 _) (fun _ => rfl) ?_ | refine OD.call rfl rfl rfl h38 (fun st => u38 _ st (f8 _ (List.getElem_mem (by omega)))) (fun _ => rfl) ?_) | refine OS.nil ?_ | refine OS.skip rfl rfl rfl ?_ | refine WS.seq ?_ | refine QS.seqN ?_ | refine WS.region ?_ | refine WS.condT rfl ?_ | refine WS.condD rfl (fun _ => ?_) (fun _ => ?_) | refine WS.skip ?_ | refine WS.block ?_ | refine WS.ret ?_ | refine QS.seqR ?_ | refine QS.blockR ?_ | refine QS.loopR ?_ | refine QS.blockN ?_ | refine WS.exit ?_ | refine QS.seqE ?_ | refine QS.blockH ?_ | refine QS.loopE ?_ | refine WS.condN rfl (fun _ => ?_) (fun _ => ?_) | ((fail_if_success (refine OS.do rfl ?_)); first | refine OS.splitN rfl rfl rfl (fun _ => ?_) (fun _ => ?_)))
  all_goals try (refine QS.loopN (i + 1, tk') ?_ ?_ ?_ ?_ ?_
                 · exact ⟨by omega, all_take_succ (by omega) ha (hold_yes (by assumption) (by assumption))⟩
                 · dsimp only; omega
                 · have hlt : i < r.regs.xs.length := by omega
                   have hA : ((r.regs.xs.map (·.name)).take (i + 1)).map strAV = ((r.regs.xs.map (·.name)).take i).map strAV ++ [.str (r.regs.xs[i]).name] := by
                     rw [List.take_succ_eq_append_getElem (by omega), List.map_append, List.getElem_map]; rfl
                   repeat' (first | exact Sub.nil _ | refine Sub.cons (congrArg (fun z => some (accA tk' 1 z)) hA.symm) ?_ | refine Sub.cons (congrArg (fun z => some (AV.int .i64 z)) (wrap_succ (by omega))) ?_ | refine Sub.cons rfl ?_)
                 · repeat' (first | exact SubO.nil _ | exact SubO.refl _ | refine SubO.keep ?_ | refine SubO.drop ?_)
                 · exact SubK.keep (fun _ => by simp) (.refl _))
  all_goals try (refine QS.retR (by rfl) fun _ => ?_; rw [validM_regs (all_false (i := i) (by omega) (by first | exact hold_no1 (by assumption) | exact hold_no2 (by assumption)))]; rfl)
  have hT4 : (r.regs.xs.map (·.name)).take i = (r.regs.xs.map (·.name)) := List.take_of_length_le (by omega)
  rw [hT4]
  have a2 : r.regs.xs.all holdOk = true := all_of_take (i := i) (by omega) ha
  clear ha hi hml
  refine WS.loop (D := Nat × Nat) (fun d => [(1, .ptr b1 0 0), (5, accA d.2 1 (((r.outs.xs.map (·.name)).take d.1).map strAV)), (3, accA tk3 1 ((r.ins.xs.map (·.name)).map strAV)), (4, accA tk4 1 ((r.regs.xs.map (·.name)).map strAV)), (86, r.outs.av 3 laneAV), (87, .int .i64 r.outs.xs.length), (88, .int .i64 d.1)]) (fun _ => [(b1, .row 4 [rtlAV r])]) (fun d => (d.2, !(((r.outs.xs.map (·.name)).take d.1).map strAV).isEmpty) :: [(tk4, !((r.regs.xs.map (·.name)).map strAV).isEmpty), (tk3, !((r.ins.xs.map (·.name)).map strAV).isEmpty)])
    (fun d => d.1 ≤ r.outs.xs.length ∧ True) (fun d => r.outs.xs.length + 1 - d.1) (0, 0) ⟨by omega, by simp⟩ ?_ (by repeat' (first | exact SubO.nil _ | exact SubO.refl _ | refine SubO.keep ?_ | refine SubO.drop ?_)) (by repeat' (first | exact SubK.nil _ | exact SubK.refl _ | refine SubK.keep (by simp) ?_ | refine SubK.new ?_ | refine SubK.drop ?_)) ?_
  · repeat' (first | exact Sub.nil _ | refine Sub.cons (congrArg some (accA_zero _ _ _ _).symm) ?_ | refine Sub.cons (congrArg (fun z => some (AV.int .i64 z)) (wrap_succ (by omega))) ?_ | refine Sub.cons rfl ?_)
  rintro ⟨i, tk5⟩ ⟨hi, ha⟩
  dsimp only at hi ha ⊢
  have hml : (r.outs.xs.map (·.name)).length = r.outs.xs.length := List.length_map _
  repeat' (first | refine WS.cut (a := .seq (.region 23 _ _) _) [(1, .ptr b1 0 0)] [(b1, .row 4 [rtlAV r])] [] (headV r = true) ?_ ?_ | (refine OS.do rfl ?_; first | refine OD.loadP 0 rfl rfl rfl rfl rfl rfl ?_ | refine OD.auto rfl rfl ?_ | refine OD.indexAddr rfl rfl rfl (indexAddrA_nat rfl rfl rfl rfl (by first | assumption | exact List.getElem?_eq_getElem (by omega))) ?_ | refine OD.alloc rfl rfl rfl rfl (fun _ => ?_) | refine OD.storeW 0 rfl rfl rfl rfl (by first | rfl | exact hold_ok _ | exact word_ok _ | exact rtl_ok _) rfl rfl rfl ?_ | refine OD.append 0 rfl rfl rfl rfl rfl rfl rfl rfl rfl rfl rfl (.inr ⟨⟨_, rfl⟩, rfl⟩) (fun _ => rfl) rfl rfl (roomB rfl (by simp only [List.length_map, List.length_take, List.length_cons, List.length_nil]; omega)) (fun tk' => ?_) | refine OD.call rfl rfl rfl h39 (u39 _ _) (fun _ => rfl) ?_) | refine OS.nil ?_ | refine OS.skip rfl rfl rfl ?_ | refine WS.seq ?_ | refine QS.seqN ?_ | refine WS.region ?_ | refine WS.condT rfl ?_ | refine WS.condD rfl (fun _ => ?_) (fun _ => ?_) | refine WS.skip ?_ | refine WS.block ?_ | refine WS.ret ?_ | refine QS.blockN ?_ | refine WS.exit ?_ | refine QS.seqE ?_ | refine QS.blockH ?_ | refine QS.loopE ?_ | refine QS.cutR ?_ | refine WS.condN rfl (fun _ => ?_) (fun _ => ?_) | ((fail_if_success (refine OS.do rfl ?_)); first | refine OS.splitN rfl rfl rfl (fun _ => ?_) (fun _ => ?_)))
  all_goals try (refine QS.loopN (i + 1, tk') ?_ ?_ ?_ ?_ ?_
                 · exact ⟨by omega, trivial⟩
                 · dsimp only; omega
                 · have hlt : i < r.outs.xs.length := by omega
                   have hA : ((r.outs.xs.map (·.name)).take (i + 1)).map strAV = ((r.outs.xs.map (·.name)).take i).map strAV ++ [.str (r.outs.xs[i]).name] := by
                     rw [List.take_succ_eq_append_getElem (by omega), List.map_append, List.getElem_map]; rfl
                   repeat' (first | exact Sub.nil _ | refine Sub.cons (congrArg (fun z => some (accA tk' 1 z)) hA.symm) ?_ | refine Sub.cons (congrArg (fun z => some (AV.int .i64 z)) (wrap_succ (by omega))) ?_ | refine Sub.cons rfl ?_)
                 · repeat' (first | exact SubO.nil _ | exact SubO.refl _ | refine SubO.keep ?_ | refine SubO.drop ?_)
                 · exact SubK.keep (fun _ => by simp) (.refl _))
  all_goals try (refine QS.retR (by rfl) fun _ => ?_; rw [validM_ins (all_false (i := i) (by omega) (decide_eq_false (by omega)))]; rfl)
  all_goals have hT5 : List.take i (r.outs.xs.map (·.name)) = r.outs.xs.map (·.name) := List.take_of_length_le (by omega)
  all_goals try (refine QS.retR (by rfl) fun _ => ?_; rw [validM_head (headV_false (by first | exact .inl (by assumption) | exact .inr (.inr (.inl (by assumption))) | exact .inr (.inl (by rw [← hT5]; assumption))))]; rfl)
  all_goals try (refine QS.cutN ?_ ?_ ?_ ?_
                 · rename_i hz1 hz2 hz3
                   rw [hT5] at hz3
                   unfold headV
                   rw [hz1, hz2, hz3, decide_eq_true (by omega)]; rfl
                 · repeat' (first | exact Sub.nil _ | refine Sub.cons (congrArg (fun z => some (AV.int .i64 z)) (wrap_succ (by omega))) ?_ | refine Sub.cons rfl ?_)
                 · repeat' (first | exact SubO.nil _ | exact SubO.refl _ | refine SubO.keep ?_ | refine SubO.drop ?_)
                 · exact .nil _)
  intro hh
  repeat' (first | (refine OS.do rfl ?_; first | refine OD.loadP 0 rfl rfl rfl rfl rfl rfl ?_ | refine OD.auto rfl rfl ?_ | refine OD.len rfl rfl (fun _ => lenTy_av rfl rfl) ?_) | refine OS.nil ?_ | refine WS.seq ?_ | refine QS.seqN ?_ | refine WS.region ?_ | refine WS.block ?_)
  refine WS.loop (D := Nat) (fun i => [(1, .ptr b1 0 0), (112, r.words.av 5 wordAV), (113, .int .i64 r.words.xs.length), (114, .int .i64 i)]) (fun _ => [(b1, .row 4 [rtlAV r])]) (fun _ => [])
    (fun i => i ≤ r.words.xs.length ∧ (List.range i).all (wordM r) = true) (fun i => r.words.xs.length + 1 - i) 0 ⟨by omega, by simp⟩ ?_ (by repeat' (first | exact SubO.nil _ | exact SubO.refl _ | refine SubO.keep ?_ | refine SubO.drop ?_)) (.nil _) ?_
  · repeat' (first | exact Sub.nil _ | refine Sub.cons (congrArg (fun z => some (AV.int .i64 z)) (wrap_succ (by omega))) ?_ | refine Sub.cons rfl ?_)
  rintro i ⟨hi, ha⟩
  repeat' (first | (refine OS.do rfl ?_; first | refine OD.loadP 0 rfl rfl rfl rfl rfl rfl ?_ | refine OD.auto rfl rfl ?_ | refine OD.len rfl rfl (fun _ => lenTy_av rfl rfl) ?_ | refine OD.call rfl rfl rfl h40 (fun st => u40 _ st (by omega)) (fun _ => rfl) ?_) | refine OS.nil ?_ | refine WS.seq ?_ | refine QS.seqN ?_ | refine WS.region ?_ | refine WS.condD rfl (fun _ => ?_) (fun _ => ?_) | refine WS.skip ?_ | refine WS.block ?_ | refine WS.ret ?_ | refine QS.seqR ?_ | refine QS.blockR ?_ | refine QS.loopR ?_ | refine QS.blockN ?_ | refine WS.exit ?_ | refine QS.seqE ?_ | refine QS.blockH ?_ | refine QS.loopE ?_ | refine WS.condN rfl (fun _ => ?_) (fun _ => ?_))
  all_goals try (refine QS.loopN (i + 1) ?_ ?_ ?_ ?_ ?_
                 · exact ⟨by omega, by rw [List.range_succ, List.all_append, ha]; simp only [List.all_cons, List.all_nil, Bool.and_true, Bool.true_and]; assumption⟩
                 · omega
                 · repeat' (first | exact Sub.nil _ | refine Sub.cons (congrArg (fun z => some (AV.int .i64 z)) (wrap_succ (by omega))) ?_ | refine Sub.cons rfl ?_)
                 · repeat' (first | exact SubO.nil _ | exact SubO.refl _ | refine SubO.keep ?_ | refine SubO.drop ?_)
                 · exact .nil _)
  all_goals try (refine QS.retR (by rfl) fun _ => ?_; rw [validM_words (words_false (i := i) (by omega) (by assumption))]; rfl)
  have a3 : wordsOk r = true := by
    have e : i = r.words.xs.length := by omega
    subst e; exact ha
  clear ha hi
  refine WS.loop (D := Nat) (fun i => [(1, .ptr b1 0 0), (123, r.regs.av 3 holdAV), (124, .int .i64 r.regs.xs.length), (125, .int .i64 i)]) (fun _ => [(b1, .row 4 [rtlAV r])]) (fun _ => [])
    (fun i => i ≤ r.regs.xs.length ∧ (r.regs.xs.take i).all (nextOk r) = true) (fun i => r.regs.xs.length + 1 - i) 0 ⟨by omega, by simp⟩ ?_ (by repeat' (first | exact SubO.nil _ | exact SubO.refl _ | refine SubO.keep ?_ | refine SubO.drop ?_)) (.nil _) ?_
  · repeat' (first | exact Sub.nil _ | refine Sub.cons (congrArg (fun z => some (AV.int .i64 z)) (wrap_succ (by omega))) ?_ | refine Sub.cons rfl ?_)
  rintro i ⟨hi, ha⟩
  repeat' (first | (refine OS.do rfl ?_; first | refine OD.loadP 0 rfl rfl rfl rfl rfl rfl ?_ | refine OD.auto rfl rfl ?_ | refine OD.loadP 1 rfl rfl rfl rfl rfl rfl ?_ | refine OD.len rfl rfl (fun _ => lenTy_av rfl rfl) ?_ | refine OD.indexAddr rfl rfl rfl (indexAddrA_nat rfl rfl rfl rfl (by first | assumption | exact List.getElem?_eq_getElem (by omega))) ?_ | refine OD.indexAddr rfl rfl rfl (indexAddrA_int rfl rfl rfl rfl (by first | assumption | omega) (by first | assumption | exact List.getElem?_eq_getElem (by omega))) ?_ | refine OD.alloc rfl rfl rfl rfl (fun _ => ?_) | refine OD.storeW 0 rfl rfl rfl rfl (by first | rfl | exact hold_ok _ | exact word_ok _ | exact rtl_ok _) rfl rfl rfl ?_) | refine OS.nil ?_ | refine OS.skip rfl rfl rfl ?_ | refine WS.seq ?_ | refine QS.seqN ?_ | refine WS.region ?_ | refine WS.condT rfl ?_ | refine WS.condD rfl (fun _ => ?_) (fun _ => ?_) | refine WS.skip ?_ | refine WS.block ?_ | refine WS.ret ?_ | refine QS.seqR ?_ | refine QS.blockR ?_ | refine QS.loopR ?_ | refine QS.blockN ?_ | refine WS.exit ?_ | refine QS.seqE ?_ | refine QS.blockH ?_ | refine QS.loopE ?_ | refine WS.draw rfl rfl ?_ | refine WS.condNe rfl (fun _ => ?_) (fun _ => ?_) | ((fail_if_success (refine OS.do rfl ?_)); first | refine OS.splitD rfl rfl rfl (fun _ => ?_) (fun _ => ?_)))
  all_goals try (refine QS.loopN (i + 1) ?_ ?_ ?_ ?_ ?_
                 · exact ⟨by omega, all_take_succ (by omega) ha (decide_eq_true ⟨by omega, by omega, by rw [wlen_at (by omega)]; assumption⟩)⟩
                 · omega
                 · repeat' (first | exact Sub.nil _ | refine Sub.cons (congrArg (fun z => some (AV.int .i64 z)) (wrap_succ (by omega))) ?_ | refine Sub.cons rfl ?_)
                 · repeat' (first | exact SubO.nil _ | exact SubO.refl _ | refine SubO.keep ?_ | refine SubO.drop ?_)
                 · exact .nil _)
  all_goals try (refine QS.retR (by rfl) fun _ => ?_; rw [validM_next (all_false (i := i) (by omega) (by first | exact decide_eq_false (by omega) | exact decide_eq_false fun h => absurd h.2.2 (by rw [wlen_at (by omega)]; assumption)))]; rfl)
  have a4 : r.regs.xs.all (nextOk r) = true := all_of_take (i := i) (by omega) ha
  clear ha hi
  refine WS.loop (D := Nat) (fun i => [(1, .ptr b1 0 0), (155, r.outs.av 3 laneAV), (156, .int .i64 r.outs.xs.length), (157, .int .i64 i)]) (fun _ => [(b1, .row 4 [rtlAV r])]) (fun _ => [])
    (fun i => i ≤ r.outs.xs.length ∧ (r.outs.xs.take i).all (outOk r) = true) (fun i => r.outs.xs.length + 1 - i) 0 ⟨by omega, by simp⟩ ?_ (by repeat' (first | exact SubO.nil _ | exact SubO.refl _ | refine SubO.keep ?_ | refine SubO.drop ?_)) (.nil _) ?_
  · repeat' (first | exact Sub.nil _ | refine Sub.cons (congrArg (fun z => some (AV.int .i64 z)) (wrap_succ (by omega))) ?_ | refine Sub.cons rfl ?_)
  rintro i ⟨hi, ha⟩
  repeat' (first | (refine OS.do rfl ?_; first | refine OD.loadP 0 rfl rfl rfl rfl rfl rfl ?_ | refine OD.auto rfl rfl ?_ | refine OD.loadP 1 rfl rfl rfl rfl rfl rfl ?_ | refine OD.len rfl rfl (fun _ => lenTy_av rfl rfl) ?_ | refine OD.indexAddr rfl rfl rfl (indexAddrA_nat rfl rfl rfl rfl (by first | assumption | exact List.getElem?_eq_getElem (by omega))) ?_ | refine OD.indexAddr rfl rfl rfl (indexAddrA_int rfl rfl rfl rfl (by first | assumption | omega) (by first | assumption | exact List.getElem?_eq_getElem (by omega))) ?_ | refine OD.alloc rfl rfl rfl rfl (fun _ => ?_) | refine OD.storeW 0 rfl rfl rfl rfl (by first | rfl | exact hold_ok _ | exact word_ok _ | exact rtl_ok _) rfl rfl rfl ?_) | refine OS.nil ?_ | refine OS.skip rfl rfl rfl ?_ | refine WS.seq ?_ | refine QS.seqN ?_ | refine WS.region ?_ | refine WS.condT rfl ?_ | refine WS.condD rfl (fun _ => ?_) (fun _ => ?_) | refine WS.skip ?_ | refine WS.block ?_ | refine WS.ret ?_ | refine QS.seqR ?_ | refine QS.blockR ?_ | refine QS.loopR ?_ | refine QS.blockN ?_ | refine WS.exit ?_ | refine QS.seqE ?_ | refine QS.blockH ?_ | refine QS.loopE ?_ | refine WS.draw rfl rfl ?_ | refine WS.condNe rfl (fun _ => ?_) (fun _ => ?_) | ((fail_if_success (refine OS.do rfl ?_)); first | refine OS.splitD rfl rfl rfl (fun _ => ?_) (fun _ => ?_)))
  all_goals try (refine QS.loopN (i + 1) ?_ ?_ ?_ ?_ ?_
                 · exact ⟨by omega, all_take_succ (by omega) ha (decide_eq_true ⟨by omega, by omega, by rw [wlen_at (by omega)]; assumption⟩)⟩
                 · omega
                 · repeat' (first | exact Sub.nil _ | refine Sub.cons (congrArg (fun z => some (AV.int .i64 z)) (wrap_succ (by omega))) ?_ | refine Sub.cons rfl ?_)
                 · repeat' (first | exact SubO.nil _ | exact SubO.refl _ | refine SubO.keep ?_ | refine SubO.drop ?_)
                 · exact .nil _)
  all_goals try (refine QS.retR (by rfl) fun _ => ?_; rw [validM_outs (all_false (i := i) (by omega) (by first | exact decide_eq_false (by omega) | exact decide_eq_false fun h => absurd h.2.2 (by rw [wlen_at (by omega)]; assumption)))]; rfl)
  refine QS.retR (by rfl) fun _ => ?_
  rw [validM_true hh a1 a2 a3 a4 (all_of_take (i := i) (by omega) ha)]; rfl
end
end Go.RtlEnv
