/- Own text of this claim: part 21 of an interpreter that is proved sound against the model, and of what it shows of the law. -/
import Derived.Test.YtnipphfkiikbdaaDoorAbs20
/- The law RtlEvals. -/
namespace Go.RtlEnv
open Go Go.Proofs Go.Abs Go.RowKit
set_option maxRecDepth 10000
structure Len60 (r : GRtl) : Prop where
  ins : r.ins.xs.length < 1000000000000000000
  regs : r.regs.xs.length < 1000000000000000000
  outs : r.outs.xs.length < 1000000000000000000
structure Few (r : GRtl) : Prop where
  words : r.words.xs.length ≤ 200
  ins : r.ins.xs.length ≤ 1600
  regs : r.regs.xs.length ≤ 1600
  outs : r.outs.xs.length ≤ 1600
theorem sameM_refl (s : GSl (GSl UInt8)) : sameM s s = true := decide_eq_true rfl
attribute [local irreducible] WS QS OS OD Abs.Sub SubO SubK CW GSl.av accA SegK
section
variable {pr : Prims} {L : List (Nat × AObj)} {K : List (Nat × Bool)}
set_option maxHeartbeats 4000000 in
theorem run8k (h1 : pr 8 = none) (r : GRtl) (hr : Fits r) (h60 : Len60 r) {st : St} (hS : SFa L K st) : CW (En pr) 8 [rtlAV r] st fun x st' => (∃ b, x = .bool b ∧ (b = true → Few r)) ∧ SFa L K st' := by
  obtain ⟨f1, f2, f3, f4, _, _, _, _, _, _⟩ := hr
  obtain ⟨g1, g2, g3⟩ := h60
  have w1 := int_wrap (n := (r.ins.xs.length : Int) + r.regs.xs.length) (by omega) (by omega)
  have w2 := int_wrap (n := (r.ins.xs.length : Int) + r.regs.xs.length + r.outs.xs.length) (by omega) (by omega)
  refine CW.startS (N := 65) h1 rfl rfl hS ?_
  repeat' (first | (refine OS.do rfl ?_; first | refine OD.box rfl rfl rfl rfl (rtl_ok _) rfl (fun b1 => ?_) | refine OD.loadP 0 rfl rfl rfl rfl rfl rfl ?_ | refine OD.auto rfl rfl ?_ | refine OD.len rfl rfl (fun _ => lenTy_av rfl rfl) ?_) | refine OS.nil ?_ | refine WS.seq ?_ | refine QS.seqN ?_ | refine WS.region ?_ | refine WS.block ?_)
  refine WS.loop (D := Nat × Int) (fun d => [(3, .int .i64 d.2), (1, .ptr b1 0 0), (9, r.words.av 5 wordAV), (10, .int .i64 r.words.xs.length), (11, .int .i64 d.1)]) (fun _ => (b1, .row 4 [rtlAV r]) :: L) (fun _ => K)
    (fun d => d.1 ≤ r.words.xs.length) (fun d => r.words.xs.length + 1 - d.1) (0, 0) (by omega) ?_ (.refl _) (.refl _) ?_
  · repeat' (first | exact Sub.nil _ | refine Sub.cons (congrArg (fun z => some (AV.int .i64 z)) (wrap_succ (by omega))) ?_ | refine Sub.cons rfl ?_)
  rintro ⟨i, s⟩ hi
  dsimp only at hi ⊢
  repeat' (first | (refine OS.do rfl ?_; first | refine OD.loadP 0 rfl rfl rfl rfl rfl rfl ?_ | refine OD.auto rfl rfl ?_ | refine OD.len rfl rfl (fun _ => lenTy_av rfl rfl) ?_ | refine OD.indexAddr rfl rfl rfl (indexAddrA_nat rfl rfl rfl rfl (by first | assumption | exact List.getElem?_eq_getElem (by omega))) ?_ | refine OD.max rfl rfl rfl ?_ | refine OD.min rfl rfl rfl ?_ | refine OD.alloc rfl rfl rfl rfl (fun _ => ?_) | refine OD.storeW 0 rfl rfl rfl rfl (by first | rfl | exact hold_ok _ | exact word_ok _ | exact rtl_ok _) rfl rfl rfl ?_) | refine OS.nil ?_ | refine WS.seq ?_ | refine QS.seqN ?_ | refine WS.region ?_ | refine WS.condD rfl (fun _ => ?_) (fun _ => ?_) | refine WS.skip ?_ | refine WS.block ?_ | refine QS.blockN ?_ | refine WS.exit ?_ | refine QS.seqE ?_ | refine QS.blockH ?_ | refine QS.loopE ?_)
  all_goals try (have hlt : i < r.words.xs.length := by omega
                 refine QS.loopN (i + 1, IntKind.i64.wrap (s + IntKind.i64.wrap (IntKind.i64.wrap ((if 5000 < (if 0 > (r.words.xs[i]).len then 0 else (r.words.xs[i]).len) then 5000 else (if 0 > (r.words.xs[i]).len then 0 else (r.words.xs[i]).len)) + ((r.words.xs[i]).bits.xs.length : Int)) + ((r.words.xs[i]).kids.xs.length : Int)))) ?_ ?_ ?_ ?_ ?_
                 · dsimp only; omega
                 · dsimp only; omega
                 · refine Sub.cons rfl ?_
                   repeat' (first | exact Sub.nil _ | refine Sub.cons (congrArg (fun z => some (AV.int .i64 z)) (wrap_succ (by omega))) ?_ | refine Sub.cons rfl ?_)
                 · exact .drop (.refl _)
                 · exact .refl _)
  refine WS.loop (D := Nat × Int) (fun d => [(3, .int .i64 d.2), (1, .ptr b1 0 0), (31, r.regs.av 3 holdAV), (32, .int .i64 r.regs.xs.length), (33, .int .i64 d.1)]) (fun _ => (b1, .row 4 [rtlAV r]) :: L) (fun _ => K)
    (fun d => d.1 ≤ r.regs.xs.length) (fun d => r.regs.xs.length + 1 - d.1) (0, s) (by omega) ?_ (.refl _) (.refl _) ?_
  · repeat' (first | exact Sub.nil _ | refine Sub.cons (congrArg (fun z => some (AV.int .i64 z)) (wrap_succ (by omega))) ?_ | refine Sub.cons rfl ?_)
  rintro ⟨i, s⟩ hi
  dsimp only at hi ⊢
  repeat' (first | (refine OS.do rfl ?_; first | refine OD.loadP 0 rfl rfl rfl rfl rfl rfl ?_ | refine OD.auto rfl rfl ?_ | refine OD.len rfl rfl (fun _ => lenTy_av rfl rfl) ?_ | refine OD.indexAddr rfl rfl rfl (indexAddrA_nat rfl rfl rfl rfl (by first | assumption | exact List.getElem?_eq_getElem (by omega))) ?_ | refine OD.alloc rfl rfl rfl rfl (fun _ => ?_) | refine OD.storeW 0 rfl rfl rfl rfl (by first | rfl | exact hold_ok _ | exact word_ok _ | exact rtl_ok _) rfl rfl rfl ?_) | refine OS.nil ?_ | refine OS.skip rfl rfl rfl ?_ | refine WS.seq ?_ | refine QS.seqN ?_ | refine WS.region ?_ | refine WS.condD rfl (fun _ => ?_) (fun _ => ?_) | refine WS.skip ?_ | refine WS.block ?_ | refine WS.ret ?_ | refine QS.blockN ?_ | refine WS.exit ?_ | refine QS.seqE ?_ | refine QS.blockH ?_ | refine QS.loopE ?_ | ((fail_if_success (refine OS.do rfl ?_)); first | refine OS.splitD rfl rfl rfl (fun _ => ?_) (fun _ => ?_)))
  all_goals try (have hlt : i < r.regs.xs.length := by omega
                 refine QS.loopN (i + 1, IntKind.i64.wrap (s + ((r.regs.xs[i]).init.xs.length : Int))) ?_ ?_ ?_ ?_ ?_
                 · dsimp only; omega
                 · dsimp only; omega
                 · refine Sub.cons rfl ?_
                   repeat' (first | exact Sub.nil _ | refine Sub.cons (congrArg (fun z => some (AV.int .i64 z)) (wrap_succ (by omega))) ?_ | refine Sub.cons rfl ?_)
                 · exact .drop (.refl _)
                 · exact .refl _)
  all_goals (refine QS.retRS (by rfl) fun st hS => ⟨⟨_, rfl, fun hb => ?_⟩, sfa_drop hS⟩)
  all_goals first
    | cases hb
    | (rename_i hq; rw [w1, w2] at hq; exact ⟨by omega, by omega, by omega, by omega⟩)

theorem run12k (h1 : pr 12 = none) (s : GSl (GSl UInt8)) (hs : FitsR s) {st : St} (hS : SFa L K st) : CW (En pr) 12 [rowsAV s] st fun x st' => (∃ b, x = .bool b) ∧ SFa L K st' := by
  obtain ⟨f1, f2⟩ := hs
  unfold rowsAV
  refine CW.startS (N := 21) h1 rfl rfl hS ?_
  repeat' (first | (refine OS.do rfl ?_; first | refine OD.auto rfl rfl ?_ | refine OD.len rfl rfl (fun _ => lenTy_av rfl rfl) ?_) | refine OS.nil ?_ | refine WS.seq ?_ | refine QS.seqN ?_ | refine WS.region ?_ | refine WS.block ?_)
  refine WS.loop (D := Nat × Int) (fun d => [(3, .int .i64 d.2), (8, s.av 1 fun x => x.av 1 bitAV), (9, .int .i64 s.xs.length), (10, .int .i64 d.1)]) (fun _ => L) (fun _ => K)
    (fun d => d.1 ≤ s.xs.length) (fun d => s.xs.length + 1 - d.1) (0, (s.xs.length : Int)) (by omega) ?_ (by repeat' (first | exact SubO.nil _ | exact SubO.refl _ | refine SubO.keep ?_ | refine SubO.drop ?_)) (.refl _) ?_
  · repeat' (first | exact Sub.nil _ | refine Sub.cons (congrArg (fun z => some (AV.int .i64 z)) (wrap_succ (by omega))) ?_ | refine Sub.cons rfl ?_)
  rintro ⟨i, n⟩ hi
  dsimp only at hi ⊢
  repeat' (first | (refine OS.do rfl ?_; first | refine OD.indexAddr rfl rfl rfl (indexAddrA_natS rfl rfl rfl rfl (by first | assumption | exact List.getElem?_eq_getElem (by omega))) ?_ | refine OD.auto rfl rfl ?_ | refine OD.len rfl rfl (fun _ => lenTy_av rfl rfl) ?_) | refine OS.nil ?_ | refine WS.seq ?_ | refine QS.seqN ?_ | refine WS.region ?_ | refine WS.condD rfl (fun _ => ?_) (fun _ => ?_) | refine WS.skip ?_ | refine WS.block ?_ | refine WS.ret ?_ | refine QS.blockN ?_ | refine WS.exit ?_ | refine QS.seqE ?_ | refine QS.blockH ?_ | refine QS.loopE ?_)
  all_goals try (have hlt : i < s.xs.length := by omega
                 refine QS.loopN (i + 1, IntKind.i64.wrap (n + (s.xs[i].xs.length : Int))) ?_ ?_ ?_ ?_ ?_
                 · dsimp only; omega
                 · dsimp only; omega
                 · refine Sub.cons rfl ?_
                   repeat' (first | exact Sub.nil _ | refine Sub.cons (congrArg (fun z => some (AV.int .i64 z)) (wrap_succ (by omega))) ?_ | refine Sub.cons rfl ?_)
                 · exact .refl _
                 · exact .refl _)
  all_goals (refine QS.retRS (by rfl) fun st hS => ⟨⟨_, rfl⟩, hS⟩)
theorem run13k (h1 : pr 13 = none) (r : GRtl) (hr : Fits r) {st : St} (hS : SFa L K st) : CW (En pr) 13 [rtlAV r] st fun x st' => (∃ b, x = .bool b) ∧ SFa L K st' := by
  have f3 := hr.words
  refine CW.startS (N := 26) h1 rfl rfl hS ?_
  repeat' (first | (refine OS.do rfl ?_; first | refine OD.box rfl rfl rfl rfl (rtl_ok _) rfl (fun b1 => ?_) | refine OD.loadP 0 rfl rfl rfl rfl rfl rfl ?_ | refine OD.auto rfl rfl ?_ | refine OD.len rfl rfl (fun _ => lenTy_av rfl rfl) ?_) | refine OS.nil ?_ | refine WS.seq ?_ | refine QS.seqN ?_ | refine WS.region ?_ | refine WS.block ?_)
  refine WS.loop (D := Nat) (fun i => [(6, r.words.av 5 wordAV), (7, .int .i64 r.words.xs.length), (8, .int .i64 i)]) (fun _ => L) (fun _ => K)
    (fun i => i ≤ r.words.xs.length) (fun i => r.words.xs.length + 1 - i) 0 (by omega) ?_ (by repeat' (first | exact SubO.nil _ | exact SubO.refl _ | refine SubO.keep ?_ | refine SubO.drop ?_)) (.refl _) ?_
  · repeat' (first | exact Sub.nil _ | refine Sub.cons (congrArg (fun z => some (AV.int .i64 z)) (wrap_succ (by omega))) ?_ | refine Sub.cons rfl ?_)
  rintro i hi
  repeat' (first | (refine OS.do rfl ?_; first | refine OD.loadP 0 rfl rfl rfl rfl rfl rfl ?_ | refine OD.auto rfl rfl ?_ | refine OD.indexAddr rfl rfl rfl (indexAddrA_nat rfl rfl rfl rfl (by first | assumption | exact List.getElem?_eq_getElem (by omega))) ?_ | refine OD.alloc rfl rfl rfl rfl (fun _ => ?_) | refine OD.storeW 0 rfl rfl rfl rfl (by first | rfl | exact hold_ok _ | exact word_ok _ | exact rtl_ok _) rfl rfl rfl ?_) | refine OS.nil ?_ | refine OS.skip rfl rfl rfl ?_ | refine WS.seq ?_ | refine QS.seqN ?_ | refine WS.region ?_ | refine WS.condT rfl ?_ | refine WS.condF rfl ?_ | refine WS.condD rfl (fun _ => ?_) (fun _ => ?_) | refine WS.skip ?_ | refine WS.block ?_ | refine WS.ret ?_ | refine QS.seqR ?_ | refine QS.blockR ?_ | refine QS.loopR ?_ | refine QS.blockN ?_ | refine WS.exit ?_ | refine QS.seqE ?_ | refine QS.blockH ?_ | refine QS.loopE ?_ | ((fail_if_success (refine OS.do rfl ?_)); first | refine OS.splitD rfl rfl rfl (fun _ => ?_) (fun _ => ?_)))
  all_goals try (refine QS.loopN (i + 1) ?_ ?_ ?_ ?_ ?_
                 · omega
                 · omega
                 · repeat' (first | exact Sub.nil _ | refine Sub.cons (congrArg (fun z => some (AV.int .i64 z)) (wrap_succ (by omega))) ?_ | refine Sub.cons rfl ?_)
                 · repeat' (first | exact SubO.nil _ | exact SubO.refl _ | refine SubO.keep ?_ | refine SubO.drop ?_)
                 · exact .refl _)
  all_goals (refine QS.retRS (by rfl) fun st hS => ⟨⟨_, rfl⟩, by first | exact hS | exact sfa_drop hS | exact sfa_drop (sfa_drop hS)⟩)
theorem run4 (h1 : pr 4 = none) (h8 : pr 8 = none) (h12 : pr 12 = none) (h13 : pr 13 = none) {p9 p14 p15 p16 p17 p18 : List AV → St → Option (AV × St)} (h9 : pr 9 = some p9) (u9 : ∀ st, p9 [] st = some (.bool true, st)) (r : GRtl) (ins regs : GSl (GSl UInt8)) (hr : Fits r) (h60 : Len60 r) (hi : FitsR ins) (hg : FitsR regs)
    (h14 : pr 14 = some p14) (u14 : Few r → ∀ st, p14 [rtlAV r, rowsAV ins, rowsAV regs] st = some (.tup [rowsAV (ofRows (evalO r ins regs)), rowsAV (ofRows (evalN r ins regs)), .int .i64 (codeM r ins regs)], st))
    (h15 : pr 15 = some p15) (u15 : Few r → ∀ st, p15 [rtlAV r, rowsAV ins, rowsAV regs] st = some (.tup [rowsAV (ofRows (evalO r ins regs)), rowsAV (ofRows (evalN r ins regs)), .int .i64 (codeM r ins regs)], st))
    (h16 : pr 16 = some p16) (u16 : Few r → ∀ st, p16 [rtlAV r, rowsAV ins, rowsAV regs] st = some (.tup [rowsAV (ofRows (allM r ins regs)), .int .i64 (codeM r ins regs)], st))
    (h17 : pr 17 = some p17) (u17 : Few r → ∀ st, p17 [rtlAV r, rowsAV ins, rowsAV regs] st = some (.tup [rowsAV (ofRows (allM r ins regs)), .int .i64 (codeM r ins regs)], st))
    (h18 : pr 18 = some p18) (u18O : ∀ st, p18 [rowsAV (ofRows (evalO r ins regs)), rowsAV (ofRows (evalO r ins regs))] st = some (.bool true, st)) (u18N : ∀ st, p18 [rowsAV (ofRows (evalN r ins regs)), rowsAV (ofRows (evalN r ins regs))] st = some (.bool true, st)) (u18A : ∀ st, p18 [rowsAV (ofRows (allM r ins regs)), rowsAV (ofRows (allM r ins regs))] st = some (.bool true, st)) (st : St) :
    CW (En pr) 4 [rtlAV r, rowsAV ins, rowsAV regs] st fun x _ => x = .bool true := by
  refine CW.start (N := 91) h1 rfl rfl ?_
  repeat' (first | (refine OS.do rfl ?_; first | refine OD.box rfl rfl rfl rfl (rtl_ok _) rfl (fun b3 => ?_) | refine OD.loadP 0 rfl rfl rfl rfl rfl rfl ?_ | refine OD.auto rfl rfl ?_ | refine OD.call rfl rfl rfl h9 u9 (fun _ => rfl) ?_ | (refine OD.callP (fun x => ∃ b, x = .bool b ∧ (b = true → Few r)) rfl rfl rfl (fun st hS => run8k h8 r hr h60 hS) (by rintro v st ⟨b, rfl, _⟩; rfl) ?_; rintro v ⟨b, rfl, hb⟩) | (refine OD.callP (fun x => ∃ b, x = .bool b) rfl rfl rfl (fun st hS => run12k h12 ins hi hS) (by rintro v st ⟨b, rfl⟩; rfl) ?_; rintro v ⟨b2, rfl⟩) | (refine OD.callP (fun x => ∃ b, x = .bool b) rfl rfl rfl (fun st hS => run12k h12 regs hg hS) (by rintro v st ⟨b, rfl⟩; rfl) ?_; rintro v ⟨b2, rfl⟩) | (refine OD.callP (fun x => ∃ b, x = .bool b) rfl rfl rfl (fun st hS => run13k h13 r hr hS) (by rintro v st ⟨b, rfl⟩; rfl) ?_; rintro v ⟨b2, rfl⟩) | refine OD.call rfl rfl rfl h14 (u14 (hb (by assumption))) (frz_rows3 _ _ _) ?_ | refine OD.call rfl rfl rfl h15 (u15 (hb (by assumption))) (frz_rows3 _ _ _) ?_ | refine OD.call rfl rfl rfl h16 (u16 (hb (by assumption))) (frz_rows1 _ _) ?_ | refine OD.call rfl rfl rfl h17 (u17 (hb (by assumption))) (frz_rows1 _ _) ?_ | refine OD.call rfl rfl rfl h18 u18O (fun _ => rfl) ?_ | refine OD.call rfl rfl rfl h18 u18N (fun _ => rfl) ?_ | refine OD.call rfl rfl rfl h18 u18A (fun _ => rfl) ?_) | refine OS.nil ?_ | refine OS.skip rfl rfl rfl ?_ | refine WS.seq ?_ | refine QS.seqN ?_ | refine WS.region ?_ | refine WS.condT rfl ?_ | refine WS.skip ?_ | refine WS.ret ?_ | refine QS.seqR ?_ | refine WS.condB rfl (fun _ => ?_) (fun _ => ?_) | ((fail_if_success (refine OS.do rfl ?_)); first | refine OS.splitD rfl rfl rfl (fun _ => ?_) (fun _ => ?_) | refine OS.splitN rfl rfl rfl (fun _ => ?_) (fun _ => ?_)))
  all_goals first
    | (refine QS.retR (by rfl) fun _ => ?_; rfl)
    | exact absurd rfl (by assumption)
end
end Go.RtlEnv

/- The contracts of RtlEvals, and what its calls do. -/
namespace Go.RtlEnv
open Go Go.Proofs Go.Abs Go.RowKit
theorem Good.addX {pr pr' : Prims} (h : Good pr) (h' : Good pr') {f : FuncId} {R : Rel} (hc : Con (En pr') f R) (hent : ∀ (w : World) (vargs : Array Value), (callFunc f vargs).run Tryd.prog w = .ok (.enter f vargs) w) : Good (Go.RtlEnv.add pr f (primOf R)) :=
  ⟨fun B w0 => (h.ok B w0).addPrim (hc.does (En_ok pr') h'.ok hent B w0)⟩
def Rel66 : Rel := fun a x => ∃ b : UInt8, a = [bitAV b] ∧ x = .bool (decide (1 < b.toNat))
def Rel34x : Rel := fun a x => ∃ s : GSl UInt8, s.xs.length < 9223372036854775808 ∧ a = [s.av 1 bitAV, .fn 66 [] []] ∧ x = .bool (!(upto 1 s.xs))
def Rel49 : Rel := fun a x => ∃ (s : GSl UInt8) (n : Int), s.xs.length < 9223372036854775808 ∧ a = [s.av 1 bitAV, .int .i64 n] ∧ x = .bool (knownM n s.xs)
def Rel41 : Rel := fun a x => ∃ (r : GRtl) (ins regs : GSl (GSl UInt8)), Fits r ∧ FitsR ins ∧ FitsR regs ∧ a = [rtlAV r, rowsAV ins, rowsAV regs] ∧ x = .bool (fitsM (vals ins) (lensI r) && fitsM (vals regs) (lensR r))
def Rel44 : Rel := fun a x => ∃ (s : GSl (GSl UInt8)) (n : GSl Int), FitsR s ∧ a = [rowsAV s, n.av 1 intAV] ∧ x = .bool (fitsM (vals s) n.xs)
def Rel26 : Rel := fun a x => ∃ r : GRtl, (r.ins.xs.length ≤ 1000000000 ∧ r.regs.xs.length ≤ 1000000000) ∧ a = [rtlAV r] ∧ x = .tup [lensAV (lensI r), lensAV (lensR r)]
def Rel18 : Rel := fun a x => ∃ s t : GSl (GSl UInt8), FitsR s ∧ a = [rowsAV s, rowsAV t] ∧ x = .bool (sameM s t)
def Rel43 : Rel := fun a x => ∃ (r : GRtl) (ins regs : GSl (GSl UInt8)), okM r ins regs = true ∧ a = [rtlAV r, rowsAV ins, rowsAV regs] ∧ x = rowsAV (ofRows (allM r ins regs))
def Rel42 : Rel := fun a x => ∃ (r : GRtl) (ins regs : GSl (GSl UInt8)), okM r ins regs = true ∧ a = [rtlAV r, rowsAV ins, rowsAV regs] ∧ x = .tup [rowsAV (ofRows (evalO r ins regs)), rowsAV (ofRows (evalN r ins regs))]
def RelA : Rel := fun a x => ∃ (r : GRtl) (ins regs : GSl (GSl UInt8)), Fits r ∧ Few r ∧ FitsR ins ∧ FitsR regs ∧ a = [rtlAV r, rowsAV ins, rowsAV regs] ∧ x = .tup [rowsAV (ofRows (allM r ins regs)), .int .i64 (codeM r ins regs)]
def RelE : Rel := fun a x => ∃ (r : GRtl) (ins regs : GSl (GSl UInt8)), Fits r ∧ Few r ∧ FitsR ins ∧ FitsR regs ∧ a = [rtlAV r, rowsAV ins, rowsAV regs] ∧ x = .tup [rowsAV (ofRows (evalO r ins regs)), rowsAV (ofRows (evalN r ins regs)), .int .i64 (codeM r ins regs)]
theorem plain3 (r : GRtl) (ins regs : GSl (GSl UInt8)) : AV.plainL [rtlAV r, rowsAV ins, rowsAV regs] = [rtlAV r, rowsAV ins, rowsAV regs] := by simp [AV.plainL, rtl_plain, rowsAV_plain]
theorem free3 (r : GRtl) (ins regs : GSl (GSl UInt8)) : AV.freeL [rtlAV r, rowsAV ins, rowsAV regs] = true := by simp [AV.freeL, rtl_free, rowsAV_free]
theorem plain1 (r : GRtl) : AV.plainL [rtlAV r] = [rtlAV r] := by simp [AV.plainL, rtl_plain]
theorem lens_plain (l : List Int) : AV.plain (lensAV l) = lensAV l := plain_av int_plain
theorem lens_free (l : List Int) : AV.free (lensAV l) = true := free_av int_free
theorem fits_of {l : List (List UInt8)} (h1 : l.length < 9223372036854775808) (h2 : ∀ x ∈ l, x.length < 9223372036854775808) : FitsR (ofRows l) := by
  refine ⟨by simpa [ofRows, GSl.of] using h1, fun x hx => ?_⟩
  obtain ⟨y, hy, rfl⟩ := List.mem_map.1 (show x ∈ l.map nz from hx)
  exact h2 y hy
theorem nzv (l : List UInt8) : (nz l).av 1 bitAV = rowAV l := rfl
section
variable {pr : Prims}
theorem con66 (h : pr 66 = none) : Con (En pr) 66 Rel66 := ⟨by rintro a x ⟨n, rfl, rfl⟩; rfl, by rintro a x ⟨n, rfl, rfl⟩; exact boolQ (run66 h n _)⟩
theorem con34x {p1 : Prims} (h : pr 34 = none) (h51 : pr 51 = none) (h66 : pr 66 = some (primOf Rel66)) (c66 : Con (En p1) 66 Rel66) : Con (En pr) 34 Rel34x :=
  ⟨by rintro a x ⟨s, _, rfl, rfl⟩; simp [AV.freeL, free_av bit_free, AV.free], by
    rintro a x ⟨s, hs, rfl, rfl⟩
    exact boolQ (run34 h h51 h66 (fun b st => c66.use ⟨b, rfl, rfl⟩ st) s hs _)⟩
theorem con49 {p1 : Prims} (h : pr 49 = none) (h34 : pr 34 = some (primOf Rel34x)) (c34 : Con (En p1) 34 Rel34x) : Con (En pr) 49 Rel49 :=
  ⟨by rintro a x ⟨s, n, _, rfl, rfl⟩; simp [AV.freeL, free_av bit_free, AV.free], by
    rintro a x ⟨s, n, hs, rfl, rfl⟩
    exact boolQ (run49 h h34 s (fun st => c34.use ⟨s, hs, by simp [AV.plainL, plain_av bit_plain, AV.plain], rfl⟩ st) n _)⟩
theorem con41 {p1 : Prims} (h : pr 41 = none) (h49 : pr 49 = some (primOf Rel49)) (c49 : Con (En p1) 49 Rel49) : Con (En pr) 41 Rel41 :=
  ⟨by rintro a x ⟨r, ins, regs, _, _, _, rfl, rfl⟩; exact free3 _ _ _, by
    rintro a x ⟨r, ins, regs, hr, hi, hg, rfl, rfl⟩
    refine boolQ (run41 h h49 r hr ins regs hi hg (fun s hs n st => c49.use ⟨s, n, ?_, by simp [AV.plainL, plain_av bit_plain, AV.plain], rfl⟩ st) _)
    rcases hs with hs | hs
    · exact hi.each s hs
    · exact hg.each s hs⟩
theorem con44 {p1 : Prims} (h : pr 44 = none) (h38 : pr 38 = some (primOf Rel38)) (c38 : Con (En p1) 38 Rel38) : Con (En pr) 44 Rel44 :=
  ⟨by rintro a x ⟨s, n, _, rfl, rfl⟩; simp [AV.freeL, rowsAV_free, free_av int_free], by
    rintro a x ⟨s, n, hs, rfl, rfl⟩
    exact boolQ (run44 h h38 s hs (fun x hx st => c38.use ⟨x, 1, hs.each x hx, by simp [AV.plainL, plain_av bit_plain, AV.plain], rfl⟩ st) n _)⟩
theorem con26 (h : pr 26 = none) : Con (En pr) 26 Rel26 :=
  ⟨by rintro a x ⟨r, _, rfl, rfl⟩; simp [AV.freeL, rtl_free], by
    rintro a x ⟨r, hr, rfl, rfl⟩
    refine (run26 h r hr _).mono fun x st ⟨t, t', e⟩ => ?_
    subst e
    have e1 : AV.plain (.tup [accA t 1 ((lensI r).map intAV), accA t' 1 ((lensR r).map intAV)]) = .tup [lensAV (lensI r), lensAV (lensR r)] := by
      simp only [AV.plain, AV.plainL, plain_acc int_plain]; rfl
    exact ⟨e1, by rw [← free_plain, e1]; simp [AV.free, AV.freeL, lens_free]⟩⟩
theorem con18 (h : pr 18 = none) : Con (En pr) 18 Rel18 :=
  ⟨by rintro a x ⟨s, t, _, rfl, rfl⟩; simp [AV.freeL, rowsAV_free], by
    rintro a x ⟨s, t, hs, rfl, rfl⟩
    exact boolQ (run18 h s t hs _)⟩
theorem con43 {p1 p2 : Prims} (h : pr 43 = none) (h46 : pr 46 = some (primOf Rel46)) (c46 : Con2 (En p1) 46 Rel46) (h58 : pr 58 = some (primOf Rel58)) (c58 : Con2 (En p2) 58 Rel58) : Con (En pr) 43 Rel43 :=
  ⟨by rintro a x ⟨r, ins, regs, _, rfl, rfl⟩; exact free3 _ _ _, by
    rintro a x ⟨r, ins, regs, hok, rfl, rfl⟩
    refine (run43 h h46 (fun s st h1 h2 => c46.use ⟨s, h1, h2, by simp [AV.plainL, plain_av bit_plain], rfl⟩ st) h58 (fun w t ks st hv => c58.use ⟨w, ofRows ks, by rw [vals_of]; exact hv, ?_, by rw [vals_of]; rfl⟩ st) r ins regs (okM_iff.1 hok) _).mono fun x st ⟨t, e⟩ => ?_
    · simp only [AV.plainL, word_plain, plain_rows]
    · subst e
      rw [all_ok hok]
      exact ⟨plain_rows _ _, free_rows _ _⟩⟩
theorem con42 {p1 p2 : Prims} (h : pr 42 = none) (h43 : pr 43 = some (primOf Rel43)) (c43 : Con (En p1) 43 Rel43) (h46 : pr 46 = some (primOf Rel46)) (c46 : Con2 (En p2) 46 Rel46) : Con (En pr) 42 Rel42 :=
  ⟨by rintro a x ⟨r, ins, regs, _, rfl, rfl⟩; exact free3 _ _ _, by
    rintro a x ⟨r, ins, regs, hok, rfl, rfl⟩
    refine (run42 h h43 h46 (fun s st h1 h2 => c46.use ⟨s, h1, h2, by simp [AV.plainL, plain_av bit_plain], rfl⟩ st) r ins regs (allM r ins regs) (okM_iff.1 hok).valid (AllRows.of hok) (fun st => c43.use ⟨r, ins, regs, hok, plain3 _ _ _, rfl⟩ st) _).mono fun x st ⟨t, t', e⟩ => ?_
    subst e
    rw [evalO_ok hok, evalN_ok hok]
    exact ⟨by simp only [AV.plain, AV.plainL, plain_rows], by simp [AV.free, AV.freeL, free_rows]⟩⟩
theorem con16 {p1 p2 p3 : Prims} (h : pr 16 = none) (h10 : pr 10 = some (primOf RelV)) (c10 : Con (En p1) 10 RelV) (h41 : pr 41 = some (primOf Rel41)) (c41 : Con (En p2) 41 Rel41) (h43 : pr 43 = some (primOf Rel43)) (c43 : Con (En p3) 43 Rel43) : Con (En pr) 16 RelA :=
  ⟨by rintro a x ⟨r, ins, regs, _, _, _, _, rfl, rfl⟩; exact free3 _ _ _, by
    rintro a x ⟨r, ins, regs, hr, _, hi, hg, rfl, rfl⟩
    refine (run16 h h10 h41 h43 r ins regs (fun st => c10.use ⟨r, hr, plain1 r, rfl⟩ st) (fun st => c41.use ⟨r, ins, regs, hr, hi, hg, plain3 _ _ _, rfl⟩ st) (fun st hE => c43.use ⟨r, ins, regs, okM_iff.2 hE, plain3 _ _ _, rfl⟩ st) _).mono fun x st e => ?_
    subst e
    exact ⟨by simp [AV.plain, AV.plainL, rowsAV_plain], by simp [AV.free, AV.freeL, rowsAV_free]⟩⟩
theorem con14 {p1 p2 p3 : Prims} (h : pr 14 = none) (h10 : pr 10 = some (primOf RelV)) (c10 : Con (En p1) 10 RelV) (h41 : pr 41 = some (primOf Rel41)) (c41 : Con (En p2) 41 Rel41) (h42 : pr 42 = some (primOf Rel42)) (c42 : Con (En p3) 42 Rel42) : Con (En pr) 14 RelE :=
  ⟨by rintro a x ⟨r, ins, regs, _, _, _, _, rfl, rfl⟩; exact free3 _ _ _, by
    rintro a x ⟨r, ins, regs, hr, _, hi, hg, rfl, rfl⟩
    refine (run14 h h10 h41 h42 r ins regs (fun st => c10.use ⟨r, hr, plain1 r, rfl⟩ st) (fun st => c41.use ⟨r, ins, regs, hr, hi, hg, plain3 _ _ _, rfl⟩ st) (fun st hE => c42.use ⟨r, ins, regs, hE, plain3 _ _ _, rfl⟩ st) _).mono fun x st e => ?_
    subst e
    exact ⟨by simp [AV.plain, AV.plainL, rowsAV_plain], by simp [AV.free, AV.freeL, rowsAV_free]⟩⟩
theorem con17 {p1 p2 p3 p4 : Prims} (h : pr 17 = none) (h11 : pr 11 = some (primOf RelV)) (c11 : Con (En p1) 11 RelV) (h26 : pr 26 = some (primOf Rel26)) (c26 : Con (En p2) 26 Rel26) (h44 : pr 44 = some (primOf Rel44)) (c44 : Con (En p3) 44 Rel44) (h45 : pr 45 = some (primOf Rel45)) (c45 : Con2 (En p4) 45 Rel45) : Con (En pr) 17 RelA :=
  ⟨by rintro a x ⟨r, ins, regs, _, _, _, _, rfl, rfl⟩; exact free3 _ _ _, by
    rintro a x ⟨r, ins, regs, hr, hf, hi, hg, rfl, rfl⟩
    have hf1 := hf.ins
    have hf2 := hf.regs
    refine (run17 h h11 h26 h44 h45 r ins regs (fun st => c11.use ⟨r, hr, plain1 r, rfl⟩ st) (fun st => c26.use ⟨r, ⟨by omega, by omega⟩, plain1 r, rfl⟩ st) (fun st => c44.use ⟨ins, GSl.of (lensI r), hi, by simp only [AV.plainL, rowsAV_plain, lens_plain]; rfl, rfl⟩ st) (fun st => c44.use ⟨regs, GSl.of (lensR r), hg, by simp only [AV.plainL, rowsAV_plain, lens_plain]; rfl, rfl⟩ st)
      (fun w t ks st hv => c45.use ⟨w, ofRows ks, ins, regs, by rw [vals_of]; exact hv, ?_, by rw [vals_of]; rfl⟩ st) _).mono fun x st ⟨t, e⟩ => ?_
    · simp only [AV.plainL, word_plain, plain_rows, rowsAV_plain]
    · subst e
      exact ⟨by simp only [AV.plain, AV.plainL, plain_rows], by simp [AV.free, AV.freeL, free_rows]⟩⟩
theorem con15 {p1 : Prims} (h : pr 15 = none) (h17 : pr 17 = some (primOf RelA)) (c17 : Con (En p1) 17 RelA) : Con (En pr) 15 RelE :=
  ⟨by rintro a x ⟨r, ins, regs, _, _, _, _, rfl, rfl⟩; exact free3 _ _ _, by
    rintro a x ⟨r, ins, regs, hr, hf, hi, hg, rfl, rfl⟩
    refine (run15 h h17 r ins regs (fun st => c17.use ⟨r, ins, regs, hr, hf, hi, hg, plain3 _ _ _, rfl⟩ st) _).mono fun x st ⟨t, t', es, fs, h1, h2, e⟩ => ?_
    subst e
    exact ⟨by simp only [AV.plain, AV.plainL, plain_accF h1, plain_accF h2], by simp [AV.free, AV.freeL, free_accF h1, free_accF h2]⟩⟩
theorem u58_of {p1 p2 p3 p4 p5 : Prims} (h58 : pr 58 = none) (h73 : pr 73 = none) (h74 : pr 74 = none) (h80 : pr 80 = none) (h46 : pr 46 = some (primOf Rel46)) (c46 : Con2 (En p1) 46 Rel46) (h72 : pr 72 = some (primOf Rel72)) (c72 : Con2 (En p2) 72 Rel72)
    (h75 : pr 75 = some (primOf Rel75)) (c75 : Con2 (En p3) 75 Rel75) (h76 : pr 76 = some (primOf Rel76)) (c76 : Con2 (En p4) 76 Rel76) (h77 : pr 77 = some (primOf Rel77)) (c77 : Con2 (En p5) 77 Rel77) : U58 pr :=
  ⟨h58, h73, h74, h80, ⟨_, h46, fun s st h1 h2 => c46.use ⟨s, h1, h2, by simp [AV.plainL, plain_av bit_plain], rfl⟩ st⟩, ⟨_, h72, fun s st h1 => c72.use ⟨s, h1, by simp [AV.plainL, plain_av bit_plain], rfl⟩ st⟩, ⟨_, h75, fun b st => c75.use ⟨b, rfl, rfl⟩ st⟩,
    ⟨_, h76, fun s t st h1 => c76.use ⟨s, t, h1, by simp [AV.plainL, plain_av bit_plain], rfl⟩ st⟩, ⟨_, h77, fun s st h1 h2 => c77.use ⟨s, h1, h2, by simp [AV.plainL, plain_av bit_plain], rfl⟩ st⟩⟩
theorem u45_of {p1 p2 p3 p4 p5 : Prims} (h45 : pr 45 = none) (h60 : pr 60 = none) (h59 : pr 59 = some (primOf Rel59)) (c59 : Con2 (En p1) 59 Rel59) (h61 : pr 61 = some (primOf Rel61)) (c61 : Con2 (En p2) 61 Rel61)
    (h62 : pr 62 = some (primOf Rel75)) (c62 : Con2 (En p3) 62 Rel75) (h63 : pr 63 = some (primOf Rel63)) (c63 : Con2 (En p4) 63 Rel63) (h64 : pr 64 = some (primOf Rel77)) (c64 : Con2 (En p5) 64 Rel77) : U45 pr :=
  ⟨h45, h60, ⟨_, h59, fun s st h1 h2 => c59.use ⟨s, h1, h2, by simp [AV.plainL, plain_av bit_plain], rfl⟩ st⟩, ⟨_, h61, fun s n st h1 h2 => c61.use ⟨s, n, h1, h2, by simp [AV.plainL, plain_av bit_plain, AV.plain], rfl⟩ st⟩, ⟨_, h62, fun b st => c62.use ⟨b, rfl, rfl⟩ st⟩,
    ⟨_, h63, fun s t st h1 h2 => c63.use ⟨s, t, h1, h2, by simp [AV.plainL, plain_av bit_plain], rfl⟩ st⟩, ⟨_, h64, fun s st h1 h2 => c64.use ⟨s, h1, h2, by simp [AV.plainL, plain_av bit_plain], rfl⟩ st⟩⟩
end
end Go.RtlEnv

/- All the contracts of RtlEvals together. -/
namespace Go.RtlEnv
open Go Go.Proofs Go.Abs Go.RowKit
theorem all_small (r : GRtl) (ins regs : GSl (GSl UInt8)) : (allM r ins regs).length ≤ 20000 ∧ ∀ k : Nat, ((allM r ins regs).getD k []).length ≤ 4096 := by
  by_cases hok : okM r ins regs = true
  · have h1 := AllRows.of hok
    have h2 := (okM_iff.1 hok).words
    refine ⟨by rw [h1.1]; exact h2, fun k => ?_⟩
    by_cases hk : k < r.words.xs.length
    · exact (h1.2 k hk).2
    · rw [List.getD_eq_getElem?_getD, List.getElem?_eq_none (by rw [h1.1]; omega)]; simp
  · have : allM r ins regs = [] := by unfold allM; rw [if_neg hok]
    rw [this]; simp
theorem all_fits (r : GRtl) (ins regs : GSl (GSl UInt8)) : FitsR (ofRows (allM r ins regs)) := by
  obtain ⟨h1, h2⟩ := all_small r ins regs
  refine fits_of (by omega) fun x hx => ?_
  obtain ⟨k, hk, rfl⟩ := List.mem_iff_getElem.1 hx
  have := h2 k
  rw [List.getD_eq_getElem?_getD, List.getElem?_eq_getElem hk] at this
  simp at this; omega
theorem evalO_fits (r : GRtl) (ins regs : GSl (GSl UInt8)) : FitsR (ofRows (evalO r ins regs)) := by
  by_cases hok : okM r ins regs = true
  · have hN := valid_500 (okM_iff.1 hok).valid
    rw [evalO_ok hok]
    refine fits_of (by simp [outsM]; omega) fun x hx => ?_
    obtain ⟨o, _, rfl⟩ := List.mem_map.1 hx
    have := (all_small r ins regs).2 o.word.toNat
    omega
  · have : evalO r ins regs = [] := by unfold evalO; rw [if_neg hok]
    rw [this]; exact fits_of (by simp) (by simp)
theorem evalN_fits (r : GRtl) (ins regs : GSl (GSl UInt8)) : FitsR (ofRows (evalN r ins regs)) := by
  by_cases hok : okM r ins regs = true
  · have hN := valid_500 (okM_iff.1 hok).valid
    rw [evalN_ok hok]
    refine fits_of (by simp [nextM]; omega) fun x hx => ?_
    obtain ⟨o, _, rfl⟩ := List.mem_map.1 hx
    have := (all_small r ins regs).2 o.next.toNat
    omega
  · have : evalN r ins regs = [] := by unfold evalN; rw [if_neg hok]
    rw [this]; exact fits_of (by simp) (by simp)
noncomputable def prE : Prims := add pr5 66 (primOf Rel66)
theorem cc66 : Con (En pr5) 66 Rel66 := con66 rfl
theorem goodE : Good prE := good5.add cc66 fun w v => Tryd.call66 v w
theorem c34x : Con (En prE) 34 Rel34x := con34x rfl rfl rfl cc66
noncomputable def pe1 : Prims := add pr18 34 (primOf Rel34x)
theorem ge1 : Good pe1 := good18.addX goodE c34x fun w v => Tryd.call34 v w
theorem cc49 : Con (En pe1) 49 Rel49 := con49 rfl rfl c34x
noncomputable def pe2 : Prims := add pe1 49 (primOf Rel49)
theorem ge2 : Good pe2 := ge1.add cc49 fun w v => Tryd.call49 v w
theorem c41 : Con (En pe2) 41 Rel41 := con41 rfl rfl cc49
noncomputable def pe3 : Prims := add pe2 41 (primOf Rel41)
theorem ge3 : Good pe3 := ge2.add c41 fun w v => Tryd.call41 v w
theorem c44 : Con (En pe3) 44 Rel44 := con44 rfl rfl c38
noncomputable def pe4 : Prims := add pe3 44 (primOf Rel44)
theorem ge4 : Good pe4 := ge3.add c44 fun w v => Tryd.call44 v w
theorem cc26 : Con (En pe4) 26 Rel26 := con26 rfl
noncomputable def pe5 : Prims := add pe4 26 (primOf Rel26)
theorem ge5 : Good pe5 := ge4.add cc26 fun w v => Tryd.call26 v w
theorem c18 : Con (En pe5) 18 Rel18 := con18 rfl
noncomputable def pe6 : Prims := add pe5 18 (primOf Rel18)
theorem ge6 : Good pe6 := ge5.add c18 fun w v => Tryd.call18 v w
theorem c46 : Con2 (En pe6) 46 Rel46 := con46 rfl
noncomputable def pe7 : Prims := add pe6 46 (primOf Rel46)
theorem ge7 : Good pe7 := ge6.add2 c46 fun w v => Tryd.call46 v w
theorem c72 : Con2 (En pe7) 72 Rel72 := con72 rfl
noncomputable def pe8 : Prims := add pe7 72 (primOf Rel72)
theorem ge8 : Good pe8 := ge7.add2 c72 fun w v => Tryd.call72 v w
theorem c75 : Con2 (En pe8) 75 Rel75 := con75 rfl
noncomputable def pe9 : Prims := add pe8 75 (primOf Rel75)
theorem ge9 : Good pe9 := ge8.add2 c75 fun w v => Tryd.call75 v w
theorem c76 : Con2 (En pe9) 76 Rel76 := con76 rfl
noncomputable def pe10 : Prims := add pe9 76 (primOf Rel76)
theorem ge10 : Good pe10 := ge9.add2 c76 fun w v => Tryd.call76 v w
theorem c77 : Con2 (En pe10) 77 Rel77 := con77 rfl
noncomputable def pe11 : Prims := add pe10 77 (primOf Rel77)
theorem ge11 : Good pe11 := ge10.add2 c77 fun w v => Tryd.call77 v w
theorem c58 : Con2 (En pe11) 58 Rel58 := con58 (u58_of rfl rfl rfl rfl rfl c46 rfl c72 rfl c75 rfl c76 rfl c77)
noncomputable def pe12 : Prims := add pe11 58 (primOf Rel58)
theorem ge12 : Good pe12 := ge11.add2 c58 fun w v => Tryd.call58 v w
theorem c59 : Con2 (En pe12) 59 Rel59 := con59 rfl
noncomputable def pe13 : Prims := add pe12 59 (primOf Rel59)
theorem ge13 : Good pe13 := ge12.add2 c59 fun w v => Tryd.call59 v w
theorem c61 : Con2 (En pe13) 61 Rel61 := con61 rfl
noncomputable def pe14 : Prims := add pe13 61 (primOf Rel61)
theorem ge14 : Good pe14 := ge13.add2 c61 fun w v => Tryd.call61 v w
theorem cc62 : Con2 (En pe14) 62 Rel75 := con62 rfl
noncomputable def pe15 : Prims := add pe14 62 (primOf Rel75)
theorem ge15 : Good pe15 := ge14.add2 cc62 fun w v => Tryd.call62 v w
theorem c63 : Con2 (En pe15) 63 Rel63 := con63 rfl
noncomputable def pe16 : Prims := add pe15 63 (primOf Rel63)
theorem ge16 : Good pe16 := ge15.add2 c63 fun w v => Tryd.call63 v w
theorem c64 : Con2 (En pe16) 64 Rel77 := con64 rfl
noncomputable def pe17 : Prims := add pe16 64 (primOf Rel77)
theorem ge17 : Good pe17 := ge16.add2 c64 fun w v => Tryd.call64 v w
theorem c45 : Con2 (En pe17) 45 Rel45 := con45 (u45_of rfl rfl rfl c59 rfl c61 rfl cc62 rfl c63 rfl c64)
noncomputable def pe18 : Prims := add pe17 45 (primOf Rel45)
theorem ge18 : Good pe18 := ge17.add2 c45 fun w v => Tryd.call45 v w
theorem c43 : Con (En pe18) 43 Rel43 := con43 rfl rfl c46 rfl c58
noncomputable def pe19 : Prims := add pe18 43 (primOf Rel43)
theorem ge19 : Good pe19 := ge18.add c43 fun w v => Tryd.call43 v w
theorem c42 : Con (En pe19) 42 Rel42 := con42 rfl rfl c43 rfl c46
noncomputable def pe20 : Prims := add pe19 42 (primOf Rel42)
theorem ge20 : Good pe20 := ge19.add c42 fun w v => Tryd.call42 v w
theorem c16 : Con (En pe20) 16 RelA := con16 rfl rfl c10 rfl c41 rfl c43
noncomputable def pe21 : Prims := add pe20 16 (primOf RelA)
theorem ge21 : Good pe21 := ge20.add c16 fun w v => Tryd.call16 v w
theorem c14 : Con (En pe21) 14 RelE := con14 rfl rfl c10 rfl c41 rfl c42
noncomputable def pe22 : Prims := add pe21 14 (primOf RelE)
theorem ge22 : Good pe22 := ge21.add c14 fun w v => Tryd.call14 v w
theorem c17 : Con (En pe22) 17 RelA := con17 rfl rfl c11 rfl cc26 rfl c44 rfl c45
noncomputable def pe23 : Prims := add pe22 17 (primOf RelA)
theorem ge23 : Good pe23 := ge22.add c17 fun w v => Tryd.call17 v w
theorem c15 : Con (En pe23) 15 RelE := con15 rfl rfl c17
noncomputable def pe24 : Prims := add pe23 15 (primOf RelE)
theorem ge24 : Good pe24 := ge23.add c15 fun w v => Tryd.call15 v w
theorem evals_calls (w : World) (r : GRtl) (ins regs : GSl (GSl UInt8)) (hr : Fits r) (h60 : Len60 r) (hi : FitsR ins) (hg : FitsR regs) (v0 v1 v2 : Value) (hv0 : R (Ghost.all w) (rtlAV r) v0) (hv1 : R (Ghost.all w) (rowsAV ins) v1) (hv2 : R (Ghost.all w) (rowsAV regs) v2) :
    Calls Tryd.prog 4 #[v0, v1, v2] w fun e w' => e = .returned (.bool true) ∧ Below w.heap.size w w' := by
  have us : ∀ l, FitsR (ofRows l) → ∀ st, primOf Rel18 [rowsAV (ofRows l), rowsAV (ofRows l)] st = some (.bool true, st) := fun l hl st =>
    c18.use ⟨ofRows l, ofRows l, hl, by simp [AV.plainL, rowsAV_plain], by rw [sameM_refl]⟩ st
  obtain ⟨n, x, st', h, hx⟩ := run4 (pr := pe24) rfl rfl rfl rfl rfl (fun st => con9.use ⟨rfl, rfl⟩ st) r ins regs hr h60 hi hg
    rfl (fun hf st => c14.use ⟨r, ins, regs, hr, hf, hi, hg, plain3 _ _ _, rfl⟩ st) rfl (fun hf st => c15.use ⟨r, ins, regs, hr, hf, hi, hg, plain3 _ _ _, rfl⟩ st)
    rfl (fun hf st => c16.use ⟨r, ins, regs, hr, hf, hi, hg, plain3 _ _ _, rfl⟩ st) rfl (fun hf st => c17.use ⟨r, ins, regs, hr, hf, hi, hg, plain3 _ _ _, rfl⟩ st)
    rfl (us _ (evalO_fits r ins regs)) (us _ (evalN_fits r ins regs)) (us _ (all_fits r ins regs)) St.empty
  refine ((callF_sound (En_ok pe24) (ge24.ok w.heap.size w) n 4 [rtlAV r, rowsAV ins, rowsAV regs] St.empty x st' h).2 (Ghost.all w) w #[v0, v1, v2] (Inv.all w) (RL.cons hv0 (RL.cons hv1 (RL.cons hv2 (RL.nil _))))).mono ?_
  rintro e w' ⟨u, Γ, rfl, out, hu⟩
  subst hx
  simp only [R] at hu
  subst hu
  exact ⟨rfl, out.inv.below⟩
end Go.RtlEnv
