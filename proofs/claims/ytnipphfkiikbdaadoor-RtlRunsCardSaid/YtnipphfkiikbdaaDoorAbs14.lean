/- Own text of this claim: part 14 of an interpreter that is proved sound against the model, and of what it shows of the law. -/
import Derived.Test.YtnipphfkiikbdaaDoorAbs13
import Derived.Test.YtnipphfkiikbdaaDoorAbs6b
/- Bits in slices of slices: small functions of RtlEvals. -/
namespace Go.RtlEnv
open Go Go.Proofs Go.Abs Go.RowKit
set_option maxRecDepth 10000
def bitsAV (s : GSl UInt8) : AV := s.av 1 bitAV
def rowsAV (s : GSl (GSl UInt8)) : AV := s.av 1 fun x => x.av 1 bitAV
def vals (s : GSl (GSl UInt8)) : List (List UInt8) := s.xs.map (·.xs)
theorem vals_len (s : GSl (GSl UInt8)) : (vals s).length = s.xs.length := List.length_map _
theorem vals_get (s : GSl (GSl UInt8)) (i : Nat) (h : i < s.xs.length) : (vals s)[i]'(by rw [vals_len]; exact h) = s.xs[i].xs := by simp [vals]
structure FitsR (s : GSl (GSl UInt8)) : Prop where
  len : s.xs.length < 9223372036854775808
  each : ∀ x ∈ s.xs, x.xs.length < 9223372036854775808
attribute [local irreducible] WS QS OS OD Abs.Sub SubO SubK CW GSl.av accA
section
variable {pr : Prims}
/-- bits says some bool. -/
theorem run12 (h1 : pr 12 = none) (s : GSl (GSl UInt8)) (hs : FitsR s) (st : St) : CW (En pr) 12 [rowsAV s] st fun x _ => ∃ b, x = .bool b := by
  obtain ⟨f1, f2⟩ := hs
  unfold rowsAV
  refine CW.start (N := 21) h1 rfl rfl ?_
  repeat' (first | (refine OS.do rfl ?_; first | refine OD.auto rfl rfl ?_ | refine OD.len rfl rfl (fun _ => lenTy_av rfl rfl) ?_) | refine OS.nil ?_ | refine WS.seq ?_ | refine QS.seqN ?_ | refine WS.region ?_ | refine WS.block ?_)
  refine WS.loop (D := Nat × Int) (fun d => [(3, .int .i64 d.2), (8, s.av 1 fun x => x.av 1 bitAV), (9, .int .i64 s.xs.length), (10, .int .i64 d.1)]) (fun _ => []) (fun _ => [])
    (fun d => d.1 ≤ s.xs.length) (fun d => s.xs.length + 1 - d.1) (0, (s.xs.length : Int)) (by omega) ?_ (.nil _) (.nil _) ?_
  · repeat' (first | exact Sub.nil _ | refine Sub.cons (congrArg (fun z => some (AV.int .i64 z)) (wrap_succ (by omega))) ?_ | refine Sub.cons rfl ?_)
  rintro ⟨i, n⟩ hi
  dsimp only at hi ⊢
  repeat' (first | (refine OS.do rfl ?_; first | refine OD.indexAddr rfl rfl rfl (indexAddrA_natS rfl rfl rfl rfl (by first | assumption | exact List.getElem?_eq_getElem (by omega))) ?_ | refine OD.auto rfl rfl ?_ | refine OD.len rfl rfl (fun _ => lenTy_av rfl rfl) ?_) | refine OS.nil ?_ | refine WS.seq ?_ | refine QS.seqN ?_ | refine WS.region ?_ | refine WS.condD rfl (fun _ => ?_) (fun _ => ?_) | refine WS.skip ?_ | refine WS.block ?_ | refine WS.ret ?_ | refine QS.blockN ?_ | refine WS.exit ?_ | refine QS.seqE ?_ | refine QS.blockH ?_ | refine QS.loopE ?_)
  all_goals try (have hlt : i < s.xs.length := by omega
                 refine QS.loopN (i + 1, IntKind.i64.wrap (n + (s.xs[i].xs.length : Int))) ?_ ?_ ?_ ?_ ?_
                 · dsimp only; omega
                 · dsimp only; omega
                 · refine Sub.cons rfl ?_
                   repeat' (first | exact Sub.nil _ | refine Sub.cons (congrArg (fun z => some (AV.int .i64 z)) (wrap_succ (by omega))) ?_ | refine Sub.cons rfl ?_)
                 · exact .nil _
                 · exact .nil _)
  all_goals (refine QS.retR (by rfl) fun _ => ⟨_, rfl⟩)
theorem run13 (h1 : pr 13 = none) (r : GRtl) (hr : Fits r) (st : St) : CW (En pr) 13 [rtlAV r] st fun x _ => x = .bool (r.words.xs.any fun w => decide (600 < w.len ∨ w.op = 10 ∧ 100 < w.len)) := by
  have f3 := hr.words
  refine CW.start (N := 26) h1 rfl rfl ?_
  repeat' (first | (refine OS.do rfl ?_; first | refine OD.box rfl rfl rfl rfl (rtl_ok _) rfl (fun b1 => ?_) | refine OD.loadP 0 rfl rfl rfl rfl rfl rfl ?_ | refine OD.auto rfl rfl ?_ | refine OD.len rfl rfl (fun _ => lenTy_av rfl rfl) ?_) | refine OS.nil ?_ | refine WS.seq ?_ | refine QS.seqN ?_ | refine WS.region ?_ | refine WS.block ?_)
  refine WS.loop (D := Nat) (fun i => [(6, r.words.av 5 wordAV), (7, .int .i64 r.words.xs.length), (8, .int .i64 i)]) (fun _ => []) (fun _ => [])
    (fun i => i ≤ r.words.xs.length ∧ (r.words.xs.take i).any (fun w => decide (600 < w.len ∨ w.op = 10 ∧ 100 < w.len)) = false) (fun i => r.words.xs.length + 1 - i) 0 ⟨by omega, by simp⟩ ?_ (.nil _) (.nil _) ?_
  · repeat' (first | exact Sub.nil _ | refine Sub.cons (congrArg (fun z => some (AV.int .i64 z)) (wrap_succ (by omega))) ?_ | refine Sub.cons rfl ?_)
  rintro i ⟨hi, ha⟩
  repeat' (first | (refine OS.do rfl ?_; first | refine OD.loadP 0 rfl rfl rfl rfl rfl rfl ?_ | refine OD.auto rfl rfl ?_ | refine OD.indexAddr rfl rfl rfl (indexAddrA_nat rfl rfl rfl rfl (by first | assumption | exact List.getElem?_eq_getElem (by omega))) ?_ | refine OD.alloc rfl rfl rfl rfl (fun _ => ?_) | refine OD.storeW 0 rfl rfl rfl rfl (by first | rfl | exact hold_ok _ | exact word_ok _ | exact rtl_ok _) rfl rfl rfl ?_) | refine OS.nil ?_ | refine OS.skip rfl rfl rfl ?_ | refine WS.seq ?_ | refine QS.seqN ?_ | refine WS.region ?_ | refine WS.condT rfl ?_ | refine WS.condF rfl ?_ | refine WS.condD rfl (fun _ => ?_) (fun _ => ?_) | refine WS.skip ?_ | refine WS.block ?_ | refine WS.ret ?_ | refine QS.seqR ?_ | refine QS.blockR ?_ | refine QS.loopR ?_ | refine QS.blockN ?_ | refine WS.exit ?_ | refine QS.seqE ?_ | refine QS.blockH ?_ | refine QS.loopE ?_ | ((fail_if_success (refine OS.do rfl ?_)); first | refine OS.splitD rfl rfl rfl (fun _ => ?_) (fun _ => ?_)))
  all_goals try (refine QS.loopN (i + 1) ?_ ?_ ?_ ?_ ?_
                 · exact ⟨by omega, any_take_succ (by omega) ha (decide_eq_false (by omega))⟩
                 · omega
                 · repeat' (first | exact Sub.nil _ | refine Sub.cons (congrArg (fun z => some (AV.int .i64 z)) (wrap_succ (by omega))) ?_ | refine Sub.cons rfl ?_)
                 · exact .nil _
                 · exact .nil _)
  all_goals try (refine QS.retR (by rfl) fun _ => ?_; rw [any_of_take (i := i) (by omega) ha]; rfl)
  all_goals (refine QS.retR (by rfl) fun _ => ?_; rw [any_true (xs := r.words.xs) (f := fun (w : GWord) => decide (600 < w.len ∨ w.op = 10 ∧ 100 < w.len)) (i := i) (by omega) (decide_eq_true (by omega))]; rfl)
theorem run66 (h1 : pr 66 = none) (b : UInt8) (st : St) : CW (En pr) 66 [bitAV b] st fun r _ => r = .bool (decide (1 < b.toNat)) := by
  refine CW.start (N := 5) h1 rfl rfl ?_
  repeat' (first | (refine OS.do rfl ?_; first | refine OD.auto rfl rfl ?_) | refine OS.nil ?_ | refine WS.seq ?_ | refine QS.seqN ?_ | refine WS.region ?_ | refine WS.ret ?_)
  all_goals (refine QS.retR (by rfl) fun _ => ?_; show AV.bool _ = _; congr 1; rw [decide_eq_decide]; omega)
/-- known: so many bits, and known ones. -/
def knownM (n : Int) (l : List UInt8) : Bool := decide ((l.length : Int) = n) && upto 1 l
theorem run49 (h1 : pr 49 = none) {p34 : List AV → St → Option (AV × St)} (h34 : pr 34 = some p34) (s : GSl UInt8) (u34 : ∀ st, p34 [s.av 1 bitAV, .fn 66 [] []] st = some (.bool (!(upto 1 s.xs)), st)) (n : Int) (st : St) : CW (En pr) 49 [s.av 1 bitAV, .int .i64 n] st fun r _ => r = .bool (knownM n s.xs) := by
  refine CW.start (N := 14) h1 rfl rfl ?_
  repeat' (first | (refine OS.do rfl ?_; first | refine OD.auto rfl rfl ?_ | refine OD.len rfl rfl (fun _ => lenTy_av rfl rfl) ?_ | refine OD.call rfl rfl rfl h34 u34 (fun _ => rfl) ?_) | refine OS.nil ?_ | refine OS.skip rfl rfl rfl ?_ | refine WS.seq ?_ | refine QS.seqN ?_ | refine WS.region ?_ | refine WS.ret ?_ | ((fail_if_success (refine OS.do rfl ?_)); first | refine OS.splitD rfl rfl rfl (fun _ => ?_) (fun _ => ?_)))
  all_goals (refine QS.retR (by rfl) fun _ => ?_; show AV.bool _ = AV.bool _; congr 1; unfold knownM)
  all_goals first
    | (rw [decide_eq_true (by assumption)]; simp; done)
    | (rw [decide_eq_false (by assumption)]; rfl)
theorem take_eq_succ {α : Type} {l m : List α} {i : Nat} (hl : i < l.length) (hm : i < m.length) (h : l.take i = m.take i) (he : l[i] = m[i]) : l.take (i + 1) = m.take (i + 1) := by
  rw [List.take_succ_eq_append_getElem hl, List.take_succ_eq_append_getElem hm, h, he]
theorem eq_of_take {α : Type} {l m : List α} {i : Nat} (h : l.take i = m.take i) (hl : l.length ≤ i) (hm : m.length ≤ i) : l = m := by
  rwa [List.take_of_length_le hl, List.take_of_length_le hm] at h
theorem ne_of_get {α : Type} {l m : List α} {i : Nat} (hl : i < l.length) (hm : i < m.length) (he : l[i] ≠ m[i]) : l ≠ m := by
  rintro rfl; exact he rfl
def sameM (s t : GSl (GSl UInt8)) : Bool := decide (vals s = vals t)
theorem same_len {s t : GSl (GSl UInt8)} (h : s.xs.length ≠ t.xs.length) : sameM s t = false := decide_eq_false fun k => h (by rw [← vals_len s, ← vals_len t, k])
theorem same_row {s t : GSl (GSl UInt8)} {i : Nat} (h1 : i < s.xs.length) (h2 : i < t.xs.length) (h : s.xs[i].xs ≠ t.xs[i].xs) : sameM s t = false :=
  decide_eq_false (ne_of_get (i := i) (by rw [vals_len]; exact h1) (by rw [vals_len]; exact h2) (by rw [vals_get s i h1, vals_get t i h2]; exact h))
set_option maxHeartbeats 1000000 in
theorem run18 (h1 : pr 18 = none) (s t : GSl (GSl UInt8)) (hs : FitsR s) (st : St) : CW (En pr) 18 [rowsAV s, rowsAV t] st fun x _ => x = .bool (sameM s t) := by
  obtain ⟨f1, f2⟩ := hs
  unfold rowsAV
  refine CW.start (N := 53) h1 rfl rfl ?_
  repeat' (first | (refine OS.do rfl ?_; first | refine OD.auto rfl rfl ?_ | refine OD.len rfl rfl (fun _ => lenTy_av rfl rfl) ?_) | refine OS.nil ?_ | refine WS.seq ?_ | refine QS.seqN ?_ | refine WS.region ?_ | refine WS.skip ?_ | refine WS.block ?_ | refine WS.ret ?_ | refine QS.seqR ?_ | refine WS.condNe rfl (fun _ => ?_) (fun _ => ?_))
  all_goals try (refine QS.retR (by rfl) fun _ => ?_; rw [same_len (by omega)]; rfl)
  rename_i hlen
  refine WS.loop (D := Nat) (fun i => [(0, s.av 1 fun x => x.av 1 bitAV), (1, t.av 1 fun x => x.av 1 bitAV), (12, s.av 1 fun x => x.av 1 bitAV), (13, .int .i64 s.xs.length), (14, .int .i64 i)]) (fun _ => []) (fun _ => [])
    (fun i => i ≤ s.xs.length ∧ (vals s).take i = (vals t).take i) (fun i => s.xs.length + 1 - i) 0 ⟨by omega, by simp⟩ ?_ (.nil _) (.nil _) ?_
  · repeat' (first | exact Sub.nil _ | refine Sub.cons (congrArg (fun z => some (AV.int .i64 z)) (wrap_succ (by omega))) ?_ | refine Sub.cons rfl ?_)
  rintro i ⟨hi, ha⟩
  have hvs := vals_len s
  have hvt := vals_len t
  repeat' (first | (refine OS.do rfl ?_; first | refine OD.indexAddr rfl rfl rfl (indexAddrA_natS rfl rfl rfl rfl (by first | assumption | exact List.getElem?_eq_getElem (by omega))) ?_ | refine OD.auto rfl rfl ?_ | refine OD.len rfl rfl (fun _ => lenTy_av rfl rfl) ?_) | refine OS.nil ?_ | refine WS.seq ?_ | refine QS.seqN ?_ | refine WS.region ?_ | refine WS.condD rfl (fun _ => ?_) (fun _ => ?_) | refine WS.skip ?_ | refine WS.block ?_ | refine WS.ret ?_ | refine QS.seqR ?_ | refine QS.blockR ?_ | refine QS.loopR ?_ | refine WS.exit ?_ | refine QS.seqE ?_ | refine QS.blockH ?_ | refine QS.loopE ?_ | refine WS.draw rfl rfl ?_ | refine WS.condNe rfl (fun _ => ?_) (fun _ => ?_))
  all_goals try (refine QS.retR (by rfl) fun _ => ?_
                 first
                  | (rw [sameM, decide_eq_true (eq_of_take ha (by omega) (by omega))]; rfl)
                  | (rw [same_row (i := i) (by omega) (by omega) (fun e => absurd (congrArg List.length e) (by omega))]; rfl))
  rename_i hlt hrow
  have hlt' : i < t.xs.length := by omega
  have hlt : i < s.xs.length := by omega
  have hbs : (s.xs[i]).xs.length < 9223372036854775808 := f2 _ (List.getElem_mem hlt)
  refine WS.loop (D := Nat) (fun j => [(0, s.av 1 fun x => x.av 1 bitAV), (1, t.av 1 fun x => x.av 1 bitAV), (12, s.av 1 fun x => x.av 1 bitAV), (13, .int .i64 s.xs.length), (14, .int .i64 i), (5, .int .i64 i), (32, .int .i64 (s.xs[i]).xs.length), (33, .int .i64 j)]) (fun _ => []) (fun _ => [])
    (fun j => j ≤ (s.xs[i]).xs.length ∧ (s.xs[i]).xs.take j = (t.xs[i]).xs.take j) (fun j => (s.xs[i]).xs.length + 1 - j) 0 ⟨by omega, by simp⟩ ?_ (.nil _) (.nil _) ?_
  · repeat' (first | exact Sub.nil _ | refine Sub.cons (congrArg (fun z => some (AV.int .i64 z)) (wrap_succ (by omega))) ?_ | refine Sub.cons rfl ?_)
  rintro j ⟨hj, hb⟩
  repeat' (first | (refine OS.do rfl ?_; first | refine OD.indexAddr rfl rfl rfl (indexAddrA_natS rfl rfl rfl rfl (by first | assumption | exact List.getElem?_eq_getElem (by omega))) ?_ | refine OD.auto rfl rfl ?_ | refine OD.indexAddr rfl rfl rfl (indexAddrA_nat rfl rfl rfl rfl (by first | assumption | exact List.getElem?_eq_getElem (by omega))) ?_) | refine OS.nil ?_ | refine WS.seq ?_ | refine QS.seqN ?_ | refine WS.region ?_ | refine WS.condD rfl (fun _ => ?_) (fun _ => ?_) | refine WS.skip ?_ | refine WS.block ?_ | refine WS.ret ?_ | refine QS.seqR ?_ | refine QS.blockR ?_ | refine QS.loopR ?_ | refine QS.blockN ?_ | refine WS.exit ?_ | refine QS.seqE ?_ | refine QS.blockH ?_ | refine QS.loopE ?_ | refine WS.draw rfl rfl ?_ | refine WS.condNe rfl (fun _ => ?_) (fun _ => ?_))
  all_goals try (refine QS.loopN (j + 1) ?_ ?_ ?_ ?_ ?_
                 · exact ⟨by omega, take_eq_succ (by omega) (by omega) hb (UInt8.toNat_inj.1 (by omega))⟩
                 · omega
                 · repeat' (first | exact Sub.nil _ | refine Sub.cons (congrArg (fun z => some (AV.int .i64 z)) (wrap_succ (by omega))) ?_ | refine Sub.cons rfl ?_)
                 · exact .nil _
                 · exact .nil _)
  all_goals try (refine QS.loopN (i + 1) ?_ ?_ ?_ ?_ ?_
                 · exact ⟨by omega, take_eq_succ (by omega) (by omega) ha (by rw [vals_get s i hlt, vals_get t i hlt']; exact eq_of_take hb (by omega) (by omega))⟩
                 · omega
                 · repeat' (first | exact Sub.nil _ | refine Sub.cons (congrArg (fun z => some (AV.int .i64 z)) (wrap_succ (by omega))) ?_ | refine Sub.cons rfl ?_)
                 · exact .nil _
                 · exact .nil _)
  all_goals (refine QS.retR (by rfl) fun _ => ?_
             rw [same_row (i := i) hlt hlt' (ne_of_get (i := j) (by omega) (by omega) (fun e => by have := congrArg UInt8.toNat e; omega))]; rfl)
end
end Go.RtlEnv

/- Bits that fit. -/
namespace Go.RtlEnv
open Go Go.Proofs Go.Abs Go.RowKit
set_option maxRecDepth 10000
/-- How many bits inputs, and registers, have. -/
def lensI (r : GRtl) : List Int := r.ins.xs.map (·.len)
def lensR (r : GRtl) : List Int := r.regs.xs.map fun h => (h.init.xs.length : Int)
def rowOk (l : List (List UInt8)) (n : List Int) (i : Nat) : Bool := knownM (n.getD i 0) (l.getD i [])
def fitsM (l : List (List UInt8)) (n : List Int) : Bool := decide (l.length = n.length) && (List.range l.length).all (rowOk l n)
theorem fitsM_len {l : List (List UInt8)} {n : List Int} (h : l.length ≠ n.length) : fitsM l n = false := by simp only [fitsM, decide_eq_false h, Bool.false_and]
theorem fitsM_bad {l : List (List UInt8)} {n : List Int} {i : Nat} (h : i < l.length) (hb : rowOk l n i = false) : fitsM l n = false := by
  have := all_false (xs := List.range l.length) (f := rowOk l n) (i := i) (by simpa using h) (by simpa using hb)
  simp only [fitsM, this, Bool.and_false]
theorem fitsM_true {l : List (List UInt8)} {n : List Int} {i : Nat} (h : l.length = n.length) (hi : l.length ≤ i) (ha : (List.range i).all (rowOk l n) = true) : fitsM l n = true := by
  unfold fitsM
  rw [decide_eq_true h, Bool.true_and, List.all_eq_true]
  intro k hk
  exact List.all_eq_true.1 ha k (by simp at hk ⊢; omega)
theorem rowOk_at {s : GSl (GSl UInt8)} {n : List Int} {i : Nat} (h1 : i < s.xs.length) (h2 : i < n.length) : rowOk (vals s) n i = knownM n[i] s.xs[i].xs := by
  unfold rowOk
  rw [List.getD_eq_getElem?_getD, List.getD_eq_getElem?_getD, List.getElem?_eq_getElem h2, List.getElem?_eq_getElem (by rw [vals_len]; exact h1), vals_get s i h1]
  rfl
theorem range_all_succ {f : Nat → Bool} {i : Nat} (h : (List.range i).all f = true) (hi : f i = true) : (List.range (i + 1)).all f = true := by
  rw [List.range_succ, List.all_append, h]; simp [hi]
attribute [local irreducible] WS QS OS OD Abs.Sub SubO SubK CW GSl.av accA
section
variable {pr : Prims}
set_option maxHeartbeats 1000000 in
theorem run44 (h1 : pr 44 = none) {p38 : List AV → St → Option (AV × St)} (h38 : pr 38 = some p38) (s : GSl (GSl UInt8)) (hs : FitsR s) (u38 : ∀ x ∈ s.xs, ∀ st, p38 [x.av 1 bitAV, .int .u8 1] st = some (.bool (upto 1 x.xs), st)) (n : GSl Int) (st : St) :
    CW (En pr) 44 [rowsAV s, n.av 1 intAV] st fun x _ => x = .bool (fitsM (vals s) n.xs) := by
  obtain ⟨f1, f2⟩ := hs
  have hvs := vals_len s
  unfold rowsAV
  refine CW.start (N := 35) h1 rfl rfl ?_
  repeat' (first | (refine OS.do rfl ?_; first | refine OD.auto rfl rfl ?_ | refine OD.len rfl rfl (fun _ => lenTy_av rfl rfl) ?_) | refine OS.nil ?_ | refine WS.seq ?_ | refine QS.seqN ?_ | refine WS.region ?_ | refine WS.skip ?_ | refine WS.block ?_ | refine WS.ret ?_ | refine QS.seqR ?_ | refine WS.condNe rfl (fun _ => ?_) (fun _ => ?_))
  all_goals try (refine QS.retR (by rfl) fun _ => ?_; rw [fitsM_len (by omega)]; rfl)
  rename_i hlen
  refine WS.loop (D := Nat) (fun i => [(0, s.av 1 fun x => x.av 1 bitAV), (1, n.av 1 intAV), (11, s.av 1 fun x => x.av 1 bitAV), (12, .int .i64 s.xs.length), (13, .int .i64 i)]) (fun _ => []) (fun _ => [])
    (fun i => i ≤ s.xs.length ∧ (List.range i).all (rowOk (vals s) n.xs) = true) (fun i => s.xs.length + 1 - i) 0 ⟨by omega, by simp⟩ ?_ (.nil _) (.nil _) ?_
  · repeat' (first | exact Sub.nil _ | refine Sub.cons (congrArg (fun z => some (AV.int .i64 z)) (wrap_succ (by omega))) ?_ | refine Sub.cons rfl ?_)
  rintro i ⟨hi, ha⟩
  repeat' (first | (refine OS.do rfl ?_; first | refine OD.indexAddr rfl rfl rfl (indexAddrA_natS rfl rfl rfl rfl (by first | assumption | exact List.getElem?_eq_getElem (by omega))) ?_ | refine OD.auto rfl rfl ?_ | refine OD.len rfl rfl (fun _ => lenTy_av rfl rfl) ?_ | refine OD.indexAddr rfl rfl rfl (indexAddrA_nat rfl rfl rfl rfl (by first | assumption | exact List.getElem?_eq_getElem (by omega))) ?_ | refine OD.call rfl rfl rfl h38 (u38 _ (List.getElem_mem (by omega))) (fun _ => rfl) ?_) | refine OS.nil ?_ | refine OS.skip rfl rfl rfl ?_ | refine WS.seq ?_ | refine QS.seqN ?_ | refine WS.region ?_ | refine WS.condT rfl ?_ | refine WS.condD rfl (fun _ => ?_) (fun _ => ?_) | refine WS.skip ?_ | refine WS.block ?_ | refine WS.ret ?_ | refine QS.seqR ?_ | refine QS.blockR ?_ | refine QS.loopR ?_ | refine QS.blockN ?_ | refine WS.exit ?_ | refine QS.seqE ?_ | refine QS.blockH ?_ | refine QS.loopE ?_ | refine WS.draw rfl rfl ?_ | refine WS.condN rfl (fun _ => ?_) (fun _ => ?_) | ((fail_if_success (refine OS.do rfl ?_)); first | refine OS.splitNe rfl rfl rfl (fun _ => ?_) (fun _ => ?_)))
  all_goals try (refine QS.retR (by rfl) fun _ => ?_; rw [fitsM_true (by omega) (by omega) ha]; rfl)
  all_goals try (have hq := rowOk_at (s := s) (n := n.xs) (i := i) (by omega) (by omega)
                 refine QS.loopN (i + 1) ?_ ?_ ?_ ?_ ?_
                 · exact ⟨by omega, range_all_succ ha (by rw [hq]; unfold knownM; rw [decide_eq_true (by omega), Bool.true_and]; assumption)⟩
                 · omega
                 · repeat' (first | exact Sub.nil _ | refine Sub.cons (congrArg (fun z => some (AV.int .i64 z)) (wrap_succ (by omega))) ?_ | refine Sub.cons rfl ?_)
                 · exact .nil _
                 · exact .nil _)
  all_goals (have hq := rowOk_at (s := s) (n := n.xs) (i := i) (by omega) (by omega)
             refine QS.retR (by rfl) fun _ => ?_
             rw [fitsM_bad (i := i) (by omega) (by rw [hq]; unfold knownM; first | rw [decide_eq_false (by omega), Bool.false_and] | (rw [Bool.and_eq_false_iff]; right; assumption))]; rfl)
set_option maxHeartbeats 1000000 in
theorem run41 (h1 : pr 41 = none) {p49 : List AV → St → Option (AV × St)} (h49 : pr 49 = some p49) (r : GRtl) (hr : Fits r) (ins regs : GSl (GSl UInt8)) (hi : FitsR ins) (hg : FitsR regs)
    (u49 : ∀ x : GSl UInt8, x ∈ ins.xs ∨ x ∈ regs.xs → ∀ (n : Int) st, p49 [x.av 1 bitAV, .int .i64 n] st = some (.bool (knownM n x.xs), st)) (st : St) :
    CW (En pr) 41 [rtlAV r, rowsAV ins, rowsAV regs] st fun x _ => x = .bool (fitsM (vals ins) (lensI r) && fitsM (vals regs) (lensR r)) := by
  obtain ⟨f1, f2⟩ := hi
  obtain ⟨g1, g2⟩ := hg
  have hvi := vals_len ins
  have hvg := vals_len regs
  have hli : (lensI r).length = r.ins.xs.length := List.length_map _
  have hlr : (lensR r).length = r.regs.xs.length := List.length_map _
  unfold rowsAV
  refine CW.start (N := 60) h1 rfl rfl ?_
  repeat' (first | (refine OS.do rfl ?_; first | refine OD.box rfl rfl rfl rfl (rtl_ok _) rfl (fun b3 => ?_) | refine OD.loadP 0 rfl rfl rfl rfl rfl rfl ?_ | refine OD.auto rfl rfl ?_ | refine OD.len rfl rfl (fun _ => lenTy_av rfl rfl) ?_) | refine OS.nil ?_ | refine OS.skip rfl rfl rfl ?_ | refine WS.seq ?_ | refine QS.seqN ?_ | refine WS.region ?_ | refine WS.condT rfl ?_ | refine WS.skip ?_ | refine WS.block ?_ | refine WS.ret ?_ | refine QS.seqR ?_ | refine WS.condNe rfl (fun _ => ?_) (fun _ => ?_) | ((fail_if_success (refine OS.do rfl ?_)); first | refine OS.splitNe rfl rfl rfl (fun _ => ?_) (fun _ => ?_)))
  all_goals try (refine QS.retR (by rfl) fun _ => ?_
                 first
                  | (rw [fitsM_len (l := vals ins) (by omega)]; rfl)
                  | (rw [fitsM_len (l := vals regs) (by omega), Bool.and_false]; rfl))
  rename_i hl1 hl2
  refine WS.loop (D := Nat) (fun i => [(2, regs.av 1 fun x => x.av 1 bitAV), (3, .ptr b3 0 0), (25, ins.av 1 fun x => x.av 1 bitAV), (26, .int .i64 ins.xs.length), (27, .int .i64 i)]) (fun _ => [(b3, .row 4 [rtlAV r])]) (fun _ => [])
    (fun i => i ≤ ins.xs.length ∧ (List.range i).all (rowOk (vals ins) (lensI r)) = true) (fun i => ins.xs.length + 1 - i) 0 ⟨by omega, by simp⟩ ?_ (.refl _) (.nil _) ?_
  · repeat' (first | exact Sub.nil _ | refine Sub.cons (congrArg (fun z => some (AV.int .i64 z)) (wrap_succ (by omega))) ?_ | refine Sub.cons rfl ?_)
  rintro i ⟨hi, ha⟩
  repeat' (first | (refine OS.do rfl ?_; first | refine OD.indexAddr rfl rfl rfl (indexAddrA_natS rfl rfl rfl rfl (by first | assumption | exact List.getElem?_eq_getElem (by omega))) ?_ | refine OD.loadP 0 rfl rfl rfl rfl rfl rfl ?_ | refine OD.auto rfl rfl ?_ | refine OD.len rfl rfl (fun _ => lenTy_av rfl rfl) ?_ | refine OD.indexAddr rfl rfl rfl (indexAddrA_nat rfl rfl rfl rfl (by first | assumption | exact List.getElem?_eq_getElem (by omega))) ?_ | refine OD.call rfl rfl rfl h49 (u49 _ (.inl (List.getElem_mem (by omega))) _) (fun _ => rfl) ?_) | refine OS.nil ?_ | refine WS.seq ?_ | refine QS.seqN ?_ | refine WS.region ?_ | refine WS.condD rfl (fun _ => ?_) (fun _ => ?_) | refine WS.skip ?_ | refine WS.block ?_ | refine WS.ret ?_ | refine QS.seqR ?_ | refine QS.blockR ?_ | refine QS.loopR ?_ | refine QS.blockN ?_ | refine WS.exit ?_ | refine QS.seqE ?_ | refine QS.blockH ?_ | refine QS.loopE ?_ | refine WS.condN rfl (fun _ => ?_) (fun _ => ?_))
  all_goals try (have hq := rowOk_at (s := ins) (n := lensI r) (i := i) (by omega) (by omega)
                 have hz : (lensI r)[i]'(by omega) = (r.ins.xs[i]'(by omega)).len := List.getElem_map _
                 refine QS.loopN (i + 1) ?_ ?_ ?_ ?_ ?_
                 · exact ⟨by omega, range_all_succ ha (by rw [hq, hz]; assumption)⟩
                 · omega
                 · repeat' (first | exact Sub.nil _ | refine Sub.cons (congrArg (fun z => some (AV.int .i64 z)) (wrap_succ (by omega))) ?_ | refine Sub.cons rfl ?_)
                 · exact .refl _
                 · exact .nil _)
  all_goals try (have hq := rowOk_at (s := ins) (n := lensI r) (i := i) (by omega) (by omega)
                 have hz : (lensI r)[i]'(by omega) = (r.ins.xs[i]'(by omega)).len := List.getElem_map _
                 refine QS.retR (by rfl) fun _ => ?_
                 rw [fitsM_bad (l := vals ins) (i := i) (by omega) (by rw [hq, hz]; assumption)]; rfl)
  have a1 : fitsM (vals ins) (lensI r) = true := fitsM_true (by omega) (i := i) (by omega) ha
  clear ha hi
  refine WS.loop (D := Nat) (fun i => [(3, .ptr b3 0 0), (42, regs.av 1 fun x => x.av 1 bitAV), (43, .int .i64 regs.xs.length), (44, .int .i64 i)]) (fun _ => [(b3, .row 4 [rtlAV r])]) (fun _ => [])
    (fun i => i ≤ regs.xs.length ∧ (List.range i).all (rowOk (vals regs) (lensR r)) = true) (fun i => regs.xs.length + 1 - i) 0 ⟨by omega, by simp⟩ ?_ (.refl _) (.nil _) ?_
  · repeat' (first | exact Sub.nil _ | refine Sub.cons (congrArg (fun z => some (AV.int .i64 z)) (wrap_succ (by omega))) ?_ | refine Sub.cons rfl ?_)
  rintro i ⟨hi, ha⟩
  repeat' (first | (refine OS.do rfl ?_; first | refine OD.indexAddr rfl rfl rfl (indexAddrA_natS rfl rfl rfl rfl (by first | assumption | exact List.getElem?_eq_getElem (by omega))) ?_ | refine OD.loadP 0 rfl rfl rfl rfl rfl rfl ?_ | refine OD.auto rfl rfl ?_ | refine OD.len rfl rfl (fun _ => lenTy_av rfl rfl) ?_ | refine OD.indexAddr rfl rfl rfl (indexAddrA_nat rfl rfl rfl rfl (by first | assumption | exact List.getElem?_eq_getElem (by omega))) ?_ | refine OD.call rfl rfl rfl h49 (u49 _ (.inr (List.getElem_mem (by omega))) _) (fun _ => rfl) ?_) | refine OS.nil ?_ | refine WS.seq ?_ | refine QS.seqN ?_ | refine WS.region ?_ | refine WS.condD rfl (fun _ => ?_) (fun _ => ?_) | refine WS.skip ?_ | refine WS.block ?_ | refine WS.ret ?_ | refine QS.seqR ?_ | refine QS.blockR ?_ | refine QS.loopR ?_ | refine QS.blockN ?_ | refine WS.exit ?_ | refine QS.seqE ?_ | refine QS.blockH ?_ | refine QS.loopE ?_ | refine WS.condN rfl (fun _ => ?_) (fun _ => ?_))
  all_goals try (have hq := rowOk_at (s := regs) (n := lensR r) (i := i) (by omega) (by omega)
                 have hz : (lensR r)[i]'(by omega) = ((r.regs.xs[i]'(by omega)).init.xs.length : Int) := List.getElem_map _
                 refine QS.loopN (i + 1) ?_ ?_ ?_ ?_ ?_
                 · exact ⟨by omega, range_all_succ ha (by rw [hq, hz]; assumption)⟩
                 · omega
                 · repeat' (first | exact Sub.nil _ | refine Sub.cons (congrArg (fun z => some (AV.int .i64 z)) (wrap_succ (by omega))) ?_ | refine Sub.cons rfl ?_)
                 · exact .refl _
                 · exact .nil _)
  all_goals try (have hq := rowOk_at (s := regs) (n := lensR r) (i := i) (by omega) (by omega)
                 have hz : (lensR r)[i]'(by omega) = ((r.regs.xs[i]'(by omega)).init.xs.length : Int) := List.getElem_map _
                 refine QS.retR (by rfl) fun _ => ?_
                 rw [fitsM_bad (l := vals regs) (i := i) (by omega) (by rw [hq, hz]; assumption), Bool.and_false]; rfl)
  refine QS.retR (by rfl) fun _ => ?_
  rw [a1, fitsM_true (by omega) (i := i) (by omega) ha]; rfl
set_option maxHeartbeats 1000000 in
theorem run26 (h1 : pr 26 = none) (r : GRtl) (hr : r.ins.xs.length ≤ 1000000000 ∧ r.regs.xs.length ≤ 1000000000) (st : St) :
    CW (En pr) 26 [rtlAV r] st fun x _ => ∃ t t', x = .tup [accA t 1 ((lensI r).map intAV), accA t' 1 ((lensR r).map intAV)] := by
  obtain ⟨f1, f2⟩ := hr
  refine CW.start (N := 39) h1 rfl rfl ?_
  repeat' (first | (refine OS.do rfl ?_; first | refine OD.box rfl rfl rfl rfl (rtl_ok _) rfl (fun b1 => ?_) | refine OD.loadP 0 rfl rfl rfl rfl rfl rfl ?_ | refine OD.auto rfl rfl ?_ | refine OD.len rfl rfl (fun _ => lenTy_av rfl rfl) ?_) | refine OS.nil ?_ | refine WS.seq ?_ | refine QS.seqN ?_ | refine WS.region ?_ | refine WS.block ?_)
  refine WS.loop (D := Nat × Nat) (fun d => [(1, .ptr b1 0 0), (4, accA d.2 1 (((r.ins.xs.map (·.len)).take d.1).map intAV)), (5, .nilsl), (11, r.ins.av 3 laneAV), (12, .int .i64 r.ins.xs.length), (13, .int .i64 d.1)]) (fun _ => [(b1, .row 4 [rtlAV r])]) (fun d => (d.2, !(((r.ins.xs.map (·.len)).take d.1).map intAV).isEmpty) :: [])
    (fun d => d.1 ≤ r.ins.xs.length) (fun d => r.ins.xs.length + 1 - d.1) (0, 0) (by omega) ?_ (by repeat' (first | exact SubO.nil _ | exact SubO.refl _ | refine SubO.keep ?_ | refine SubO.drop ?_)) (by repeat' (first | exact SubK.nil _ | exact SubK.refl _ | refine SubK.keep (by simp) ?_ | refine SubK.new ?_ | refine SubK.drop ?_)) ?_
  · repeat' (first | exact Sub.nil _ | refine Sub.cons (congrArg some (accA_zero _ _ _ _).symm) ?_ | refine Sub.cons (congrArg (fun z => some (AV.int .i64 z)) (wrap_succ (by omega))) ?_ | refine Sub.cons rfl ?_)
  rintro ⟨i, tk4⟩ hi
  dsimp only at hi ⊢
  have hml : (r.ins.xs.map (·.len)).length = r.ins.xs.length := List.length_map _
  repeat' (first | (refine OS.do rfl ?_; first | refine OD.loadP 0 rfl rfl rfl rfl rfl rfl ?_ | refine OD.auto rfl rfl ?_ | refine OD.len rfl rfl (fun _ => lenTy_av rfl rfl) ?_ | refine OD.indexAddr rfl rfl rfl (indexAddrA_nat rfl rfl rfl rfl (by first | assumption | exact List.getElem?_eq_getElem (by omega))) ?_ | refine OD.alloc rfl rfl rfl rfl (fun _ => ?_) | refine OD.storeW 0 rfl rfl rfl rfl (by first | rfl | exact hold_ok _ | exact word_ok _ | exact rtl_ok _) rfl rfl rfl ?_ | refine OD.append 0 rfl rfl rfl rfl rfl rfl rfl rfl rfl rfl rfl (.inr ⟨⟨_, rfl⟩, rfl⟩) (fun _ => rfl) rfl rfl (roomB rfl (by simp only [List.length_map, List.length_take, List.length_cons, List.length_nil]; omega)) (fun tk' => ?_)) | refine OS.nil ?_ | refine WS.seq ?_ | refine QS.seqN ?_ | refine WS.region ?_ | refine WS.condD rfl (fun _ => ?_) (fun _ => ?_) | refine WS.skip ?_ | refine WS.block ?_ | refine QS.blockN ?_ | refine WS.exit ?_ | refine QS.seqE ?_ | refine QS.blockH ?_ | refine QS.loopE ?_)
  all_goals try (refine QS.loopN (i + 1, tk') ?_ ?_ ?_ ?_ ?_
                 · dsimp only; omega
                 · dsimp only; omega
                 · have hlt : i < r.ins.xs.length := by omega
                   have hA : ((r.ins.xs.map (·.len)).take (i + 1)).map intAV = ((r.ins.xs.map (·.len)).take i).map intAV ++ [.int .i64 (r.ins.xs[i]).len] := by
                     rw [List.take_succ_eq_append_getElem (by omega), List.map_append, List.getElem_map]; rfl
                   repeat' (first | exact Sub.nil _ | refine Sub.cons (congrArg (fun z => some (accA tk' 1 z)) hA.symm) ?_ | refine Sub.cons (congrArg (fun z => some (AV.int .i64 z)) (wrap_succ (by omega))) ?_ | refine Sub.cons rfl ?_)
                 · repeat' (first | exact SubO.nil _ | exact SubO.refl _ | refine SubO.keep ?_ | refine SubO.drop ?_)
                 · exact SubK.keep (fun _ => by simp) (.refl _))
  have hT4 : (r.ins.xs.map (·.len)).take i = (r.ins.xs.map (·.len)) := List.take_of_length_le (by omega)
  rw [hT4]
  clear hi hml
  refine WS.loop (D := Nat × Nat) (fun d => [(1, .ptr b1 0 0), (5, accA d.2 1 (((r.regs.xs.map (fun h => (h.init.xs.length : Int))).take d.1).map intAV)), (4, accA tk4 1 ((r.ins.xs.map (·.len)).map intAV)), (24, r.regs.av 3 holdAV), (25, .int .i64 r.regs.xs.length), (26, .int .i64 d.1)]) (fun _ => [(b1, .row 4 [rtlAV r])]) (fun d => (d.2, !(((r.regs.xs.map (fun h => (h.init.xs.length : Int))).take d.1).map intAV).isEmpty) :: [(tk4, !((r.ins.xs.map (·.len)).map intAV).isEmpty)])
    (fun d => d.1 ≤ r.regs.xs.length) (fun d => r.regs.xs.length + 1 - d.1) (0, 0) (by omega) ?_ (by repeat' (first | exact SubO.nil _ | exact SubO.refl _ | refine SubO.keep ?_ | refine SubO.drop ?_)) (by repeat' (first | exact SubK.nil _ | exact SubK.refl _ | refine SubK.keep (by simp) ?_ | refine SubK.new ?_ | refine SubK.drop ?_)) ?_
  · repeat' (first | exact Sub.nil _ | refine Sub.cons (congrArg some (accA_zero _ _ _ _).symm) ?_ | refine Sub.cons (congrArg (fun z => some (AV.int .i64 z)) (wrap_succ (by omega))) ?_ | refine Sub.cons rfl ?_)
  rintro ⟨i, tk5⟩ hi
  dsimp only at hi ⊢
  have hml : (r.regs.xs.map (fun h => (h.init.xs.length : Int))).length = r.regs.xs.length := List.length_map _
  repeat' (first | (refine OS.do rfl ?_; first | refine OD.loadP 0 rfl rfl rfl rfl rfl rfl ?_ | refine OD.auto rfl rfl ?_ | refine OD.len rfl rfl (fun _ => lenTy_av rfl rfl) ?_ | refine OD.indexAddr rfl rfl rfl (indexAddrA_nat rfl rfl rfl rfl (by first | assumption | exact List.getElem?_eq_getElem (by omega))) ?_ | refine OD.alloc rfl rfl rfl rfl (fun _ => ?_) | refine OD.storeW 0 rfl rfl rfl rfl (by first | rfl | exact hold_ok _ | exact word_ok _ | exact rtl_ok _) rfl rfl rfl ?_ | refine OD.append 0 rfl rfl rfl rfl rfl rfl rfl rfl rfl rfl rfl (.inr ⟨⟨_, rfl⟩, rfl⟩) (fun _ => rfl) rfl rfl (roomB rfl (by simp only [List.length_map, List.length_take, List.length_cons, List.length_nil]; omega)) (fun tk' => ?_)) | refine OS.nil ?_ | refine WS.seq ?_ | refine QS.seqN ?_ | refine WS.region ?_ | refine WS.condD rfl (fun _ => ?_) (fun _ => ?_) | refine WS.skip ?_ | refine WS.block ?_ | refine WS.ret ?_ | refine QS.blockN ?_ | refine WS.exit ?_ | refine QS.seqE ?_ | refine QS.blockH ?_ | refine QS.loopE ?_)
  all_goals try (refine QS.loopN (i + 1, tk') ?_ ?_ ?_ ?_ ?_
                 · dsimp only; omega
                 · dsimp only; omega
                 · have hlt : i < r.regs.xs.length := by omega
                   have hA : ((r.regs.xs.map (fun h => (h.init.xs.length : Int))).take (i + 1)).map intAV = ((r.regs.xs.map (fun h => (h.init.xs.length : Int))).take i).map intAV ++ [.int .i64 ((r.regs.xs[i]).init.xs.length : Int)] := by
                     rw [List.take_succ_eq_append_getElem (by omega), List.map_append, List.getElem_map]; rfl
                   repeat' (first | exact Sub.nil _ | refine Sub.cons (congrArg (fun z => some (accA tk' 1 z)) hA.symm) ?_ | refine Sub.cons (congrArg (fun z => some (AV.int .i64 z)) (wrap_succ (by omega))) ?_ | refine Sub.cons rfl ?_)
                 · repeat' (first | exact SubO.nil _ | exact SubO.refl _ | refine SubO.keep ?_ | refine SubO.drop ?_)
                 · exact SubK.keep (fun _ => by simp) (.refl _))
  have hT5 : (r.regs.xs.map (fun h => (h.init.xs.length : Int))).take i = (r.regs.xs.map (fun h => (h.init.xs.length : Int))) := List.take_of_length_le (by omega)
  rw [hT5]
  exact QS.retR (by rfl) fun _ => ⟨_, _, rfl⟩
end
end Go.RtlEnv

/- Words' arithmetic: the small functions of both. -/
namespace Go.RtlEnv
open Go Go.Proofs Go.Abs Go.RowKit
set_option maxRecDepth 10000
theorem wrap8 (n : Int) : IntKind.u8.wrap n = n % 256 := by
  unfold IntKind.wrap
  simp [IntKind.bits, IntKind.signed]
theorem u8_sub (a b : UInt8) : IntKind.u8.wrap ((a.toNat : Int) - (b.toNat : Int)) = ((a - b).toNat : Int) := by
  rw [wrap8, UInt8.toNat_sub]
  have := a.toNat_lt
  have := b.toNat_lt
  omega
theorem u8_add (a b : UInt8) : IntKind.u8.wrap ((a.toNat : Int) + (b.toNat : Int)) = ((a + b).toNat : Int) := by
  rw [wrap8, UInt8.toNat_add]
  omega
def invM (l : List UInt8) : List UInt8 := l.map fun b => 1 - b
theorem row_get {m : List UInt8} {i : Nat} (h : i < m.length) : (m.map bitAV)[i]? = some (.int .u8 (m[i].toNat : Int)) := by
  rw [List.getElem?_map, List.getElem?_eq_getElem h]; rfl
theorem set_take {α : Type} {m : List α} {i : Nat} {v : α} (h : i < m.length) : (m.set i v).take (i + 1) = m.take i ++ [v] := by
  rw [List.take_succ_eq_append_getElem (by simpa using h), List.take_set, List.set_eq_of_length_le (by simp; omega)]
  simp
attribute [local irreducible] WS QS OS OD Abs.Sub SubO SubK CW GSl.av accA
section
variable {pr : Prims}
theorem run75 (h1 : pr 75 = none) (b : Bool) (st : St) : CW (En pr) 75 [.bool b] st fun x _ => x = .vs 1 .full [bitAV (if b then 1 else 0)] := by
  refine CW.start (N := 6) h1 rfl rfl ?_
  repeat' (first | (refine OS.do rfl ?_; first | refine OD.auto rfl rfl ?_) | refine OS.nil ?_ | refine WS.seq ?_ | refine QS.seqN ?_ | refine WS.region ?_ | refine WS.skip ?_ | refine WS.ret ?_ | refine QS.seqR ?_ | refine WS.condB rfl (fun _ => ?_) (fun _ => ?_))
  all_goals (refine QS.retR (by rfl) fun _ => ?_; subst_vars; rfl)
theorem run62 (h1 : pr 62 = none) (b : Bool) (st : St) : CW (En pr) 62 [.bool b] st fun x _ => x = .vs 1 .full [bitAV (if b then 1 else 0)] := by
  refine CW.start (N := 6) h1 rfl rfl ?_
  repeat' (first | (refine OS.do rfl ?_; first | refine OD.auto rfl rfl ?_) | refine OS.nil ?_ | refine WS.seq ?_ | refine QS.seqN ?_ | refine WS.region ?_ | refine WS.skip ?_ | refine WS.ret ?_ | refine QS.seqR ?_ | refine WS.condB rfl (fun _ => ?_) (fun _ => ?_))
  all_goals (refine QS.retR (by rfl) fun _ => ?_; subst_vars; rfl)
theorem run59 (h1 : pr 59 = none) (s : GSl UInt8) (hs : s.xs.length ≤ 1000000) (st : St) : CW (En pr) 59 [s.av 1 bitAV] st fun x _ => ∃ t, x = accA t 1 ((invM s.xs).map bitAV) := by
  have hl : (invM s.xs).length = s.xs.length := List.length_map _
  refine CW.start (N := 19) h1 rfl rfl ?_
  repeat' (first | (refine OS.do rfl ?_; first | refine OD.auto rfl rfl ?_ | refine OD.len rfl rfl (fun _ => lenTy_av rfl rfl) ?_) | refine OS.nil ?_ | refine WS.seq ?_ | refine QS.seqN ?_ | refine WS.region ?_ | refine WS.block ?_)
  refine WS.loop (D := Nat × Nat) (fun d => [(3, accA d.2 1 (((invM s.xs).take d.1).map bitAV)), (6, s.av 1 bitAV), (7, .int .i64 s.xs.length), (8, .int .i64 d.1)]) (fun _ => []) (fun d => [(d.2, !(((invM s.xs).take d.1).map bitAV).isEmpty)])
    (fun d => d.1 ≤ s.xs.length) (fun d => s.xs.length + 1 - d.1) (0, 0) (by omega) ?_ (.nil _) (by repeat' (first | exact SubK.nil _ | exact SubK.refl _ | refine SubK.keep (by simp) ?_ | refine SubK.new ?_ | refine SubK.drop ?_)) ?_
  · repeat' (first | exact Sub.nil _ | refine Sub.cons (congrArg some (accA_zero _ _ _ _).symm) ?_ | refine Sub.cons (congrArg (fun z => some (AV.int .i64 z)) (wrap_succ (by omega))) ?_ | refine Sub.cons rfl ?_)
  rintro ⟨i, tk⟩ hi
  dsimp only at hi ⊢
  repeat' (first | (refine OS.do rfl ?_; first | refine OD.auto rfl rfl ?_ | refine OD.indexAddr rfl rfl rfl (indexAddrA_nat rfl rfl rfl rfl (by first | assumption | exact List.getElem?_eq_getElem (by omega))) ?_ | refine OD.append 0 rfl rfl rfl rfl rfl rfl rfl rfl rfl rfl rfl (.inr ⟨⟨_, rfl⟩, rfl⟩) (fun _ => rfl) rfl rfl (roomB rfl (by simp only [List.length_map, List.length_take, List.length_cons, List.length_nil]; omega)) (fun tk' => ?_)) | refine OS.nil ?_ | refine WS.seq ?_ | refine QS.seqN ?_ | refine WS.region ?_ | refine WS.condD rfl (fun _ => ?_) (fun _ => ?_) | refine WS.skip ?_ | refine WS.block ?_ | refine WS.ret ?_ | refine QS.blockN ?_ | refine WS.exit ?_ | refine QS.seqE ?_ | refine QS.blockH ?_ | refine QS.loopE ?_)
  all_goals try (refine QS.loopN (i + 1, tk') ?_ ?_ ?_ ?_ ?_
                 · dsimp only; omega
                 · dsimp only; omega
                 · have hlt : i < s.xs.length := by omega
                   have hA : ((invM s.xs).take (i + 1)).map bitAV = ((invM s.xs).take i).map bitAV ++ [.int .u8 (IntKind.u8.wrap (1 - (s.xs[i].toNat : Int)))] := by
                     rw [List.take_succ_eq_append_getElem (by omega), List.map_append]
                     have e := u8_sub 1 s.xs[i]
                     show _ ++ [AV.int .u8 _] = _
                     congr 3
                     simp only [invM, List.getElem_map]
                     exact e.symm
                   repeat' (first | exact Sub.nil _ | refine Sub.cons (congrArg (fun z => some (accA tk' 1 z)) hA.symm) ?_ | refine Sub.cons (congrArg (fun z => some (AV.int .i64 z)) (wrap_succ (by omega))) ?_ | refine Sub.cons rfl ?_)
                 · exact .nil _
                 · exact SubK.keep (fun _ => by simp) (.refl _))
  have hT : (invM s.xs).take i = invM s.xs := List.take_of_length_le (by omega)
  rw [hT]
  exact QS.retR (by rfl) fun _ => ⟨_, rfl⟩
theorem run72 (h1 : pr 72 = none) (s : GSl UInt8) (hs : s.xs.length ≤ 1000000) (st : St) : CW (En pr) 72 [s.av 1 bitAV] st fun x st' => ∃ b, x = .sl 1 b 0 s.xs.length ∧ st'.get b = some (.row 1 ((invM s.xs).map bitAV)) := by
  have hl : (invM s.xs).length = s.xs.length := List.length_map _
  refine CW.start (N := 23) h1 rfl rfl ?_
  repeat' (first | (refine OS.do rfl ?_; first | refine OD.auto rfl rfl ?_ | refine OD.len rfl rfl (fun _ => lenTy_av rfl rfl) ?_ | refine OD.makeSlice rfl rfl rfl rfl rfl rfl rfl rfl (roomB rfl (by omega)) (fun b3 => ?_)) | refine OS.nil ?_ | refine WS.seq ?_ | refine QS.seqN ?_ | refine WS.region ?_ | refine WS.block ?_)
  refine WS.loop (D := Nat × List UInt8) (fun d => [(0, s.av 1 bitAV), (3, .sl 1 b3 0 s.xs.length), (8, s.av 1 bitAV), (9, .int .i64 s.xs.length), (10, .int .i64 d.1)]) (fun d => [(b3, .row 1 (d.2.map bitAV))]) (fun _ => [])
    (fun d => d.1 ≤ s.xs.length ∧ d.2.length = s.xs.length ∧ d.2.take d.1 = (invM s.xs).take d.1) (fun d => s.xs.length + 1 - d.1) (0, List.replicate s.xs.length 0) ⟨by omega, by simp, by simp⟩ ?_ ?_ (.nil _) ?_
  · repeat' (first | exact Sub.nil _ | refine Sub.cons (congrArg (fun z => some (AV.int .i64 z)) (wrap_succ (by omega))) ?_ | refine Sub.cons rfl ?_)
  · dsimp only; rw [List.map_replicate]; exact .refl _
  rintro ⟨i, m⟩ ⟨hi, hm, ht⟩
  dsimp only at hi hm ht ⊢
  repeat' (first | (refine OS.do rfl ?_; first | refine OD.auto rfl rfl ?_ | refine OD.indexAddr rfl rfl rfl (indexAddrA_nat rfl rfl rfl rfl (by first | assumption | exact List.getElem?_eq_getElem (by omega))) ?_ | refine OD.indexAddr rfl rfl rfl (indexAddrA_sl rfl rfl rfl rfl (by omega)) ?_ | refine OD.storeI 0 rfl rfl rfl rfl rfl (row_get (by omega)) ?_) | refine OS.nil ?_ | refine WS.seq ?_ | refine QS.seqN ?_ | refine WS.region ?_ | refine WS.condD rfl (fun _ => ?_) (fun _ => ?_) | refine WS.skip ?_ | refine WS.block ?_ | refine WS.ret ?_ | refine QS.blockN ?_ | refine WS.exit ?_ | refine QS.seqE ?_ | refine QS.blockH ?_ | refine QS.loopE ?_)
  all_goals try (have hlt : i < s.xs.length := by omega
                 have hM : (m.map bitAV).set i (.int .u8 (IntKind.u8.wrap (1 - (s.xs[i].toNat : Int)))) = (m.set i (1 - s.xs[i])).map bitAV := by
                   rw [List.map_set]
                   have e := u8_sub 1 s.xs[i]
                   show _ = List.set _ _ (AV.int .u8 _)
                   rw [← e]; rfl
                 refine QS.loopN (i + 1, m.set i (1 - s.xs[i])) ?_ ?_ ?_ ?_ ?_
                 · refine ⟨by dsimp only; omega, by simpa using hm, ?_⟩
                   dsimp only
                   rw [set_take (by omega), ht, List.take_succ_eq_append_getElem (by omega)]
                   simp [invM]
                 · dsimp only; omega
                 · repeat' (first | exact Sub.nil _ | refine Sub.cons (congrArg (fun z => some (AV.int .i64 z)) (wrap_succ (by omega))) ?_ | refine Sub.cons rfl ?_)
                 · dsimp only; rw [← hM]; exact .refl _
                 · exact .nil _)
  refine QS.retRS (by rfl) fun st hS => ⟨b3, rfl, ?_⟩
  have e := eq_of_take ht (by omega) (by omega)
  rw [← e]
  exact (hS.obj 0 b3 _ rfl).1
end
end Go.RtlEnv

/- Sums with a carry. -/
namespace Go.RtlEnv
open Go Go.Proofs Go.Abs Go.RowKit
set_option maxRecDepth 10000
/-- A sum, with a carry that comes in. -/
def addM : List UInt8 → List UInt8 → UInt8 → List UInt8
  | a :: x, b :: y, c => (a + b + c) % 2 :: addM x y ((a + b + c) / 2)
  | _, _, _ => []
theorem addM_len : ∀ (x y : List UInt8) (c : UInt8), x.length = y.length → (addM x y c).length = x.length
  | [], _, _, _ => by simp [addM]
  | _ :: _, [], _, h => by simp at h
  | a :: x, b :: y, c, h => by simp [addM, addM_len x y _ (by simpa using h)]
theorem addM_drop {x y : List UInt8} {i : Nat} {c : UInt8} (hx : i < x.length) (hy : i < y.length) : addM (x.drop i) (y.drop i) c = (x[i] + y[i] + c) % 2 :: addM (x.drop (i + 1)) (y.drop (i + 1)) ((x[i] + y[i] + c) / 2) := by
  rw [List.drop_eq_getElem_cons hx, List.drop_eq_getElem_cons hy, addM]
theorem u8_sum (a b c : UInt8) : IntKind.u8.wrap (IntKind.u8.wrap ((a.toNat : Int) + (b.toNat : Int)) + (c.toNat : Int)) = ((a + b + c).toNat : Int) := by rw [u8_add, u8_add]
theorem u8_mod2 (n : UInt8) : ((n.toNat : Int)).tmod 2 = ((n % 2).toNat : Int) := by
  rw [UInt8.toNat_mod, Int.tmod_eq_emod_of_nonneg (by omega)]
  have : ((2 : UInt8).toNat) = 2 := rfl
  rw [this]
  omega
theorem u8_div2 (n : UInt8) : IntKind.u8.wrap (((n.toNat : Int)).tdiv 2) = ((n / 2).toNat : Int) := by
  rw [wrap8, UInt8.toNat_div, Int.tdiv_eq_ediv_of_nonneg (by omega)]
  have h := n.toNat_lt
  have : ((2 : UInt8).toNat) = 2 := rfl
  rw [this]
  omega
theorem u8_and1 (n : UInt8) : IntKind.u8.wrap ((BitVec.ofInt IntKind.u8.bits (n.toNat : Int) &&& BitVec.ofInt IntKind.u8.bits 1).toNat : Int) = ((n % 2).toNat : Int) := by
  have h : ∀ m : Fin 256, IntKind.u8.wrap ((BitVec.ofInt IntKind.u8.bits (m.val : Int) &&& BitVec.ofInt IntKind.u8.bits 1).toNat : Int) = ((m.val % 2 : Nat) : Int) := by decide +kernel
  rw [UInt8.toNat_mod]
  exact h ⟨n.toNat, n.toNat_lt⟩
theorem u8_shr1 (n : UInt8) : ((n.toNat : Int)).fdiv 2 = ((n / 2).toNat : Int) := by
  rw [UInt8.toNat_div]
  have : ((2 : UInt8).toNat) = 2 := rfl
  rw [this, Int.fdiv_eq_ediv_of_nonneg _ (by omega)]
  omega
theorem set_mid {α : Type} {l r : List α} {i : Nat} {v : α} (h : l.length = i) (hr : 0 < r.length) : (l ++ r).set i v = (l ++ [v]) ++ r.tail := by
  cases r with
  | nil => simp at hr
  | cons a r => subst h; simp
attribute [local irreducible] WS QS OS OD Abs.Sub SubO SubK CW GSl.av accA
section
variable {pr : Prims}
set_option maxHeartbeats 1000000 in
theorem run60 (h1 : pr 60 = none) (x y : GSl UInt8) (c0 : UInt8) (hs : x.xs.length ≤ 1000000) (hy : y.xs.length = x.xs.length) (st : St) : CW (En pr) 60 [x.av 1 bitAV, y.av 1 bitAV, bitAV c0] st fun r _ => ∃ t, r = accA t 1 ((addM x.xs y.xs c0).map bitAV) := by
  have hl := addM_len x.xs y.xs c0 hy.symm
  refine CW.start (N := 35) h1 rfl rfl ?_
  repeat' (first | (refine OS.do rfl ?_; first | refine OD.auto rfl rfl ?_ | refine OD.len rfl rfl (fun _ => lenTy_av rfl rfl) ?_) | refine OS.nil ?_ | refine WS.seq ?_ | refine QS.seqN ?_ | refine WS.region ?_ | refine WS.block ?_)
  refine WS.loop (D := Nat × Nat × UInt8 × List UInt8) (fun d => [(0, x.av 1 bitAV), (1, y.av 1 bitAV), (2, bitAV d.2.2.1), (7, accA d.2.1 1 (d.2.2.2.map bitAV)), (11, .int .i64 x.xs.length), (12, .int .i64 d.1)]) (fun _ => []) (fun d => [(d.2.1, !(d.2.2.2.map bitAV).isEmpty)])
    (fun d => d.1 ≤ x.xs.length ∧ d.2.2.2.length = d.1 ∧ d.2.2.2 ++ addM (x.xs.drop d.1) (y.xs.drop d.1) d.2.2.1 = addM x.xs y.xs c0) (fun d => x.xs.length + 1 - d.1) (0, 0, c0, []) ⟨by omega, rfl, by simp⟩ ?_ (.nil _) (by repeat' (first | exact SubK.nil _ | exact SubK.refl _ | refine SubK.keep (by simp) ?_ | refine SubK.new ?_ | refine SubK.drop ?_)) ?_
  · repeat' (first | exact Sub.nil _ | refine Sub.cons (congrArg some (accA_nil _ _).symm) ?_ | refine Sub.cons (congrArg (fun z => some (AV.int .i64 z)) (wrap_succ (by omega))) ?_ | refine Sub.cons rfl ?_)
  rintro ⟨i, tk, c, done⟩ ⟨hi, hd, ha⟩
  dsimp only at hi hd ha ⊢
  repeat' (first | (refine OS.do rfl ?_; first | refine OD.auto rfl rfl ?_ | refine OD.indexAddr rfl rfl rfl (indexAddrA_nat rfl rfl rfl rfl (by first | assumption | exact List.getElem?_eq_getElem (by omega))) ?_ | refine OD.append 0 rfl rfl rfl rfl rfl rfl rfl rfl rfl rfl rfl (.inr ⟨⟨_, rfl⟩, rfl⟩) (fun _ => rfl) rfl rfl (roomB rfl (by simp only [List.length_map, List.length_take, List.length_cons, List.length_nil]; omega)) (fun tk' => ?_)) | refine OS.nil ?_ | refine WS.seq ?_ | refine QS.seqN ?_ | refine WS.region ?_ | refine WS.condD rfl (fun _ => ?_) (fun _ => ?_) | refine WS.skip ?_ | refine WS.block ?_ | refine WS.ret ?_ | refine QS.blockN ?_ | refine WS.exit ?_ | refine QS.seqE ?_ | refine QS.blockH ?_ | refine QS.loopE ?_ | refine WS.draw rfl rfl ?_)
  all_goals try (have hlt : i < x.xs.length := by omega
                 have hlt' : i < y.xs.length := by omega
                 refine QS.loopN (i + 1, tk', (x.xs[i] + y.xs[i] + c) / 2, done ++ [(x.xs[i] + y.xs[i] + c) % 2]) ?_ ?_ ?_ ?_ ?_
                 · refine ⟨by dsimp only; omega, by simp [hd], ?_⟩
                   dsimp only
                   rw [← ha, addM_drop hlt hlt']; simp
                 · dsimp only; omega
                 · have hA : (done ++ [(x.xs[i] + y.xs[i] + c) % 2]).map bitAV = done.map bitAV ++ [.int .u8 ((IntKind.u8.wrap (IntKind.u8.wrap ((x.xs[i].toNat : Int) + (y.xs[i].toNat : Int)) + (c.toNat : Int))).tmod 2)] := by
                     rw [List.map_append, u8_sum, u8_mod2]; rfl
                   have hC : IntKind.u8.wrap ((IntKind.u8.wrap (IntKind.u8.wrap ((x.xs[i].toNat : Int) + (y.xs[i].toNat : Int)) + (c.toNat : Int))).tdiv 2) = (((x.xs[i] + y.xs[i] + c) / 2).toNat : Int) := by rw [u8_sum, u8_div2]
                   repeat' (first | exact Sub.nil _ | refine Sub.cons (congrArg (fun z => some (accA tk' 1 z)) hA.symm) ?_ | refine Sub.cons (congrArg (fun z => some (AV.int .u8 z)) hC) ?_ | refine Sub.cons (congrArg (fun z => some (AV.int .i64 z)) (wrap_succ (by omega))) ?_ | refine Sub.cons rfl ?_)
                 · exact .nil _
                 · exact SubK.keep (fun _ => by simp) (.refl _))
  have hT : done = addM x.xs y.xs c0 := by
    rw [← ha, List.drop_eq_nil_of_le (by omega)]
    simp [addM]
  rw [hT]
  exact QS.retR (by rfl) fun _ => ⟨_, rfl⟩
set_option maxHeartbeats 1000000 in
theorem run73 (h1 : pr 73 = none) (x y : GSl UInt8) (c0 : UInt8) (hs : x.xs.length ≤ 1000000) (hy : y.xs.length = x.xs.length) (st : St) : CW (En pr) 73 [x.av 1 bitAV, y.av 1 bitAV, bitAV c0] st fun r st' => ∃ b, r = .sl 1 b 0 x.xs.length ∧ st'.get b = some (.row 1 ((addM x.xs y.xs c0).map bitAV)) := by
  have hl := addM_len x.xs y.xs c0 hy.symm
  refine CW.start (N := 38) h1 rfl rfl ?_
  repeat' (first | (refine OS.do rfl ?_; first | refine OD.auto rfl rfl ?_ | refine OD.len rfl rfl (fun _ => lenTy_av rfl rfl) ?_ | refine OD.makeSlice rfl rfl rfl rfl rfl rfl rfl rfl (roomB rfl (by omega)) (fun b3 => ?_)) | refine OS.nil ?_ | refine WS.seq ?_ | refine QS.seqN ?_ | refine WS.region ?_ | refine WS.block ?_)
  refine WS.loop (D := Nat × UInt8 × List UInt8 × List UInt8) (fun d => [(0, x.av 1 bitAV), (1, y.av 1 bitAV), (2, bitAV d.2.1), (7, .sl 1 b3 0 x.xs.length), (14, .int .i64 x.xs.length), (15, .int .i64 d.1)]) (fun d => [(b3, .row 1 ((d.2.2.1 ++ d.2.2.2).map bitAV))]) (fun _ => [])
    (fun d => d.1 ≤ x.xs.length ∧ d.2.2.1.length = d.1 ∧ d.2.2.1.length + d.2.2.2.length = x.xs.length ∧ d.2.2.1 ++ addM (x.xs.drop d.1) (y.xs.drop d.1) d.2.1 = addM x.xs y.xs c0) (fun d => x.xs.length + 1 - d.1) (0, c0, [], List.replicate x.xs.length 0) ⟨by omega, rfl, by simp, by simp⟩ ?_ ?_ (.nil _) ?_
  · repeat' (first | exact Sub.nil _ | refine Sub.cons (congrArg (fun z => some (AV.int .i64 z)) (wrap_succ (by omega))) ?_ | refine Sub.cons rfl ?_)
  · dsimp only; rw [List.nil_append, List.map_replicate]; exact .refl _
  rintro ⟨i, c, done, rest⟩ ⟨hi, hd, hr, ha⟩
  dsimp only at hi hd hr ha ⊢
  have hm : (done ++ rest).length = x.xs.length := by simp; omega
  repeat' (first | (refine OS.do rfl ?_; first | refine OD.auto rfl rfl ?_ | refine OD.indexAddr rfl rfl rfl (indexAddrA_nat rfl rfl rfl rfl (by first | assumption | exact List.getElem?_eq_getElem (by omega))) ?_ | refine OD.indexAddr rfl rfl rfl (indexAddrA_sl rfl rfl rfl rfl (by omega)) ?_ | refine OD.storeI 0 rfl rfl rfl rfl rfl (row_get (by omega)) ?_) | refine OS.nil ?_ | refine WS.seq ?_ | refine QS.seqN ?_ | refine WS.region ?_ | refine WS.condD rfl (fun _ => ?_) (fun _ => ?_) | refine WS.skip ?_ | refine WS.block ?_ | refine WS.ret ?_ | refine QS.blockN ?_ | refine WS.exit ?_ | refine QS.seqE ?_ | refine QS.blockH ?_ | refine QS.loopE ?_ | refine WS.draw rfl rfl ?_)
  all_goals try (have hlt : i < x.xs.length := by omega
                 have hlt' : i < y.xs.length := by omega
                 refine QS.loopN (i + 1, (x.xs[i] + y.xs[i] + c) / 2, done ++ [(x.xs[i] + y.xs[i] + c) % 2], rest.tail) ?_ ?_ ?_ ?_ ?_
                 · refine ⟨by dsimp only; omega, by simp [hd], by simp; omega, ?_⟩
                   dsimp only
                   rw [← ha, addM_drop hlt hlt']; simp
                 · dsimp only; omega
                 · have hC : (IntKind.u8.wrap (IntKind.u8.wrap ((x.xs[i].toNat : Int) + (y.xs[i].toNat : Int)) + (c.toNat : Int))).fdiv (2 ^ min (Int.toNat 1) IntKind.u8.bits) = (((x.xs[i] + y.xs[i] + c) / 2).toNat : Int) := by
                     rw [u8_sum, show (2 : Int) ^ min (Int.toNat 1) IntKind.u8.bits = 2 from rfl, u8_shr1]
                   repeat' (first | exact Sub.nil _ | refine Sub.cons (congrArg (fun z => some (AV.int .u8 z)) hC) ?_ | refine Sub.cons (congrArg (fun z => some (AV.int .i64 z)) (wrap_succ (by omega))) ?_ | refine Sub.cons rfl ?_)
                 · have hM : ((done ++ rest).map bitAV).set i (.int .u8 (IntKind.u8.wrap ((BitVec.ofInt IntKind.u8.bits (IntKind.u8.wrap (IntKind.u8.wrap ((x.xs[i].toNat : Int) + (y.xs[i].toNat : Int)) + (c.toNat : Int))) &&& BitVec.ofInt IntKind.u8.bits 1).toNat : Int))) = ((done ++ [(x.xs[i] + y.xs[i] + c) % 2]) ++ rest.tail).map bitAV := by
                     rw [u8_sum, u8_and1, ← set_mid hd (by omega), List.map_set]; rfl
                   dsimp only
                   rw [← hM]; exact .refl _
                 · exact .nil _)
  refine QS.retRS (by rfl) fun st hS => ⟨b3, rfl, ?_⟩
  have hT : done ++ rest = addM x.xs y.xs c0 := by
    rw [← ha, List.drop_eq_nil_of_le (by omega), List.length_eq_zero_iff.1 (show rest.length = 0 by omega)]
    simp [addM]
  rw [← hT]
  exact (hS.obj 0 b3 _ rfl).1
end
end Go.RtlEnv

/- Comparisons and shifts. -/
namespace Go.RtlEnv
open Go Go.Proofs Go.Abs Go.RowKit
set_option maxRecDepth 10000
theorem int_wrap {n : Int} (h1 : -9223372036854775808 ≤ n) (h2 : n < 9223372036854775808) : IntKind.i64.wrap n = n := wrap64 h1 h2
/-- Which is less, looked at from place j - 1 downwards. -/
def lessJ (x y : List UInt8) : Nat → Bool
  | 0 => false
  | j + 1 => if x.getD j 0 = y.getD j 0 then lessJ x y j else decide ((x.getD j 0).toNat < (y.getD j 0).toNat)
def lessM (x y : List UInt8) : Bool := lessJ x y x.length
theorem getD_at {l : List UInt8} {i : Nat} (h : i < l.length) : l.getD i 0 = l[i] := by simp [List.getD_eq_getElem?_getD, h]
/-- Bits moved up. -/
def leftAt (l : List UInt8) (n : Int) (i : Nat) : UInt8 := if 0 ≤ (i : Int) - n ∧ (i : Int) - n < l.length then l.getD ((i : Int) - n).toNat 0 else 0
def leftM (l : List UInt8) (n : Int) : List UInt8 := (List.range l.length).map (leftAt l n)
attribute [local irreducible] WS QS OS OD Abs.Sub SubO SubK CW GSl.av accA
section
variable {pr : Prims}
theorem run76 (h1 : pr 76 = none) (x y : GSl UInt8) (hs : x.xs.length < 9223372036854775808) (st : St) : CW (En pr) 76 [x.av 1 bitAV, y.av 1 bitAV] st fun r _ => r = .bool (decide (x.xs = y.xs)) := by
  refine CW.start (N := 26) h1 rfl rfl ?_
  repeat' (first | (refine OS.do rfl ?_; first | refine OD.auto rfl rfl ?_ | refine OD.len rfl rfl (fun _ => lenTy_av rfl rfl) ?_) | refine OS.nil ?_ | refine WS.seq ?_ | refine QS.seqN ?_ | refine WS.region ?_ | refine WS.skip ?_ | refine WS.block ?_ | refine WS.ret ?_ | refine QS.seqR ?_ | refine WS.condNe rfl (fun _ => ?_) (fun _ => ?_))
  all_goals try (refine QS.retR (by rfl) fun _ => ?_; rw [decide_eq_false (fun e => absurd (congrArg List.length e) (by omega))]; rfl)
  rename_i hlen
  refine WS.loop (D := Nat) (fun i => [(0, x.av 1 bitAV), (1, y.av 1 bitAV), (12, .int .i64 x.xs.length), (13, .int .i64 i)]) (fun _ => []) (fun _ => [])
    (fun i => i ≤ x.xs.length ∧ x.xs.take i = y.xs.take i) (fun i => x.xs.length + 1 - i) 0 ⟨by omega, by simp⟩ ?_ (.nil _) (.nil _) ?_
  · repeat' (first | exact Sub.nil _ | refine Sub.cons (congrArg (fun z => some (AV.int .i64 z)) (wrap_succ (by omega))) ?_ | refine Sub.cons rfl ?_)
  rintro i ⟨hi, ha⟩
  repeat' (first | (refine OS.do rfl ?_; first | refine OD.auto rfl rfl ?_ | refine OD.indexAddr rfl rfl rfl (indexAddrA_nat rfl rfl rfl rfl (by first | assumption | exact List.getElem?_eq_getElem (by omega))) ?_) | refine OS.nil ?_ | refine WS.seq ?_ | refine QS.seqN ?_ | refine WS.region ?_ | refine WS.condD rfl (fun _ => ?_) (fun _ => ?_) | refine WS.skip ?_ | refine WS.block ?_ | refine WS.ret ?_ | refine QS.seqR ?_ | refine QS.blockR ?_ | refine QS.loopR ?_ | refine QS.blockN ?_ | refine WS.exit ?_ | refine QS.seqE ?_ | refine QS.blockH ?_ | refine QS.loopE ?_ | refine WS.draw rfl rfl ?_ | refine WS.condNe rfl (fun _ => ?_) (fun _ => ?_))
  all_goals try (refine QS.loopN (i + 1) ?_ ?_ ?_ ?_ ?_
                 · exact ⟨by omega, take_eq_succ (by omega) (by omega) ha (UInt8.toNat_inj.1 (by omega))⟩
                 · omega
                 · repeat' (first | exact Sub.nil _ | refine Sub.cons (congrArg (fun z => some (AV.int .i64 z)) (wrap_succ (by omega))) ?_ | refine Sub.cons rfl ?_)
                 · exact .nil _
                 · exact .nil _)
  all_goals try (refine QS.retR (by rfl) fun _ => ?_; rw [decide_eq_true (eq_of_take ha (by omega) (by omega))]; rfl)
  all_goals (refine QS.retR (by rfl) fun _ => ?_; rw [decide_eq_false (ne_of_get (i := i) (by omega) (by omega) (fun e => by have := congrArg UInt8.toNat e; omega))]; rfl)
theorem run63 (h1 : pr 63 = none) (x y : GSl UInt8) (hs : x.xs.length < 9223372036854775808) (hy : y.xs.length = x.xs.length) (st : St) : CW (En pr) 63 [x.av 1 bitAV, y.av 1 bitAV] st fun r _ => r = .bool (lessM x.xs y.xs) := by
  refine CW.start (N := 31) h1 rfl rfl ?_
  repeat' (first | (refine OS.do rfl ?_; first | refine OD.auto rfl rfl ?_ | refine OD.len rfl rfl (fun _ => lenTy_av rfl rfl) ?_) | refine OS.nil ?_ | refine WS.seq ?_ | refine QS.seqN ?_ | refine WS.region ?_ | refine WS.block ?_)
  refine WS.loop (D := Nat) (fun j => [(0, x.av 1 bitAV), (1, y.av 1 bitAV), (5, .int .i64 ((j : Int) - 1))]) (fun _ => []) (fun _ => [])
    (fun j => j ≤ x.xs.length ∧ lessJ x.xs y.xs j = lessM x.xs y.xs) (fun j => j) x.xs.length ⟨by omega, rfl⟩ ?_ (.nil _) (.nil _) ?_
  · repeat' (first | exact Sub.nil _ | refine Sub.cons (congrArg (fun z => some (AV.int .i64 z)) (int_wrap (by omega) (by omega))) ?_ | refine Sub.cons (congrArg (fun z => some (AV.int .i64 z)) (wrap_succ (by omega))) ?_ | refine Sub.cons rfl ?_)
  rintro j ⟨hj, ha⟩
  repeat' (first | (refine OS.do rfl ?_; first | refine OD.auto rfl rfl ?_ | refine OD.indexAddr rfl rfl rfl (indexAddrA_int rfl rfl rfl rfl (by first | assumption | omega) (by first | assumption | exact List.getElem?_eq_getElem (by omega))) ?_) | refine OS.nil ?_ | refine WS.seq ?_ | refine QS.seqN ?_ | refine WS.region ?_ | refine WS.condD rfl (fun _ => ?_) (fun _ => ?_) | refine WS.skip ?_ | refine WS.block ?_ | refine WS.ret ?_ | refine QS.seqR ?_ | refine QS.blockR ?_ | refine QS.loopR ?_ | refine QS.blockN ?_ | refine WS.exit ?_ | refine QS.seqE ?_ | refine QS.blockH ?_ | refine QS.loopE ?_ | refine WS.draw rfl rfl ?_ | refine WS.condNe rfl (fun _ => ?_) (fun _ => ?_))
  all_goals try (have hj1 : 1 ≤ j := by omega
                 obtain ⟨q, rfl⟩ : ∃ q, j = q + 1 := ⟨j - 1, by omega⟩
                 have hq : (((q + 1 : Nat) : Int) - 1).toNat = q := by omega
                 simp only [hq] at *
                 rename_i heq
                 have he : x.xs[q] = y.xs[q] := UInt8.toNat_inj.1 (by omega)
                 refine QS.loopN q ?_ ?_ ?_ ?_ ?_
                 · refine ⟨by omega, ?_⟩
                   rw [← ha, lessJ, getD_at (by omega), getD_at (by omega), if_pos he]
                 · omega
                 · repeat' (first | exact Sub.nil _ | refine Sub.cons (congrArg (fun z => some (AV.int .i64 z)) ((int_wrap (by omega) (by omega)).trans (by omega))) ?_ | refine Sub.cons (congrArg (fun z => some (AV.int .i64 z)) (wrap_succ (by omega))) ?_ | refine Sub.cons rfl ?_)
                 · exact .nil _
                 · exact .nil _)
  all_goals try (have hj1 : 1 ≤ j := by omega
                 obtain ⟨q, rfl⟩ : ∃ q, j = q + 1 := ⟨j - 1, by omega⟩
                 have hq : (((q + 1 : Nat) : Int) - 1).toNat = q := by omega
                 refine QS.retR (by rfl) fun _ => ?_
                 simp only [hq] at *
                 rename_i hne _
                 have he : x.xs[q] ≠ y.xs[q] := fun e => by have := congrArg UInt8.toNat e; omega
                 rw [← ha, lessJ, getD_at (by omega), getD_at (by omega), if_neg he]
                 show AV.bool _ = AV.bool _
                 congr 1
                 rw [decide_eq_decide]; omega)
  all_goals (have hj0 : j = 0 := by omega
             subst hj0
             refine QS.retR (by rfl) fun _ => ?_
             rw [← ha]; rfl)
end
end Go.RtlEnv
