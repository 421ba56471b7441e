/- Own text of this claim: part 8 of an interpreter that is proved sound against the model, and of what it shows of the law. -/
import Derived.Laws.Strings
import Derived.Test.YtnipphfkiikbdaaDoorAbs7
import Derived.Test.YtnipphfkiikbdaaDoorAbs6
/- Small functions. -/
namespace Go.RtlEnv
open Go Go.Proofs Go.Abs Go.RowKit
abbrev Prims := FuncId → Option (List AV → St → Option (AV × St))
noncomputable def En (pr : Prims) : Env := { ty := tys.find, fns := fns.find, prim := pr, pol := polOf [(68,3,2,1),(70,3,2,1),(50,6,2,0),(50,43,2,0),(50,14,5,0),(50,25,14,1),(74,9,1,0)], dyn := dyn }
theorem En_ok (pr : Prims) : EnvOk Tryd.prog (En pr) := EnvOk.of_trees rfl rfl tys_ok fns_ok mixed
def bitAV (b : UInt8) : AV := .int .u8 b.toNat
def intAV (n : Int) : AV := .int .i64 n
theorem bit_plain (b : UInt8) : AV.plain (bitAV b) = bitAV b := rfl
theorem bit_free (b : UInt8) : AV.free (bitAV b) = true := rfl
theorem int_plain (b : Int) : AV.plain (intAV b) = intAV b := rfl
theorem int_free (b : Int) : AV.free (intAV b) = true := rfl
set_option maxRecDepth 10000
attribute [local irreducible] WS QS OS OD Abs.Sub SubO SubK CW
/-- Bits up to a greatest one. -/
def upto (m : Nat) (l : List UInt8) : Bool := l.all fun b => decide (b.toNat ≤ m)
section
variable {pr : Prims}
theorem run37 (h1 : pr 37 = none) (n : Int) (st : St) : CW (En pr) 37 [.int .i64 n] st fun r _ => r = .bool (decide (1 ≤ n ∧ n ≤ 4096)) := by
  refine CW.start (N := 9) h1 rfl rfl ?_
  repeat' (first | (refine OS.do rfl ?_; first | refine OD.auto rfl rfl ?_) | refine OS.nil ?_ | refine OS.skip rfl rfl rfl ?_ | refine WS.seq ?_ | refine QS.seqN ?_ | refine WS.region ?_ | refine WS.ret ?_ | ((fail_if_success (refine OS.do rfl ?_)); first | refine OS.splitD rfl rfl rfl (fun _ => ?_) (fun _ => ?_)))
  all_goals (refine QS.retR (by rfl) fun _ => ?_; show AV.bool _ = _; congr 1; simp; omega)

theorem run38 (h1 : pr 38 = none) (s : GSl UInt8) (m : UInt8) (hs : s.xs.length < 9223372036854775808) (st : St) : CW (En pr) 38 [s.av 1 bitAV, .int .u8 m.toNat] st fun r _ => r = .bool (upto m.toNat s.xs) := by
  refine CW.start (N := 17) h1 rfl rfl ?_
  repeat' (first | (refine OS.do rfl ?_; first | refine OD.auto rfl rfl ?_ | refine OD.len rfl rfl (fun _ => lenTy_av rfl rfl) ?_) | refine OS.nil ?_ | refine WS.seq ?_ | refine QS.seqN ?_ | refine WS.region ?_ | refine WS.block ?_)
  refine WS.loop (D := Nat) (fun i => [(0, s.av 1 bitAV), (1, .int .u8 m.toNat), (7, s.av 1 bitAV), (8, .int .i64 s.xs.length), (9, .int .i64 i)]) (fun _ => []) (fun _ => [])
    (fun i => i ≤ s.xs.length ∧ (s.xs.take i).all (fun b => decide (b.toNat ≤ m.toNat)) = true) (fun i => s.xs.length + 1 - i) 0 ⟨by omega, by simp⟩ ?_ (.nil _) (.nil _) ?_
  · repeat' (first | exact Sub.nil _ | refine Sub.cons (congrArg (fun z => some (AV.int .i64 z)) (wrap_succ (by omega))) ?_ | refine Sub.cons rfl ?_)
  rintro i ⟨hi, ha⟩
  repeat' (first | (refine OS.do rfl ?_; first | refine OD.auto rfl rfl ?_ | refine OD.indexAddr rfl rfl rfl (indexAddrA_nat rfl rfl rfl rfl (by first | assumption | exact List.getElem?_eq_getElem (by omega))) ?_) | refine OS.nil ?_ | refine WS.seq ?_ | refine QS.seqN ?_ | refine WS.region ?_ | refine WS.condD rfl (fun _ => ?_) (fun _ => ?_) | refine WS.skip ?_ | refine WS.block ?_ | refine WS.ret ?_ | refine QS.seqR ?_ | refine QS.blockR ?_ | refine QS.loopR ?_ | refine QS.blockN ?_ | refine WS.exit ?_ | refine QS.seqE ?_ | refine QS.blockH ?_ | refine QS.loopE ?_)
  all_goals first
    | (refine QS.loopN (i + 1) ⟨by omega, all_take_succ (by omega) ha (decide_eq_true (by omega))⟩ (by omega) ?_ (.nil _) (.nil _); repeat' (first | exact Sub.nil _ | refine Sub.cons (congrArg (fun z => some (AV.int .i64 z)) (wrap_succ (by omega))) ?_ | refine Sub.cons rfl ?_))
    | (refine QS.retR (by rfl) fun _ => ?_; unfold upto; rw [all_of_take (by omega) ha]; rfl)
    | (refine QS.retR (by rfl) fun _ => ?_; unfold upto; rw [all_false (i := i) (f := fun (b : UInt8) => decide (b.toNat ≤ m.toNat)) (by omega) (decide_eq_false (by omega))]; rfl)

theorem run35 (h1 : pr 35 = none) (b : UInt8) (st : St) : CW (En pr) 35 [bitAV b] st fun r _ => r = .bool (decide (2 < b.toNat)) := by
  refine CW.start (N := 5) h1 rfl rfl ?_
  repeat' (first | (refine OS.do rfl ?_; first | refine OD.auto rfl rfl ?_) | refine OS.nil ?_ | refine WS.seq ?_ | refine QS.seqN ?_ | refine WS.region ?_ | refine WS.ret ?_)
  all_goals (refine QS.retR (by rfl) fun _ => ?_; show AV.bool _ = _; congr 1; rw [decide_eq_decide]; omega)
theorem run53 (h1 : pr 53 = none) (b : UInt8) (st : St) : CW (En pr) 53 [bitAV b] st fun r _ => r = .bool (decide (1 < b.toNat)) := by
  refine CW.start (N := 5) h1 rfl rfl ?_
  repeat' (first | (refine OS.do rfl ?_; first | refine OD.auto rfl rfl ?_) | refine OS.nil ?_ | refine WS.seq ?_ | refine QS.seqN ?_ | refine WS.region ?_ | refine WS.ret ?_)
  all_goals (refine QS.retR (by rfl) fun _ => ?_; show AV.bool _ = _; congr 1; rw [decide_eq_decide]; omega)
theorem run51 (h1 : pr 51 = none) {cf : FuncId} {m : Nat} {p : List AV → St → Option (AV × St)} (hp : pr cf = some p) (hpr : ∀ (b : UInt8) st, p [bitAV b] st = some (.bool (decide (m < b.toNat)), st)) (s : GSl UInt8) (hs : s.xs.length < 9223372036854775808) (st : St) :
    CW (En pr) 51 [s.av 1 bitAV, .fn cf [] []] st fun r _ => ∃ k : Int, r = .int .i64 k ∧ decide (k ≥ 0) = !(upto m s.xs) := by
  refine CW.start (N := 19) h1 rfl rfl ?_
  repeat' (first | (refine OS.do rfl ?_; first | refine OD.auto rfl rfl ?_ | refine OD.len rfl rfl (fun _ => lenTy_av rfl rfl) ?_) | refine OS.nil ?_ | refine WS.seq ?_ | refine QS.seqN ?_ | refine WS.region ?_ | refine WS.block ?_)
  refine WS.loop (D := Nat) (fun i => [(0, s.av 1 bitAV), (1, .fn cf [] []), (6, s.av 1 bitAV), (7, .int .i64 s.xs.length), (8, .int .i64 i)]) (fun _ => []) (fun _ => [])
    (fun i => i ≤ s.xs.length ∧ (s.xs.take i).all (fun b => decide (b.toNat ≤ m)) = true) (fun i => s.xs.length + 1 - i) 0 ⟨by omega, by simp⟩ ?_ (.nil _) (.nil _) ?_
  · repeat' (first | exact Sub.nil _ | refine Sub.cons (congrArg (fun z => some (AV.int .i64 z)) (wrap_succ (by omega))) ?_ | refine Sub.cons rfl ?_)
  rintro i ⟨hi, ha⟩
  repeat' (first | (refine OS.do rfl ?_; first | refine OD.auto rfl rfl ?_ | refine OD.indexAddr rfl rfl rfl (indexAddrA_nat rfl rfl rfl rfl (by first | assumption | exact List.getElem?_eq_getElem (by omega))) ?_ | refine OD.call rfl rfl rfl hp (hpr _) (fun _ => rfl) ?_) | refine OS.nil ?_ | refine WS.seq ?_ | refine QS.seqN ?_ | refine WS.region ?_ | refine WS.condD rfl (fun _ => ?_) (fun _ => ?_) | refine WS.skip ?_ | refine WS.block ?_ | refine WS.ret ?_ | refine QS.seqR ?_ | refine QS.blockR ?_ | refine QS.loopR ?_ | refine QS.blockN ?_ | refine WS.exit ?_ | refine QS.seqE ?_ | refine QS.blockH ?_ | refine QS.loopE ?_)
  all_goals first
    | (refine QS.loopN (i + 1) ⟨by omega, all_take_succ (by omega) ha (decide_eq_true (by omega))⟩ (by omega) ?_ (.nil _) (.nil _); repeat' (first | exact Sub.nil _ | refine Sub.cons (congrArg (fun z => some (AV.int .i64 z)) (wrap_succ (by omega))) ?_ | refine Sub.cons rfl ?_))
    | (refine QS.retR (by rfl) fun _ => ⟨_, rfl, ?_⟩; unfold upto; rw [all_of_take (by omega) ha]; rfl)
    | (refine QS.retR (by rfl) fun _ => ⟨_, rfl, ?_⟩; unfold upto; rw [all_false (i := i) (f := fun (b : UInt8) => decide (b.toNat ≤ m)) (by omega) (decide_eq_false (by omega))]; simp)
theorem run34 (h1 : pr 34 = none) (h51 : pr 51 = none) {cf : FuncId} {m : Nat} {p : List AV → St → Option (AV × St)} (hp : pr cf = some p) (hpr : ∀ (b : UInt8) st, p [bitAV b] st = some (.bool (decide (m < b.toNat)), st)) (s : GSl UInt8) (hs : s.xs.length < 9223372036854775808) (st : St) :
    CW (En pr) 34 [s.av 1 bitAV, .fn cf [] []] st fun r _ => r = .bool (!(upto m s.xs)) := by
  refine CW.start (N := 9) h1 rfl rfl ?_
  repeat' (first | (refine OS.do rfl ?_; first | refine OD.auto rfl rfl ?_ | (refine OD.callP (fun r => ∃ k : Int, r = .int .i64 k ∧ decide (k ≥ 0) = !(upto m s.xs)) rfl rfl rfl (fun st hS => (run51 h51 hp hpr s hs st).mono fun _ _ h => ⟨h, ⟨fun _ _ _ h => (by simp at h), fun _ _ _ _ _ h => (by simp at h), fun _ _ h => (by simp at h), fun _ _ _ h => (by simp at h)⟩⟩) (by rintro v st ⟨k, rfl, _⟩; rfl) ?_; rintro v ⟨k, rfl, hk⟩)) | refine OS.nil ?_ | refine WS.seq ?_ | refine QS.seqN ?_ | refine WS.region ?_ | refine WS.ret ?_)
  all_goals (refine QS.retR (by rfl) fun _ => ?_; show AV.bool _ = _; rw [hk])
def kids52 (op : Int) (n : Int) : Int := if op = 1 ∨ op = 2 ∨ op = 3 then 0 else if op = 4 ∨ op = 15 then 1 else if op = 13 then 3 else if op = 14 then (if n < 1 ∨ n > 500 then -1 else n) else if op < 1 ∨ op > 17 then -1 else 2
def kids57 (op : Int) : Int × Int := if op = 1 ∨ op = 2 ∨ op = 3 then (0, 0) else if op = 4 ∨ op = 15 then (1, 1) else if op = 13 then (3, 3) else if op = 14 then (1, 500) else if op < 1 ∨ op > 17 then (-1, -1) else (2, 2)
structure GLane where
  name : ByteArray
  len : Int
  word : Int
def laneAV (l : GLane) : AV := .agg [.str l.name, .int .i64 l.len, .int .i64 l.word]
structure GHold where
  name : ByteArray
  init : GSl UInt8
  next : Int
def holdAV (h : GHold) : AV := .agg [.str h.name, h.init.av 1 bitAV, .int .i64 h.next]
theorem av_cellOk {α : Type} (sz : Nat) (f : α → AV) (s : GSl α) : (s.av sz f).cellOk = true := by
  rcases s.cases f sz with ⟨_, h | h⟩ | h <;> rw [h] <;> rfl
theorem hold_ok (h : GHold) : (holdAV h).ok = true := by
  simp only [holdAV, AV.ok, List.all_cons, List.all_nil, av_cellOk, Bool.and_true, Bool.true_and]; rfl
structure GWord where
  op : Int
  len : Int
  n : Int
  kids : GSl Int
  bits : GSl UInt8
def wordAV (w : GWord) : AV := .agg [.int .i64 w.op, .int .i64 w.len, .int .i64 w.n, w.kids.av 1 intAV, w.bits.av 1 bitAV]
theorem word_ok (h : GWord) : (wordAV h).ok = true := by
  simp only [wordAV, AV.ok, List.all_cons, List.all_nil, av_cellOk, Bool.and_true, Bool.true_and]; rfl
structure GRtl where
  ins : GSl GLane
  regs : GSl GHold
  words : GSl GWord
  outs : GSl GLane
def rtlAV (r : GRtl) : AV := .agg [r.ins.av 3 laneAV, r.regs.av 3 holdAV, r.words.av 5 wordAV, r.outs.av 3 laneAV]
theorem rtl_ok (h : GRtl) : (rtlAV h).ok = true := by simp [rtlAV, AV.ok, av_cellOk]
theorem run31 (h1 : pr 31 = none) (l : GLane) (st : St) : CW (En pr) 31 [laneAV l] st fun r _ => r = .str l.name := by
  refine CW.start (N := 5) h1 rfl rfl ?_
  repeat' (first | (refine OS.do rfl ?_; first | refine OD.loadP 0 rfl rfl rfl rfl rfl rfl ?_ | refine OD.auto rfl rfl ?_ | refine OD.box rfl rfl rfl rfl (by first | rfl | exact hold_ok _ | exact word_ok _ | exact rtl_ok _) rfl (fun _ => ?_)) | refine OS.nil ?_ | refine WS.seq ?_ | refine QS.seqN ?_ | refine WS.region ?_ | refine WS.ret ?_)
  all_goals (refine QS.retR (by rfl) fun _ => ?_; rfl)
theorem run33 (h1 : pr 33 = none) (l : GHold) (st : St) : CW (En pr) 33 [holdAV l] st fun r _ => r = .str l.name := by
  refine CW.start (N := 5) h1 rfl rfl ?_
  repeat' (first | (refine OS.do rfl ?_; first | refine OD.loadP 0 rfl rfl rfl rfl rfl rfl ?_ | refine OD.auto rfl rfl ?_ | refine OD.box rfl rfl rfl rfl (by first | rfl | exact hold_ok _ | exact word_ok _ | exact rtl_ok _) rfl (fun _ => ?_)) | refine OS.nil ?_ | refine WS.seq ?_ | refine QS.seqN ?_ | refine WS.region ?_ | refine WS.ret ?_)
  all_goals (refine QS.retR (by rfl) fun _ => ?_; rfl)
end
end Go.RtlEnv

/- How many kids. -/
namespace Go.RtlEnv
open Go Go.Proofs Go.Abs Go.RowKit
set_option maxRecDepth 10000
attribute [local irreducible] WS QS OS OD Abs.Sub SubO SubK CW
section
variable {pr : Prims}
set_option maxHeartbeats 1000000 in
theorem run52 (h1 : pr 52 = none) (op n : Int) (st : St) : CW (En pr) 52 [.int .i64 op, .int .i64 n] st fun r _ => r = .int .i64 (kids52 op n) := by
  refine CW.start (N := 30) h1 rfl rfl ?_
  repeat' (first | (refine OS.do rfl ?_; first | refine OD.auto rfl rfl ?_) | refine OS.nil ?_ | refine OS.skip rfl rfl rfl ?_ | refine WS.seq ?_ | refine QS.seqN ?_ | refine WS.region ?_ | refine WS.condT rfl ?_ | refine WS.condE rfl (fun _ => ?_) (fun _ => ?_) | refine WS.condD rfl (fun _ => ?_) (fun _ => ?_) | refine WS.skip ?_ | refine WS.block ?_ | refine WS.ret ?_ | refine QS.seqR ?_ | refine QS.blockR ?_ | refine QS.blockN ?_ | ((fail_if_success (refine OS.do rfl ?_)); first | refine OS.splitD rfl rfl rfl (fun _ => ?_) (fun _ => ?_)))
  all_goals (refine QS.retR (by rfl) fun _ => ?_; show AV.int _ _ = _; first | (subst_vars; rfl) | (congr 1; unfold kids52; repeat' split) <;> omega)
set_option maxHeartbeats 1000000 in
theorem run57 (h1 : pr 57 = none) (op : Int) (st : St) : CW (En pr) 57 [.int .i64 op] st fun r _ => r = .tup [.int .i64 (kids57 op).1, .int .i64 (kids57 op).2] := by
  refine CW.start (N := 27) h1 rfl rfl ?_
  repeat' (first | (refine OS.do rfl ?_; first | refine OD.auto rfl rfl ?_) | refine OS.nil ?_ | refine WS.seq ?_ | refine QS.seqN ?_ | refine WS.region ?_ | refine WS.condT rfl ?_ | refine WS.condE rfl (fun _ => ?_) (fun _ => ?_) | refine WS.skip ?_ | refine WS.block ?_ | refine WS.ret ?_ | refine QS.seqR ?_ | refine QS.blockR ?_ | refine QS.blockN ?_)
  all_goals (refine QS.retR (by rfl) fun _ => ?_; first | (subst_vars; rfl) | (unfold kids57; repeat' split) <;> first | rfl | omega)
end
end Go.RtlEnv

/- Names. -/
namespace Go.RtlEnv
open Go Go.Proofs Go.Abs Go.RowKit
set_option maxRecDepth 10000
attribute [local irreducible] WS QS OS OD Abs.Sub SubO SubK CW
theorem data_inj {a b : ByteArray} (h : a.data.toList = b.data.toList) : a = b := by
  obtain ⟨⟨x⟩⟩ := a
  obtain ⟨⟨y⟩⟩ := b
  simp at h
  rw [h]
theorem str_beq (a b : ByteArray) : (a.toList == b.toList) = decide (a = b) := by
  rw [ByteArray.toList_eq, ByteArray.toList_eq]
  by_cases h : a = b
  · subst h; simp
  · have : a.data.toList ≠ b.data.toList := fun k => h (data_inj k)
    rw [decide_eq_false h]
    exact beq_eq_false_iff_ne.2 this
theorem size_data (s : ByteArray) : s.data.toList.length = s.size := by simp
def strSl (s : ByteArray) : GSl UInt8 := ⟨none, s.data.toList, fun h => absurd rfl h⟩
def strAV (s : ByteArray) : AV := .str s
def byteOk (b : UInt8) : Bool := decide (33 ≤ b.toNat ∧ b.toNat ≤ 126)
def nameOk (s : ByteArray) : Bool := decide (1 ≤ s.size ∧ s.size ≤ 200) && s.data.toList.all byteOk
def namesM (l : List ByteArray) : Bool := decide (l.length ≤ 500) && l.all nameOk && decide l.Nodup
theorem indexA_str {E : Env} {t : TypeId} {y : Ty} {s : ByteArray} {kd : IntKind} {i : Nat} {b : UInt8} (h1 : E.ty t = some y) (h2 : y.d = .string) (hb : s.data.toList[i]? = some b) : indexA E t (.str s) (.int kd (i : Int)) = some (.int .u8 b.toNat) := by
  unfold indexA
  rw [h1]
  dsimp only
  rw [h2]
  dsimp only
  rw [if_pos (by omega)]
  have : s[(i : Int).toNat]? = some b := by
    rw [show (i : Int).toNat = i from rfl]
    rw [Array.getElem?_toList] at hb
    obtain ⟨h, e⟩ := Array.getElem?_eq_some_iff.1 hb
    have hs : i < s.size := h
    rw [getElem?_pos s i hs]
    exact congrArg some e
  rw [this]
theorem nodup_take_succ {α : Type} {l : List α} {i : Nat} (h : i < l.length) (h1 : (l.take i).Nodup) (h2 : l[i] ∉ l.take i) : (l.take (i + 1)).Nodup := by
  rw [List.take_succ_eq_append_getElem h, List.nodup_append]
  refine ⟨h1, by simp, fun a ha b hb => ?_⟩
  simp only [List.mem_singleton] at hb
  subst hb
  rintro rfl
  exact h2 ha
theorem namesM_len {l : List ByteArray} (h : ¬ l.length ≤ 500) : namesM l = false := by simp [namesM, h]
theorem namesM_bad {l : List ByteArray} {i : Nat} (h : i < l.length) (hb : nameOk l[i] = false) : namesM l = false := by
  simp [namesM, all_false h hb]
theorem namesM_dup {l : List ByteArray} {i : Nat} (h : i < l.length) (e : l[i] ∈ l.take i) : namesM l = false := by
  have : ¬ l.Nodup := fun k => by
    rw [← List.take_append_drop i l, List.nodup_append] at k
    exact k.2.2 l[i] e l[i] (by rw [List.drop_eq_getElem_cons h]; exact List.mem_cons_self) rfl
  simp [namesM, this]
theorem namesM_ok {l : List ByteArray} (h : l.length ≤ 500) (ha : l.all nameOk = true) (hd : l.Nodup) : namesM l = true := by simp [namesM, h, ha, hd]
theorem nameOk_false {s : ByteArray} (h : s.size < 1 ∨ 200 < s.size) : nameOk s = false := by
  unfold nameOk
  rw [decide_eq_false (by omega)]; rfl
theorem nameOk_byte {s : ByteArray} {i : Nat} (h : i < s.data.toList.length) (hb : byteOk s.data.toList[i] = false) : nameOk s = false := by
  unfold nameOk
  rw [all_false h hb, Bool.and_false]
theorem nameOk_true {s : ByteArray} (h : 1 ≤ s.size ∧ s.size ≤ 200) (hb : s.data.toList.all byteOk = true) : nameOk s = true := by
  unfold nameOk
  rw [decide_eq_true h, hb]; rfl
section
variable {pr : Prims}
theorem run56 (h1 : pr 56 = none) (s : ByteArray) (st : St) : CW (En pr) 56 [.str s] st fun r _ => r = .bool (nameOk s) := by
  have hsz := size_data s
  refine CW.start (N := 28) h1 rfl rfl ?_
  repeat' (first | (refine OS.do rfl ?_; first | refine OD.auto rfl rfl ?_ | refine OD.len rfl rfl (fun _ => rfl) ?_) | refine OS.nil ?_ | refine OS.skip rfl rfl rfl ?_ | refine WS.seq ?_ | refine QS.seqN ?_ | refine WS.region ?_ | refine WS.condT rfl ?_ | refine WS.condD rfl (fun _ => ?_) (fun _ => ?_) | refine WS.skip ?_ | refine WS.block ?_ | refine WS.ret ?_ | refine QS.seqR ?_ | ((fail_if_success (refine OS.do rfl ?_)); first | refine OS.splitD rfl rfl rfl (fun _ => ?_) (fun _ => ?_)))
  all_goals try (refine QS.retR (by rfl) fun _ => ?_; rw [nameOk_false (by omega)]; rfl)
  · refine WS.loop (D := Nat) (fun i => [(0, .str s), (3, .int .i64 i)]) (fun _ => []) (fun _ => [])
      (fun i => i ≤ s.data.toList.length ∧ (s.data.toList.take i).all byteOk = true) (fun i => s.data.toList.length + 1 - i) 0 ⟨by omega, by simp⟩ ?_ (.nil _) (.nil _) ?_
    · repeat' (first | exact Sub.nil _ | refine Sub.cons (congrArg (fun z => some (AV.int .i64 z)) (wrap_succ (by omega))) ?_ | refine Sub.cons rfl ?_)
    rintro i ⟨hi, ha⟩
    repeat' (first | (refine OS.do rfl ?_; first | refine OD.auto rfl rfl ?_ | refine OD.len rfl rfl (fun _ => rfl) ?_ | refine OD.index rfl rfl rfl (indexA_str rfl rfl (by first | assumption | exact List.getElem?_eq_getElem (by omega))) ?_) | refine OS.nil ?_ | refine OS.skip rfl rfl rfl ?_ | refine WS.seq ?_ | refine QS.seqN ?_ | refine WS.region ?_ | refine WS.condT rfl ?_ | refine WS.condD rfl (fun _ => ?_) (fun _ => ?_) | refine WS.skip ?_ | refine WS.block ?_ | refine WS.ret ?_ | refine QS.seqR ?_ | refine QS.blockR ?_ | refine QS.loopR ?_ | refine QS.blockN ?_ | refine WS.exit ?_ | refine QS.seqE ?_ | refine QS.blockH ?_ | refine QS.loopE ?_ | ((fail_if_success (refine OS.do rfl ?_)); first | refine OS.splitD rfl rfl rfl (fun _ => ?_) (fun _ => ?_)))
    all_goals first
      | (refine QS.loopN (i + 1) ⟨by omega, all_take_succ (by omega) ha (decide_eq_true (by omega))⟩ (by omega) ?_ (.nil _) (.nil _); repeat' (first | exact Sub.nil _ | refine Sub.cons (congrArg (fun z => some (AV.int .i64 z)) (wrap_succ (by omega))) ?_ | refine Sub.cons rfl ?_))
      | (refine QS.retR (by rfl) fun _ => ?_; rw [nameOk_true (by omega) (all_of_take (by omega) ha)]; rfl)
      | (refine QS.retR (by rfl) fun _ => ?_; rw [nameOk_byte (i := i) (by omega) (decide_eq_false (by omega))]; rfl)

theorem run39 (h1 : pr 39 = none) {p : List AV → St → Option (AV × St)} (hp : pr 56 = some p) (hpr : ∀ (s : ByteArray) st, p [.str s] st = some (.bool (nameOk s), st)) (l : GSl ByteArray) (st : St) : CW (En pr) 39 [l.av 1 strAV] st fun r _ => r = .bool (namesM l.xs) := by
  refine CW.start (N := 34) h1 rfl rfl ?_
  repeat' (first | (refine OS.do rfl ?_; first | refine OD.auto rfl rfl ?_ | refine OD.len rfl rfl (fun _ => lenTy_av rfl rfl) ?_) | refine OS.nil ?_ | refine WS.seq ?_ | refine QS.seqN ?_ | refine WS.region ?_ | refine WS.condD rfl (fun _ => ?_) (fun _ => ?_) | refine WS.skip ?_ | refine WS.block ?_ | refine WS.ret ?_ | refine QS.seqR ?_)
  all_goals try (refine QS.retR (by rfl) fun _ => ?_; rw [namesM_len (by omega)]; rfl)
  rename_i hlen
  refine WS.loop (D := Nat) (fun i => [(0, l.av 1 strAV), (8, l.av 1 strAV), (9, .int .i64 l.xs.length), (10, .int .i64 i)]) (fun _ => []) (fun _ => [])
      (fun i => i ≤ l.xs.length ∧ (l.xs.take i).all nameOk = true ∧ (l.xs.take i).Nodup) (fun i => l.xs.length + 1 - i) 0 ⟨by omega, by simp, by simp⟩ ?_ (.nil _) (.nil _) ?_
  · repeat' (first | exact Sub.nil _ | refine Sub.cons (congrArg (fun z => some (AV.int .i64 z)) (wrap_succ (by omega))) ?_ | refine Sub.cons rfl ?_)
  rintro i ⟨hi, ha, hd⟩
  repeat' (first | (refine OS.do rfl ?_; first | refine OD.auto rfl rfl ?_ | refine OD.indexAddr rfl rfl rfl (indexAddrA_nat rfl rfl rfl rfl (by first | assumption | exact List.getElem?_eq_getElem (by omega))) ?_ | refine OD.call rfl rfl rfl hp (hpr _) (fun _ => rfl) ?_) | refine OS.nil ?_ | refine WS.seq ?_ | refine QS.seqN ?_ | refine WS.region ?_ | refine WS.condD rfl (fun _ => ?_) (fun _ => ?_) | refine WS.skip ?_ | refine WS.block ?_ | refine WS.ret ?_ | refine QS.seqR ?_ | refine QS.blockR ?_ | refine QS.loopR ?_ | refine WS.exit ?_ | refine QS.seqE ?_ | refine QS.blockH ?_ | refine QS.loopE ?_ | refine WS.condN rfl (fun _ => ?_) (fun _ => ?_))
  all_goals try (refine QS.retR (by rfl) fun _ => ?_; first | (rw [namesM_ok (by omega) (all_of_take (by omega) ha) (by rw [← List.take_of_length_le (l := l.xs) (i := i) (by omega)]; exact hd)]; rfl) | (rw [namesM_bad (i := i) (by omega) (by assumption)]; rfl))
  rename_i hlt hok
  refine WS.loop (D := Nat) (fun j => [(0, l.av 1 strAV), (8, l.av 1 strAV), (9, .int .i64 l.xs.length), (10, .int .i64 i), (3, .int .i64 i), (4, .int .i64 j)]) (fun _ => []) (fun _ => [])
      (fun j => j ≤ i ∧ l.xs[i] ∉ l.xs.take j) (fun j => i + 1 - j) 0 ⟨by omega, by simp⟩ ?_ (.nil _) (.nil _) ?_
  · repeat' (first | exact Sub.nil _ | refine Sub.cons (congrArg (fun z => some (AV.int .i64 z)) (wrap_succ (by omega))) ?_ | refine Sub.cons rfl ?_)
  rintro j ⟨hj, hm⟩
  repeat' (first | (refine OS.do rfl ?_; first | refine OD.auto rfl rfl ?_ | refine OD.indexAddr rfl rfl rfl (indexAddrA_nat rfl rfl rfl rfl (by first | assumption | exact List.getElem?_eq_getElem (by omega))) ?_) | refine OS.nil ?_ | refine WS.seq ?_ | refine QS.seqN ?_ | refine WS.region ?_ | refine WS.condD rfl (fun _ => ?_) (fun _ => ?_) | refine WS.skip ?_ | refine WS.block ?_ | refine WS.ret ?_ | refine QS.seqR ?_ | refine QS.blockR ?_ | refine QS.loopR ?_ | refine QS.blockN ?_ | refine WS.exit ?_ | refine QS.seqE ?_ | refine QS.blockH ?_ | refine QS.loopE ?_ | refine WS.draw rfl rfl ?_ | refine WS.condB rfl (fun _ => ?_) (fun _ => ?_))
  all_goals first
    | (refine QS.loopN (j + 1) ⟨by omega, ?_⟩ (by omega) ?_ (.nil _) (.nil _)
       · rename_i hne
         rw [str_beq] at hne
         rw [List.take_succ_eq_append_getElem (by omega), List.mem_append, not_or]
         exact ⟨hm, by simpa using of_decide_eq_false hne⟩
       · repeat' (first | exact Sub.nil _ | refine Sub.cons (congrArg (fun z => some (AV.int .i64 z)) (wrap_succ (by omega))) ?_ | refine Sub.cons rfl ?_))
    | (refine QS.loopN (i + 1) ⟨by omega, all_take_succ (by omega) ha hok, nodup_take_succ (by omega) hd (by have : j = i := by omega
                                                                                                             subst this; exact hm)⟩ (by omega) ?_ (.nil _) (.nil _); repeat' (first | exact Sub.nil _ | refine Sub.cons (congrArg (fun z => some (AV.int .i64 z)) (wrap_succ (by omega))) ?_ | refine Sub.cons rfl ?_))
    | (refine QS.retR (by rfl) fun _ => ?_
       rename_i heq _
       rw [str_beq] at heq
       rw [namesM_dup (i := i) (by omega) (by rw [of_decide_eq_true heq, List.mem_take_iff_getElem]; exact ⟨j, by omega, rfl⟩)]; rfl)
end
end Go.RtlEnv

/- Words: what is asked of them. -/
namespace Go.RtlEnv
open Go Go.Proofs Go.Abs Go.RowKit
theorem roomB {et : Ty} {n : Nat} (hb : Nat.ble et.bytes 100 = true) (h : n ≤ 1000000000000) : roomA et n = true := by
  have hb := Nat.le_of_ble_eq_true hb
  have : n * et.bytes ≤ 1000000000000 * 100 := Nat.mul_le_mul h hb
  simp [roomA]; omega
def okKids (op : Int) (n : Nat) : Bool := decide (0 ≤ (kids57 op).1 ∧ (kids57 op).1 ≤ n ∧ n ≤ (kids57 op).2)
theorem kids52_iff (op : Int) (n : Nat) : (n : Int) = kids52 op n ↔ okKids op n = true := by
  unfold okKids kids52 kids57
  rw [decide_eq_true_eq]
  repeat' split
  all_goals (dsimp only; omega)
theorem okKids_le {op : Int} {n : Nat} (h : okKids op n = true) : n ≤ 500 := by
  unfold okKids kids57 at h
  rw [decide_eq_true_eq] at h
  split at h
  · dsimp only at h; omega
  · split at h
    · dsimp only at h; omega
    · split at h
      · dsimp only at h; omega
      · split at h
        · dsimp only at h; omega
        · split at h
          · dsimp only at h; omega
          · dsimp only at h; omega
theorem okKids_two {op : Int} {n : Nat} (h : okKids op n = true) : ((5 ≤ op ∧ op ≤ 12) ∨ op = 16 ∨ op = 17 → n = 2) ∧ (op = 13 → n = 3) ∧ (op = 15 → n = 1) := by
  unfold okKids kids57 at h
  rw [decide_eq_true_eq] at h
  split at h
  · dsimp only at h; omega
  · split at h
    · dsimp only at h; omega
    · split at h
      · dsimp only at h; omega
      · split at h
        · dsimp only at h; omega
        · split at h
          · dsimp only at h; omega
          · dsimp only at h; omega
def sumW (l : List Int) : Int := l.foldl (fun s x => IntKind.i64.wrap (s + x)) 0
theorem sumW_take {l : List Int} {i : Nat} (h : i < l.length) : sumW (l.take (i + 1)) = IntKind.i64.wrap (sumW (l.take i) + l[i]) := by
  unfold sumW
  rw [List.take_succ_eq_append_getElem h, List.foldl_append]; rfl
def wlen (ws : List GWord) (k : Int) : Int := ((ws[k.toNat]?).map (·.len)).getD 0
theorem wlen_at {ws : List GWord} {k : Int} (h : k.toNat < ws.length) : wlen ws k = ws[k.toNat].len := by
  simp [wlen, List.getElem?_eq_getElem h]
def headM (w : GWord) : Bool := okKids w.op w.kids.xs.length && decide (1 ≤ w.len ∧ w.len ≤ 4096) && decide (w.op = 1 ∨ w.bits.xs.length = 0)
def kidIn (k : Nat) (x : Int) : Bool := decide (0 ≤ x ∧ x < k)
def flagM (w : GWord) : Bool := decide (w.n = 0 ∨ w.op = 2 ∨ w.op = 3 ∨ w.op = 15)
def at0 (l : List Int) (i : Nat) : Int := l.getD i 0
def finalM (r : GRtl) (op len n : Int) (bits : List UInt8) (l : List Int) (s : Int) : Bool :=
  if op = 1 then decide ((bits.length : Int) = len) && upto 1 bits
  else if op = 2 then decide (0 ≤ n ∧ n < r.ins.xs.length) && decide (((r.ins.xs[n.toNat]?).map (·.len)) = some len)
  else if op = 3 then decide (0 ≤ n ∧ n < r.regs.xs.length) && decide (((r.regs.xs[n.toNat]?).map (fun h => (h.init.xs.length : Int))) = some len)
  else if op = 11 ∨ op = 12 then decide (len = 1 ∧ at0 l 0 = at0 l 1)
  else if op = 13 then decide (at0 l 0 = 1 ∧ at0 l 1 = len ∧ at0 l 2 = len)
  else if op = 14 then decide (s = len)
  else if op = 15 then decide (0 ≤ n ∧ n ≤ 4096 ∧ IntKind.i64.wrap (n + len) ≤ at0 l 0)
  else if op = 16 ∨ op = 17 then decide (at0 l 0 = len ∧ at0 l 1 ≤ 31)
  else l.all fun x => decide (x = len)
def wordW (r : GRtl) (k : Nat) (w : GWord) : Bool := headM w && w.kids.xs.all (kidIn k) && flagM w && finalM r w.op w.len w.n w.bits.xs (w.kids.xs.map (wlen r.words.xs)) (sumW (w.kids.xs.map (wlen r.words.xs)))
def wordM (r : GRtl) (k : Nat) : Bool := match r.words.xs[k]? with | some w => wordW r k w | none => false
theorem wordM_at {r : GRtl} {k : Nat} {w : GWord} (h : r.words.xs[k]? = some w) : wordM r k = wordW r k w := by unfold wordM; rw [h]
theorem wordW_head {r : GRtl} {k : Nat} {w : GWord} (h : headM w = false) : wordW r k w = false := by simp [wordW, h]
theorem wordW_kids {r : GRtl} {k : Nat} {w : GWord} (h : w.kids.xs.all (kidIn k) = false) : wordW r k w = false := by simp only [wordW, h, Bool.and_false, Bool.false_and]
theorem wordW_flag {r : GRtl} {k : Nat} {w : GWord} (h : flagM w = false) : wordW r k w = false := by simp only [wordW, h, Bool.and_false, Bool.false_and]
theorem wordW_final {r : GRtl} {k : Nat} {w : GWord} (h1 : headM w = true) (h2 : w.kids.xs.all (kidIn k) = true) (h3 : flagM w = true) : wordW r k w = finalM r w.op w.len w.n w.bits.xs (w.kids.xs.map (wlen r.words.xs)) (sumW (w.kids.xs.map (wlen r.words.xs))) := by
  simp only [wordW, h1, h2, h3, Bool.true_and]
theorem headM_true {w : GWord} (h1 : okKids w.op w.kids.xs.length = true) (h2 : 1 ≤ w.len ∧ w.len ≤ 4096) (h3 : w.op = 1 ∨ w.bits.xs.length = 0) : headM w = true := by simp only [headM, h1, decide_eq_true h2, decide_eq_true h3, Bool.and_self]
theorem headM_kids {w : GWord} (h1 : okKids w.op w.kids.xs.length = false) : headM w = false := by simp only [headM, h1, Bool.false_and]
theorem headM_len {w : GWord} (h2 : ¬ (1 ≤ w.len ∧ w.len ≤ 4096)) : headM w = false := by simp only [headM, decide_eq_false h2, Bool.and_false, Bool.false_and]
theorem headM_bits {w : GWord} (h3 : ¬ (w.op = 1 ∨ w.bits.xs.length = 0)) : headM w = false := by simp only [headM, decide_eq_false h3, Bool.and_false]
theorem flagM_true {w : GWord} (h : w.n = 0 ∨ w.op = 2 ∨ w.op = 3 ∨ w.op = 15) : flagM w = true := decide_eq_true h
theorem flagM_false {w : GWord} (h : ¬ (w.n = 0 ∨ w.op = 2 ∨ w.op = 3 ∨ w.op = 15)) : flagM w = false := decide_eq_false h
theorem int_beq (a b : Int) : (a == b) = decide (a = b) := rfl
theorem at0_eq {l : List Int} {i : Nat} (h : i < l.length) : at0 l i = l[i] := by simp [at0, h]
end Go.RtlEnv

/- slices.ContainsFunc of whole numbers, at rtl.word's closure. -/
namespace Go.RtlEnv
open Go Go.Proofs Go.Abs Go.RowKit
set_option maxRecDepth 10000
attribute [local irreducible] WS QS OS OD Abs.Sub SubO SubK CW GSl.av accA
section
variable {pr : Prims} {L : List (Nat × AObj)} {K : List (Nat × Bool)} {b : Nat} {w : GWord}
theorem run55 (h1 : pr 55 = none) {st : St} (hS : SFa ((b, .row 5 [wordAV w]) :: L) K st) (x : Int) : CW (En pr) 55 [.int .i64 x, .ptr b 0 0] st fun r st' => r = .bool (x != w.len) ∧ SFa ((b, .row 5 [wordAV w]) :: L) K st' := by
  refine CW.startS (N := 8) h1 rfl rfl hS ?_
  repeat' (first | (refine OS.do rfl ?_; first | refine OD.loadP 0 rfl rfl rfl rfl rfl rfl ?_ | refine OD.auto rfl rfl ?_) | refine OS.nil ?_ | refine WS.seq ?_ | refine QS.seqN ?_ | refine WS.region ?_ | refine WS.ret ?_)
  refine QS.retRS (by rfl) fun st hS => ⟨rfl, hS⟩
theorem run71 (h1 : pr 71 = none) (h55 : pr 55 = none) {st : St} (hS : SFa ((b, .row 5 [wordAV w]) :: L) K st) (tk : Nat) (ls : List Int) (hls : ls.length ≤ 500) :
    CW (En pr) 71 [accA tk 1 (ls.map intAV), .fn 55 [] [.ptr b 0 0]] st fun r st' => (∃ k : Int, r = .int .i64 k ∧ decide (k ≥ 0) = !(ls.all fun x => decide (x = w.len))) ∧ SFa ((b, .row 5 [wordAV w]) :: L) K st' := by
  refine CW.startS (N := 19) h1 rfl rfl hS ?_
  repeat' (first | (refine OS.do rfl ?_; first | refine OD.auto rfl rfl ?_ | refine OD.len rfl rfl (fun _ => lenTy_accm rfl rfl) ?_) | refine OS.nil ?_ | refine WS.seq ?_ | refine QS.seqN ?_ | refine WS.region ?_ | refine WS.block ?_)
  refine WS.loop (D := Nat) (fun i => [(0, accA tk 1 (ls.map intAV)), (1, .fn 55 [] [.ptr b 0 0]), (6, accA tk 1 (ls.map intAV)), (7, .int .i64 ls.length), (8, .int .i64 i)]) (fun _ => (b, .row 5 [wordAV w]) :: L) (fun _ => K)
    (fun i => i ≤ ls.length ∧ (ls.take i).all (fun x => decide (x = w.len)) = true) (fun i => ls.length + 1 - i) 0 ⟨by omega, by simp⟩ ?_ (.refl _) (.refl _) ?_
  · repeat' (first | exact Sub.nil _ | refine Sub.cons (congrArg (fun z => some (AV.int .i64 z)) (wrap_succ (by omega))) ?_ | refine Sub.cons rfl ?_)
  rintro i ⟨hi, ha⟩
  repeat' (first | (refine OS.do rfl ?_; first | refine OD.auto rfl rfl ?_ | refine OD.indexAddr rfl rfl rfl (indexAddrA_accn rfl rfl rfl rfl (by first | assumption | exact List.getElem?_eq_getElem (by omega))) ?_ | refine OD.callS rfl rfl rfl (fun st hS => run55 h55 hS _) (fun _ => rfl) ?_) | refine OS.nil ?_ | refine WS.seq ?_ | refine QS.seqN ?_ | refine WS.region ?_ | refine WS.condD rfl (fun _ => ?_) (fun _ => ?_) | refine WS.skip ?_ | refine WS.block ?_ | refine WS.ret ?_ | refine QS.seqR ?_ | refine QS.blockR ?_ | refine QS.loopR ?_ | refine QS.blockN ?_ | refine WS.exit ?_ | refine QS.seqE ?_ | refine QS.blockH ?_ | refine QS.loopE ?_ | refine WS.condNe rfl (fun _ => ?_) (fun _ => ?_))
  all_goals try (refine QS.loopN (i + 1) ?_ ?_ ?_ ?_ ?_
                 · exact ⟨by omega, all_take_succ (by omega) ha (decide_eq_true (by assumption))⟩
                 · omega
                 · repeat' (first | exact Sub.nil _ | refine Sub.cons (congrArg (fun z => some (AV.int .i64 z)) (wrap_succ (by omega))) ?_ | refine Sub.cons rfl ?_)
                 · exact .refl _
                 · exact .refl _)
  all_goals try (refine QS.retRS (by rfl) fun st hS => ⟨⟨_, rfl, ?_⟩, hS⟩; rw [all_of_take (by omega) ha]; rfl)
  all_goals (refine QS.retRS (by rfl) fun st hS => ⟨⟨_, rfl, ?_⟩, hS⟩; rw [all_false (i := i) (f := fun (x : Int) => decide (x = w.len)) (by omega) (decide_eq_false (by assumption))]; simp)
theorem run54 (h1 : pr 54 = none) (h71 : pr 71 = none) (h55 : pr 55 = none) {st : St} (hS : SFa ((b, .row 5 [wordAV w]) :: L) K st) (tk : Nat) (ls : List Int) (hls : ls.length ≤ 500) :
    CW (En pr) 54 [accA tk 1 (ls.map intAV), .fn 55 [] [.ptr b 0 0]] st fun r st' => r = .bool (!(ls.all fun x => decide (x = w.len))) ∧ SFa ((b, .row 5 [wordAV w]) :: L) K st' := by
  refine CW.startS (N := 9) h1 rfl rfl hS ?_
  repeat' (first | (refine OS.do rfl ?_; first | refine OD.auto rfl rfl ?_ | (refine OD.callP (fun r => ∃ k : Int, r = .int .i64 k ∧ decide (k ≥ 0) = !(ls.all fun x => decide (x = w.len))) rfl rfl rfl (fun st hS => run71 h71 h55 hS tk ls hls) (by rintro v st ⟨k, rfl, _⟩; rfl) ?_; rintro v ⟨k, rfl, hk⟩)) | refine OS.nil ?_ | refine WS.seq ?_ | refine QS.seqN ?_ | refine WS.region ?_ | refine WS.ret ?_)
  refine QS.retRS (by rfl) fun st hS => ⟨?_, hS⟩
  show AV.bool _ = _
  rw [hk]
end
end Go.RtlEnv
