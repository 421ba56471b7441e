/- Own text of this claim: part 9 of an interpreter that is proved sound against the model, and of what it shows of the law. -/
import Derived.Test.YthomnnnhkfjbdaaGreatAbs8
namespace Go.OptEnv
open Go Go.Proofs Go.Abs Go.RowKit Go.NetM
set_option maxRecDepth 10000
attribute [local irreducible] WS QS OS OD Abs.Sub SubO SubK CW
def Rel103 : Rel := RelF (fun _ => True) (fun s : ByteArray => [.str s]) fun s => .str s
def Rel105 : Rel := RelF (fun _ => True) (fun s : GReg => [regAV s]) fun s => .str s.name
def Rel107 : Rel := RelF (fun _ => True) (fun s : GPin => [pinAV s]) fun s => .str s.name
def Rel128 : Rel := RelF (fun s : ByteArray => s.size ≤ 140737488355328) (fun s => [.str s]) fun s => .bool (nameOk s)
def Rel114 : Rel := RelF (fun _ : ByteArray => True) (fun s => [.str s]) fun s => .bool (nameOk s)
def Rel70 : Rel := RelF (fun _ : UInt8 => True) (fun s => [bitAV s]) fun b => .bool (decide (b.toNat ≤ 2))
def Rel72 : Rel := RelF (fun p : Int × Int => Fit64 p.1) (fun p => [.int .i64 p.1, .int .i64 p.2]) fun p => .bool (litOk p.1 p.2)
def Rel73 : Rel := RelF FitsN (fun n => [netAV n]) fun n => .int .i64 n.first
def ents (l : List ByteArray) : List (AV × AV) := l.map fun s => (.str s, .bool true)
section
variable {pr : Prims}
theorem con72 (h : pr 72 = none) : Con2 (En pr) 72 Rel72 := con_eq (fun _ => rfl) (fun _ => ⟨rfl, rfl⟩) fun d hd st => run72 h d.1 d.2 hd st
theorem con73 (h : pr 73 = none) : Con2 (En pr) 73 Rel73 := con_eq (fun d => by simp [AV.freeL, net_free]) (fun _ => ⟨rfl, rfl⟩) fun d hd st => run73 h d hd st
theorem con70 (h : pr 70 = none) : Con2 (En pr) 70 Rel70 := con_eq (fun _ => rfl) (fun _ => ⟨rfl, rfl⟩) fun d hd st => run70 h d st
theorem con114 (h : pr 114 = none) : Con2 (En pr) 114 Rel114 := con_eq (fun _ => rfl) (fun _ => ⟨rfl, rfl⟩) fun d hd st => run114 h d st
theorem con128 (h : pr 128 = none) : Con2 (En pr) 128 Rel128 := con_eq (fun _ => rfl) (fun _ => ⟨rfl, rfl⟩) fun d hd st => run128 h d hd st
theorem run103 (h : pr 103 = none) (s : ByteArray) (st : St) : CW (En pr) 103 [.str s] st fun r _ => r = .str s := by
  refine CW.start (N := 4) h rfl rfl ?_
  repeat' (first | (refine OS.do rfl ?_; first | refine OD.auto rfl rfl ?_) | refine OS.nil ?_ | refine WS.seq ?_ | refine QS.seqN ?_ | refine WS.region ?_ | refine WS.ret ?_)
  all_goals (refine QS.retR (by rfl) fun _ => ?_; rfl)
theorem run105 (h : pr 105 = none) (s : GReg) (st : St) : CW (En pr) 105 [regAV s] st fun r _ => r = .str s.name := by
  refine CW.start (N := 5) h rfl rfl ?_
  repeat' (first | (refine OS.do rfl ?_; first | refine OD.loadP 0 rfl rfl rfl rfl rfl rfl ?_ | refine OD.auto rfl rfl ?_ | refine OD.box rfl rfl rfl rfl (by first | rfl | exact net_ok _) rfl (fun _ => ?_)) | refine OS.nil ?_ | refine WS.seq ?_ | refine QS.seqN ?_ | refine WS.region ?_ | refine WS.ret ?_)
  all_goals (refine QS.retR (by rfl) fun _ => ?_; rfl)
theorem run107 (h : pr 107 = none) (s : GPin) (st : St) : CW (En pr) 107 [pinAV s] st fun r _ => r = .str s.name := by
  refine CW.start (N := 5) h rfl rfl ?_
  repeat' (first | (refine OS.do rfl ?_; first | refine OD.loadP 0 rfl rfl rfl rfl rfl rfl ?_ | refine OD.auto rfl rfl ?_ | refine OD.box rfl rfl rfl rfl (by first | rfl | exact net_ok _) rfl (fun _ => ?_)) | refine OS.nil ?_ | refine WS.seq ?_ | refine QS.seqN ?_ | refine WS.region ?_ | refine WS.ret ?_)
  all_goals (refine QS.retR (by rfl) fun _ => ?_; rfl)
theorem con103 (h : pr 103 = none) : Con2 (En pr) 103 Rel103 := con_eq (fun _ => rfl) (fun _ => ⟨rfl, rfl⟩) fun d _ st => run103 h d st
theorem con105 (h : pr 105 = none) : Con2 (En pr) 105 Rel105 := con_eq (fun _ => rfl) (fun _ => ⟨rfl, rfl⟩) fun d _ st => run105 h d st
theorem con107 (h : pr 107 = none) : Con2 (En pr) 107 Rel107 := con_eq (fun _ => rfl) (fun _ => ⟨rfl, rfl⟩) fun d _ st => run107 h d st
theorem find_no {s : ByteArray} : ∀ (l : List ByteArray) (i : Nat), s ∉ l → findA (eqA (En pr) 20 9) (.str s) (ents l) i = some none
  | [], _, _ => rfl
  | x :: l, i, h => by
    simp only [List.mem_cons, not_or] at h
    have e : eqA (En pr) 20 9 (.str s) (.str x) = some (decide (s = x)) := rfl
    simp only [ents, List.map_cons, findA, e, decide_eq_false h.1]
    exact find_no l (i + 1) h.2
theorem find_yes {s : ByteArray} : ∀ (l : List ByteArray) (i : Nat), s ∈ l → ∃ j, findA (eqA (En pr) 20 9) (.str s) (ents l) i = some (some (j, .bool true))
  | [], _, h => by cases h
  | x :: l, i, h => by
    have e : eqA (En pr) 20 9 (.str s) (.str x) = some (decide (s = x)) := rfl
    by_cases hx : s = x
    · exact ⟨i, by simp only [ents, List.map_cons, findA, e, decide_eq_true hx]⟩
    · simp only [List.mem_cons, hx, false_or] at h
      obtain ⟨j, hj⟩ := find_yes l (i + 1) h
      exact ⟨j, by simp only [ents, List.map_cons, findA, e, decide_eq_false hx]; exact hj⟩
def memB (s : ByteArray) (l : List ByteArray) : Bool := l.any fun x => decide (s = x)
theorem memB_yes {s : ByteArray} {l : List ByteArray} (h : memB s l = true) : s ∈ l := by
  simp only [memB, List.any_eq_true, decide_eq_true_eq] at h
  obtain ⟨x, h1, rfl⟩ := h; exact h1
theorem memB_no {s : ByteArray} {l : List ByteArray} (h : memB s l = false) : s ∉ l := fun k => by
  have : memB s l = true := by simp only [memB, List.any_eq_true, decide_eq_true_eq]; exact ⟨s, k, rfl⟩
  rw [h] at this; cases this
theorem look_ents {s : ByteArray} {l : List ByteArray} {b : Nat} {st : St} (hst : st.get b = some (.map 9 4 (ents l))) : lookTy (En pr) st 57 false (.map b) (.str s) = some (.bool (memB s l)) := by
  have e : lookTy (En pr) st 57 false (.map b) (.str s) = (match st.get b with
      | some (.map kt' et' es) =>
        if kt' = 9 ∧ et' = 4 then
          match findA (eqA (En pr) 20 9) (.str s) es 0 with
          | some (some (_, v)) => some (if false then .tup [v, .bool true] else v)
          | some none => some (if false then .tup [.bool false, .bool false] else .bool false)
          | none => none
        else none
      | _ => none) := rfl
  rw [e, hst]
  dsimp only
  rw [if_pos ⟨rfl, rfl⟩]
  cases h : memB s l with
  | true =>
    obtain ⟨j, hj⟩ := find_yes (pr := pr) l 0 (memB_yes h)
    rw [hj]; rfl
  | false => rw [find_no l 0 (memB_no h)]; rfl
theorem put_ents {s : ByteArray} {l : List ByteArray} {b : Nat} {st : St} (hs : s ∉ l) (hst : st.get b = some (.map 9 4 (ents l))) : mapPutA (En pr) st ty9 9 4 b (.str s) (.bool true) = some (st.put b (.map 9 4 (ents (l ++ [s])))) := by
  unfold mapPutA
  rw [hst]
  dsimp only
  rw [if_pos ⟨rfl, rfl, rfl, rfl, rfl⟩, find_no l 0 hs]
  simp [ents]
theorem run102 (h1 : pr 102 = none) (h103 : Has pr 103 Rel103) (h128 : Has pr 128 Rel128) (l : GSl ByteArray) (hl : l.xs.length ≤ 140737488355328) (hn : ∀ x ∈ l.xs, (id x).size ≤ 140737488355328) (st : St) : CW (En pr) 102 [l.av 1 strAV, .fn 103 [] []] st fun r _ => r = .bool (namesM (l.xs.map id)) := by
  have hml : (l.xs.map id).length = l.xs.length := by simp
  refine CW.start (N := 35) h1 rfl rfl ?_
  repeat' (first | (refine OS.do rfl ?_; first | refine OD.auto rfl rfl ?_ | refine OD.len rfl rfl (fun _ => lenTy_av rfl rfl) ?_ | refine OD.makeMapN rfl rfl rfl rfl (fun _ => ?_)) | refine OS.nil ?_ | refine WS.seq ?_ | refine QS.seqN ?_ | refine WS.region ?_ | refine WS.condD rfl (fun _ => ?_) (fun _ => ?_) | refine WS.skip ?_ | refine WS.block ?_ | refine WS.ret ?_ | refine QS.seqR ?_)
  all_goals try (refine QS.retR (by rfl) fun _ => ?_; rw [namesM_len (by omega)]; rfl)
  rename_i hlen b
  refine WS.rangeX (A := List ByteArray) (n := l.xs.length) ⟨17, _, fun _ => [], fun a => [(b, .map 9 4 (ents a))], fun _ => [], fun i a => a = (l.xs.map id).take i ∧ a.all nameOk = true ∧ a.Nodup⟩ ([]) [1, 5, 15, 16] (⟨by simp, rfl, List.nodup_nil⟩) ?_ ?_
  · rintro i a hi ⟨he, ha, hd⟩
    have hmi : (l.xs.map id)[i]'(by omega) = id l.xs[i] := by simp
    have ht : (l.xs.map id).take (i + 1) = a ++ [id l.xs[i]] := by rw [List.take_succ_eq_append_getElem (by omega), he, hmi]
    dsimp only [RSt.at, List.cons_append, List.nil_append]
    repeat' (first | (refine OS.do rfl ?_; first | refine OD.auto rfl rfl ?_ | refine OD.indexAddr rfl rfl rfl (indexAddrA_nat rfl rfl rfl rfl (by first | assumption | exact List.getElem?_eq_getElem (by omega))) ?_ | refine OD.call rfl rfl rfl h103.eq (h103.use ⟨_, trivial, rfl, rfl⟩) (fun _ => rfl) ?_ | refine OD.call rfl rfl rfl h128.eq (h128.use ⟨id l.xs[i], hn _ (List.getElem_mem hi), rfl, rfl⟩) (fun _ => rfl) ?_ | refine OD.lookup 0 rfl rfl rfl rfl (fun st hst => look_ents hst) ?_ | refine OD.mapUpdate 0 rfl rfl rfl rfl rfl rfl rfl (fun st hst => put_ents (memB_no (by assumption)) hst) ?_) | refine OS.nil ?_ | refine OS.skip rfl rfl rfl ?_ | refine WS.seq ?_ | refine QS.seqN ?_ | refine WS.region ?_ | refine WS.condT rfl ?_ | refine WS.skip ?_ | refine WS.ret ?_ | refine QS.seqR ?_ | refine QS.rangeR ?_ | refine WS.condB rfl (fun _ => ?_) (fun _ => ?_) | ((fail_if_success (refine OS.do rfl ?_)); first | refine OS.splitN rfl rfl rfl (fun _ => ?_) (fun _ => ?_)))
    all_goals try (refine QS.retR (by rfl) fun _ => ?_; rw [namesM_bad (i := i) (by omega) (by rw [hmi]; assumption)]; rfl)
    all_goals try (refine QS.retR (by rfl) fun _ => ?_; rw [namesM_dup (i := i) (by omega) (by rw [hmi, ← he]; exact memB_yes (by assumption))]; rfl)
    exact QS.rangeX (a ++ [id l.xs[i]]) (by (try dsimp only) <;> exact (⟨ht.symm, by rw [List.all_append, ha]; simp only [List.all_cons, List.all_nil, Bool.and_true, Bool.true_and]; assumption, by rw [List.nodup_append]; exact ⟨hd, by simp, fun x hx y hy => by rw [List.mem_singleton] at hy; subst hy; rintro rfl; exact memB_no (by assumption) hx⟩⟩))
  · rintro a ⟨he, ha, hd⟩
    dsimp only [RSt.at, List.cons_append, List.nil_append]
    rw [List.take_of_length_le (by omega)] at he
    subst he
    repeat' (first | (refine OS.do rfl ?_; first | refine OD.auto rfl rfl ?_) | refine OS.nil ?_ | refine WS.seq ?_ | refine QS.seqN ?_ | refine WS.region ?_ | refine WS.ret ?_)
    all_goals (refine QS.retR (by rfl) fun _ => ?_; rw [namesM_ok (by omega) ha hd]; rfl)
theorem run104 (h1 : pr 104 = none) (h105 : Has pr 105 Rel105) (h128 : Has pr 128 Rel128) (l : GSl GReg) (hl : l.xs.length ≤ 140737488355328) (hn : ∀ x ∈ l.xs, (GReg.name x).size ≤ 140737488355328) (st : St) : CW (En pr) 104 [l.av 3 regAV, .fn 105 [] []] st fun r _ => r = .bool (namesM (l.xs.map GReg.name)) := by
  have hml : (l.xs.map GReg.name).length = l.xs.length := by simp
  refine CW.start (N := 35) h1 rfl rfl ?_
  repeat' (first | (refine OS.do rfl ?_; first | refine OD.auto rfl rfl ?_ | refine OD.len rfl rfl (fun _ => lenTy_av rfl rfl) ?_ | refine OD.makeMapN rfl rfl rfl rfl (fun _ => ?_)) | refine OS.nil ?_ | refine WS.seq ?_ | refine QS.seqN ?_ | refine WS.region ?_ | refine WS.condD rfl (fun _ => ?_) (fun _ => ?_) | refine WS.skip ?_ | refine WS.block ?_ | refine WS.ret ?_ | refine QS.seqR ?_)
  all_goals try (refine QS.retR (by rfl) fun _ => ?_; rw [namesM_len (by omega)]; rfl)
  rename_i hlen b
  refine WS.rangeX (A := List ByteArray) (n := l.xs.length) ⟨17, _, fun _ => [], fun a => [(b, .map 9 4 (ents a))], fun _ => [], fun i a => a = (l.xs.map GReg.name).take i ∧ a.all nameOk = true ∧ a.Nodup⟩ ([]) [1, 5, 15, 16] (⟨by simp, rfl, List.nodup_nil⟩) ?_ ?_
  · rintro i a hi ⟨he, ha, hd⟩
    have hmi : (l.xs.map GReg.name)[i]'(by omega) = GReg.name l.xs[i] := by simp
    have ht : (l.xs.map GReg.name).take (i + 1) = a ++ [GReg.name l.xs[i]] := by rw [List.take_succ_eq_append_getElem (by omega), he, hmi]
    dsimp only [RSt.at, List.cons_append, List.nil_append]
    repeat' (first | (refine OS.do rfl ?_; first | refine OD.loadP 0 rfl rfl rfl rfl rfl rfl ?_ | refine OD.auto rfl rfl ?_ | refine OD.indexAddr rfl rfl rfl (indexAddrA_nat rfl rfl rfl rfl (by first | assumption | exact List.getElem?_eq_getElem (by omega))) ?_ | refine OD.alloc rfl rfl rfl rfl (fun _ => ?_) | refine OD.storeW 0 rfl rfl rfl rfl (by first | rfl | exact net_ok _) rfl rfl rfl ?_ | refine OD.call rfl rfl rfl h105.eq (h105.use ⟨_, trivial, rfl, rfl⟩) (fun _ => rfl) ?_ | refine OD.call rfl rfl rfl h128.eq (h128.use ⟨GReg.name l.xs[i], hn _ (List.getElem_mem hi), rfl, rfl⟩) (fun _ => rfl) ?_ | refine OD.lookup 1 rfl rfl rfl rfl (fun st hst => look_ents hst) ?_ | refine OD.mapUpdate 1 rfl rfl rfl rfl rfl rfl rfl (fun st hst => put_ents (memB_no (by assumption)) hst) ?_) | refine OS.nil ?_ | refine OS.skip rfl rfl rfl ?_ | refine WS.seq ?_ | refine QS.seqN ?_ | refine WS.region ?_ | refine WS.condT rfl ?_ | refine WS.skip ?_ | refine WS.ret ?_ | refine QS.seqR ?_ | refine QS.rangeR ?_ | refine WS.condB rfl (fun _ => ?_) (fun _ => ?_) | ((fail_if_success (refine OS.do rfl ?_)); first | refine OS.splitN rfl rfl rfl (fun _ => ?_) (fun _ => ?_)))
    all_goals try (refine QS.retR (by rfl) fun _ => ?_; rw [namesM_bad (i := i) (by omega) (by rw [hmi]; assumption)]; rfl)
    all_goals try (refine QS.retR (by rfl) fun _ => ?_; rw [namesM_dup (i := i) (by omega) (by rw [hmi, ← he]; exact memB_yes (by assumption))]; rfl)
    exact QS.rangeX (a ++ [GReg.name l.xs[i]]) (by (try dsimp only) <;> exact (⟨ht.symm, by rw [List.all_append, ha]; simp only [List.all_cons, List.all_nil, Bool.and_true, Bool.true_and]; assumption, by rw [List.nodup_append]; exact ⟨hd, by simp, fun x hx y hy => by rw [List.mem_singleton] at hy; subst hy; rintro rfl; exact memB_no (by assumption) hx⟩⟩))
  · rintro a ⟨he, ha, hd⟩
    dsimp only [RSt.at, List.cons_append, List.nil_append]
    rw [List.take_of_length_le (by omega)] at he
    subst he
    repeat' (first | (refine OS.do rfl ?_; first | refine OD.auto rfl rfl ?_) | refine OS.nil ?_ | refine WS.seq ?_ | refine QS.seqN ?_ | refine WS.region ?_ | refine WS.ret ?_)
    all_goals (refine QS.retR (by rfl) fun _ => ?_; rw [namesM_ok (by omega) ha hd]; rfl)
theorem run106 (h1 : pr 106 = none) (h107 : Has pr 107 Rel107) (h128 : Has pr 128 Rel128) (l : GSl GPin) (hl : l.xs.length ≤ 140737488355328) (hn : ∀ x ∈ l.xs, (GPin.name x).size ≤ 140737488355328) (st : St) : CW (En pr) 106 [l.av 2 pinAV, .fn 107 [] []] st fun r _ => r = .bool (namesM (l.xs.map GPin.name)) := by
  have hml : (l.xs.map GPin.name).length = l.xs.length := by simp
  refine CW.start (N := 35) h1 rfl rfl ?_
  repeat' (first | (refine OS.do rfl ?_; first | refine OD.auto rfl rfl ?_ | refine OD.len rfl rfl (fun _ => lenTy_av rfl rfl) ?_ | refine OD.makeMapN rfl rfl rfl rfl (fun _ => ?_)) | refine OS.nil ?_ | refine WS.seq ?_ | refine QS.seqN ?_ | refine WS.region ?_ | refine WS.condD rfl (fun _ => ?_) (fun _ => ?_) | refine WS.skip ?_ | refine WS.block ?_ | refine WS.ret ?_ | refine QS.seqR ?_)
  all_goals try (refine QS.retR (by rfl) fun _ => ?_; rw [namesM_len (by omega)]; rfl)
  rename_i hlen b
  refine WS.rangeX (A := List ByteArray) (n := l.xs.length) ⟨17, _, fun _ => [], fun a => [(b, .map 9 4 (ents a))], fun _ => [], fun i a => a = (l.xs.map GPin.name).take i ∧ a.all nameOk = true ∧ a.Nodup⟩ ([]) [1, 5, 15, 16] (⟨by simp, rfl, List.nodup_nil⟩) ?_ ?_
  · rintro i a hi ⟨he, ha, hd⟩
    have hmi : (l.xs.map GPin.name)[i]'(by omega) = GPin.name l.xs[i] := by simp
    have ht : (l.xs.map GPin.name).take (i + 1) = a ++ [GPin.name l.xs[i]] := by rw [List.take_succ_eq_append_getElem (by omega), he, hmi]
    dsimp only [RSt.at, List.cons_append, List.nil_append]
    repeat' (first | (refine OS.do rfl ?_; first | refine OD.loadP 0 rfl rfl rfl rfl rfl rfl ?_ | refine OD.auto rfl rfl ?_ | refine OD.indexAddr rfl rfl rfl (indexAddrA_nat rfl rfl rfl rfl (by first | assumption | exact List.getElem?_eq_getElem (by omega))) ?_ | refine OD.alloc rfl rfl rfl rfl (fun _ => ?_) | refine OD.storeW 0 rfl rfl rfl rfl (by first | rfl | exact net_ok _) rfl rfl rfl ?_ | refine OD.call rfl rfl rfl h107.eq (h107.use ⟨_, trivial, rfl, rfl⟩) (fun _ => rfl) ?_ | refine OD.call rfl rfl rfl h128.eq (h128.use ⟨GPin.name l.xs[i], hn _ (List.getElem_mem hi), rfl, rfl⟩) (fun _ => rfl) ?_ | refine OD.lookup 1 rfl rfl rfl rfl (fun st hst => look_ents hst) ?_ | refine OD.mapUpdate 1 rfl rfl rfl rfl rfl rfl rfl (fun st hst => put_ents (memB_no (by assumption)) hst) ?_) | refine OS.nil ?_ | refine OS.skip rfl rfl rfl ?_ | refine WS.seq ?_ | refine QS.seqN ?_ | refine WS.region ?_ | refine WS.condT rfl ?_ | refine WS.skip ?_ | refine WS.ret ?_ | refine QS.seqR ?_ | refine QS.rangeR ?_ | refine WS.condB rfl (fun _ => ?_) (fun _ => ?_) | ((fail_if_success (refine OS.do rfl ?_)); first | refine OS.splitN rfl rfl rfl (fun _ => ?_) (fun _ => ?_)))
    all_goals try (refine QS.retR (by rfl) fun _ => ?_; rw [namesM_bad (i := i) (by omega) (by rw [hmi]; assumption)]; rfl)
    all_goals try (refine QS.retR (by rfl) fun _ => ?_; rw [namesM_dup (i := i) (by omega) (by rw [hmi, ← he]; exact memB_yes (by assumption))]; rfl)
    exact QS.rangeX (a ++ [GPin.name l.xs[i]]) (by (try dsimp only) <;> exact (⟨ht.symm, by rw [List.all_append, ha]; simp only [List.all_cons, List.all_nil, Bool.and_true, Bool.true_and]; assumption, by rw [List.nodup_append]; exact ⟨hd, by simp, fun x hx y hy => by rw [List.mem_singleton] at hy; subst hy; rintro rfl; exact memB_no (by assumption) hx⟩⟩))
  · rintro a ⟨he, ha, hd⟩
    dsimp only [RSt.at, List.cons_append, List.nil_append]
    rw [List.take_of_length_le (by omega)] at he
    subst he
    repeat' (first | (refine OS.do rfl ?_; first | refine OD.auto rfl rfl ?_) | refine OS.nil ?_ | refine WS.seq ?_ | refine QS.seqN ?_ | refine WS.region ?_ | refine WS.ret ?_)
    all_goals (refine QS.retR (by rfl) fun _ => ?_; rw [namesM_ok (by omega) ha hd]; rfl)
def Rel102 : Rel := RelF (fun l : GSl ByteArray => l.xs.length ≤ 140737488355328 ∧ ∀ x ∈ l.xs, x.size ≤ 140737488355328) (fun l => [l.av 1 strAV, .fn 103 [] []]) fun l => .bool (namesM (l.xs.map id))
def Rel104 : Rel := RelF (fun l : GSl GReg => l.xs.length ≤ 140737488355328 ∧ ∀ x ∈ l.xs, x.name.size ≤ 140737488355328) (fun l => [l.av 3 regAV, .fn 105 [] []]) fun l => .bool (namesM (l.xs.map GReg.name))
def Rel106 : Rel := RelF (fun l : GSl GPin => l.xs.length ≤ 140737488355328 ∧ ∀ x ∈ l.xs, x.name.size ≤ 140737488355328) (fun l => [l.av 2 pinAV, .fn 107 [] []]) fun l => .bool (namesM (l.xs.map GPin.name))
theorem con102 (h : pr 102 = none) (h103 : Has pr 103 Rel103) (h128 : Has pr 128 Rel128) : Con2 (En pr) 102 Rel102 := con_eq (fun d => by simp [AV.freeL, AV.free, free_av str_free]) (fun _ => ⟨rfl, rfl⟩) fun d hd st => run102 h h103 h128 d hd.1 hd.2 st
theorem con104 (h : pr 104 = none) (h105 : Has pr 105 Rel105) (h128 : Has pr 128 Rel128) : Con2 (En pr) 104 Rel104 := con_eq (fun d => by simp [AV.freeL, AV.free, free_av reg_free]) (fun _ => ⟨rfl, rfl⟩) fun d hd st => run104 h h105 h128 d hd.1 hd.2 st
theorem con106 (h : pr 106 = none) (h107 : Has pr 107 Rel107) (h128 : Has pr 128 Rel128) : Con2 (En pr) 106 Rel106 := con_eq (fun d => by simp [AV.freeL, AV.free, free_av pin_free]) (fun _ => ⟨rfl, rfl⟩) fun d hd st => run106 h h107 h128 d hd.1 hd.2 st
end
end Go.OptEnv

namespace Go.OptEnv
open Go Go.Proofs Go.Abs Go.RowKit Go.NetM
set_option maxRecDepth 10000
attribute [local irreducible] WS QS OS OD Abs.Sub SubO SubK CW GSl.av accA
def tab124 : List (List AV × AV) := [([.int .u8 0], .tup [.int .u8 1, .int .i64 0]), ([.int .u8 1], .tup [.int .u8 0, .int .i64 0]), ([.int .u8 2], .tup [.int .u8 2, .int .i64 0])]
theorem tabok124 : TabOk (En ap0) 124 tab124 := .cons 1000 (by kernel_rfl) (.cons 1000 (by kernel_rfl) (.cons 1000 (by kernel_rfl) .nil))
def rowAnd (a b c : Int) : List AV × AV := ([.str ⟨#[97, 110, 100]⟩, .int .u8 a, .int .u8 b], .tup [.int .u8 c, .int .i64 0])
def tab123 : List (List AV × AV) := [rowAnd 0 0 0, rowAnd 0 1 0, rowAnd 0 2 0, rowAnd 1 0 0, rowAnd 1 1 1, rowAnd 1 2 2, rowAnd 2 0 0, rowAnd 2 1 2, rowAnd 2 2 2]
theorem tabok123 : TabOk (En ap0) 123 tab123 := .cons 1000 (by kernel_rfl) (.cons 1000 (by kernel_rfl) (.cons 1000 (by kernel_rfl) (.cons 1000 (by kernel_rfl) (.cons 1000 (by kernel_rfl) (.cons 1000 (by kernel_rfl) (.cons 1000 (by kernel_rfl) (.cons 1000 (by kernel_rfl) (.cons 1000 (by kernel_rfl) .nil))))))))
theorem three {b : UInt8} (h : b.toNat ≤ 2) : b = 0 ∨ b = 1 ∨ b = 2 := by
  have h1 : b.toNat = 0 ∨ b.toNat = 1 ∨ b.toNat = 2 := by omega
  rcases h1 with h | h | h
  · exact .inl (UInt8.toNat_inj.1 (by rw [h]; rfl))
  · exact .inr (.inl (UInt8.toNat_inj.1 (by rw [h]; rfl)))
  · exact .inr (.inr (UInt8.toNat_inj.1 (by rw [h]; rfl)))
theorem use124 {b : UInt8} (h : b.toNat ≤ 2) (st : St) : tabPrim tab124 [bitAV b] st = some (.tup [bitAV (notB b), .int .i64 0], st) := by
  rcases three h with rfl | rfl | rfl <;> rfl
theorem use123 {a b : UInt8} (ha : a.toNat ≤ 2) (hb : b.toNat ≤ 2) (st : St) : tabPrim tab123 [.str ⟨#[97, 110, 100]⟩, bitAV a, bitAV b] st = some (.tup [bitAV (andB a b), .int .i64 0], st) := by
  rcases three ha with rfl | rfl | rfl <;> rcases three hb with rfl | rfl | rfl <;> rfl
section
variable {pr : Prims}
theorem run71 (h1 : pr 71 = none) (h114 : Has pr 114 Rel114) (l : GSl ByteArray) (st : St) : CW (En pr) 71 [l.av 1 strAV] st fun r _ => r = .bool (namesM l.xs) := by
  refine CW.start (N := 34) h1 rfl rfl ?_
  repeat' (first | (refine OS.do rfl ?_; first | refine OD.auto rfl rfl ?_ | refine OD.len rfl rfl (fun _ => lenTy_av rfl rfl) ?_) | refine OS.nil ?_ | refine WS.seq ?_ | refine QS.seqN ?_ | refine WS.region ?_ | refine WS.condD rfl (fun _ => ?_) (fun _ => ?_) | refine WS.skip ?_ | refine WS.block ?_ | refine WS.ret ?_ | refine QS.seqR ?_)
  all_goals try (refine QS.retR (by rfl) fun _ => ?_; rw [namesM_len (by omega)]; rfl)
  rename_i hlen
  refine WS.rangeX (A := Unit) (n := l.xs.length) ⟨10, _, fun _ => [], fun _ => [], fun _ => [], fun i _ => (l.xs.take i).all nameOk = true ∧ (l.xs.take i).Nodup⟩ (()) [0, 9] (⟨by simp, by simp⟩) ?_ ?_
  · rintro i _ hi ⟨ha, hd⟩
    try dsimp only at ha hd
    dsimp only [RSt.at, List.cons_append, List.nil_append]
    repeat' (first | (refine OS.do rfl ?_; first | refine OD.auto rfl rfl ?_ | refine OD.indexAddr rfl rfl rfl (indexAddrA_nat rfl rfl rfl rfl (by first | assumption | exact List.getElem?_eq_getElem (by omega))) ?_ | refine OD.call rfl rfl rfl h114.eq (h114.use ⟨_, trivial, rfl, rfl⟩) (fun _ => rfl) ?_) | refine OS.nil ?_ | refine WS.seq ?_ | refine QS.seqN ?_ | refine WS.region ?_ | refine WS.skip ?_ | refine WS.block ?_ | refine WS.ret ?_ | refine QS.seqR ?_ | refine QS.rangeR ?_ | refine WS.condN rfl (fun _ => ?_) (fun _ => ?_))
    all_goals try (refine QS.retR (by rfl) fun _ => ?_; rw [namesM_bad (i := i) (by omega) (by assumption)]; rfl)
    rename_i hok
    refine WS.loopX (D := Nat) [0, 3, 9, 10] (fun j => [(4, .int .i64 j)]) (fun _ => []) (fun _ => []) (fun j => j ≤ i ∧ l.xs[i] ∉ l.xs.take j) (fun j => i + 1 - j) (0) (⟨by omega, by simp⟩) ?_
    rintro j ⟨hj, hm⟩
    dsimp only [RSt.at, List.cons_append, List.nil_append]
    repeat' (first | (refine OS.do rfl ?_; first | refine OD.auto rfl rfl ?_ | refine OD.indexAddr rfl rfl rfl (indexAddrA_nat rfl rfl rfl rfl (by first | assumption | exact List.getElem?_eq_getElem (by omega))) ?_) | refine OS.nil ?_ | refine WS.seq ?_ | refine QS.seqN ?_ | refine WS.region ?_ | refine WS.condD rfl (fun _ => ?_) (fun _ => ?_) | refine WS.skip ?_ | refine WS.block ?_ | refine WS.ret ?_ | refine QS.seqR ?_ | refine QS.blockR ?_ | refine QS.loopR ?_ | refine QS.blockN ?_ | refine WS.exit ?_ | refine QS.seqE ?_ | refine QS.blockH ?_ | refine QS.loopE ?_ | refine WS.draw rfl rfl ?_ | refine QS.rangeR ?_ | refine WS.condB rfl (fun _ => ?_) (fun _ => ?_))
    · rename_i heq
      refine QS.retR (by rfl) fun _ => ?_
      rw [str_beq] at heq
      rw [namesM_dup (i := i) (by omega) (by rw [← of_decide_eq_true heq, List.mem_take_iff_getElem]; exact ⟨j, by omega, rfl⟩)]; rfl
    · rename_i hne
      rw [str_beq] at hne
      exact QS.loopX (j + 1) (by exact (⟨by omega, by rw [List.take_succ_eq_append_getElem (by omega), List.mem_append, not_or]; exact ⟨hm, by simpa using Ne.symm (of_decide_eq_false hne)⟩⟩)) (by exact (by omega))
    · have hji : j = i := by omega
      subst hji
      exact QS.rangeX (()) (by (try dsimp only) <;> exact (⟨all_take_succ hi ha hok, nodup_take_succ hi hd hm⟩))
  · rintro _ ⟨ha, hd⟩
    try dsimp only at ha hd
    dsimp only [RSt.at, List.cons_append, List.nil_append]
    rw [List.take_of_length_le (Nat.le_refl _)] at ha hd
    repeat' (first | (refine OS.do rfl ?_; first | refine OD.auto rfl rfl ?_) | refine OS.nil ?_ | refine WS.seq ?_ | refine QS.seqN ?_ | refine WS.region ?_ | refine WS.ret ?_)
    all_goals (refine QS.retR (by rfl) fun _ => ?_; rw [namesM_ok (by omega) ha hd]; rfl)
theorem run122 (h1 : pr 122 = none) (h70 : Has pr 70 Rel70) (l : GSl UInt8) (hl : l.xs.length ≤ 140737488355328) (k : Int) (st : St) : CW (En pr) 122 [l.av 1 bitAV, .int .i64 k] st fun r _ => r = .bool (decide ((l.xs.length : Int) = k) && le2 l.xs) := by
  refine CW.start (N := 21) h1 rfl rfl ?_
  repeat' (first | (refine OS.do rfl ?_; first | refine OD.auto rfl rfl ?_ | refine OD.len rfl rfl (fun _ => lenTy_av rfl rfl) ?_) | refine OS.nil ?_ | refine WS.seq ?_ | refine QS.seqN ?_ | refine WS.region ?_ | refine WS.skip ?_ | refine WS.block ?_ | refine WS.ret ?_ | refine QS.seqR ?_ | refine WS.condNe rfl (fun _ => ?_) (fun _ => ?_))
  · refine QS.retR (by rfl) fun _ => ?_
    rw [decide_eq_false (by assumption)]; rfl
  rename_i hk
  refine WS.rangeX (A := Unit) (n := l.xs.length) ⟨13, _, fun _ => [], fun _ => [], fun _ => [], fun i _ => (l.xs.take i).all (fun b => decide (b.toNat ≤ 2)) = true⟩ (()) [11, 12] (by simp) ?_ ?_
  · rintro i _ hi ha
    try dsimp only at ha
    dsimp only [RSt.at, List.cons_append, List.nil_append]
    repeat' (first | (refine OS.do rfl ?_; first | refine OD.auto rfl rfl ?_ | refine OD.indexAddr rfl rfl rfl (indexAddrA_nat rfl rfl rfl rfl (by first | assumption | exact List.getElem?_eq_getElem (by omega))) ?_ | refine OD.call rfl rfl rfl h70.eq (h70.use ⟨_, trivial, rfl, rfl⟩) (fun _ => rfl) ?_) | refine OS.nil ?_ | refine WS.seq ?_ | refine QS.seqN ?_ | refine WS.region ?_ | refine WS.skip ?_ | refine WS.ret ?_ | refine QS.seqR ?_ | refine QS.rangeR ?_ | refine WS.condN rfl (fun _ => ?_) (fun _ => ?_))
    · refine QS.retR (by rfl) fun _ => ?_
      unfold le2; rw [all_false (i := i) (f := fun b : UInt8 => decide (b.toNat ≤ 2)) (by omega) (by assumption), Bool.and_false]; rfl
    · exact QS.rangeX (()) (by (try dsimp only) <;> exact (all_take_succ (by omega) ha (by assumption)))
  · rintro _ ha
    try dsimp only at ha
    dsimp only [RSt.at, List.cons_append, List.nil_append]
    rw [List.take_of_length_le (Nat.le_refl _)] at ha
    repeat' (first | (refine OS.do rfl ?_; first | refine OD.auto rfl rfl ?_) | refine OS.nil ?_ | refine WS.seq ?_ | refine QS.seqN ?_ | refine WS.region ?_ | refine WS.ret ?_)
    all_goals (refine QS.retR (by rfl) fun _ => ?_; unfold le2; rw [ha, decide_eq_true (by assumption)]; rfl)
theorem run92 (h1 : pr 92 = none) (h124 : pr 124 = some (tabPrim tab124)) (k : Int) (v : GSl UInt8) (hk : 0 ≤ k ∧ k / 2 < v.xs.length) (hl : v.xs.length ≤ 140737488355328) (hv : le2 v.xs = true) (st : St) : CW (En pr) 92 [.int .i64 k, v.av 1 bitAV] st fun r _ => r = bitAV (ofL v.xs k) := by
  refine CW.start (N := 20) h1 rfl rfl ?_
  have hw : IntKind.i64.wrap (k.tdiv 2) = k / 2 := by
    rcases ediv2 (l := k) (by omega) with k | k
    · exact k
    · omega
  have hx : v.xs[(k / 2).toNat]? = some (v.xs.getD (k / 2).toNat 0) := by
    rw [List.getD_eq_getElem?_getD, List.getElem?_eq_getElem (by omega)]; rfl
  have hb : (v.xs.getD (k / 2).toNat 0).toNat ≤ 2 := getD_le2 hv _
  repeat' (first | (refine OS.do rfl ?_; first | refine OD.indexAddr rfl rfl rfl (indexAddrA_int rfl rfl rfl rfl (by rw [hw]; omega) (by rw [hw]; exact hx)) ?_ | refine OD.auto rfl rfl ?_ | refine OD.call rfl rfl rfl h124 (use124 hb) (fun _ => rfl) ?_) | refine OS.nil ?_ | refine WS.seq ?_ | refine QS.seqN ?_ | refine WS.region ?_ | refine WS.condE rfl (fun _ => ?_) (fun _ => ?_) | refine WS.skip ?_ | refine WS.ret ?_)
  all_goals (rename_i hc; refine QS.retR (by rfl) fun _ => ?_; unfold ofL; rw [Int.tmod_eq_emod_of_nonneg (by omega)] at hc)
  · rw [if_pos hc]
  · rw [if_neg hc]
end
end Go.OptEnv

namespace Go.OptEnv
open Go Go.Proofs Go.Abs Go.RowKit Go.NetM
set_option maxRecDepth 10000
attribute [local irreducible] WS QS OS OD Abs.Sub SubO SubK CW GSl.av accA
def Rel71 : Rel := RelF (fun _ : GSl ByteArray => True) (fun l => [l.av 1 strAV]) fun l => .bool (namesM l.xs)
def Rel122 : Rel := RelF (fun p : GSl UInt8 × Int => p.1.xs.length ≤ 140737488355328) (fun p => [p.1.av 1 bitAV, .int .i64 p.2]) fun p => .bool (decide ((p.1.xs.length : Int) = p.2) && le2 p.1.xs)
def Rel92 : Rel := RelF (fun p : Int × GSl UInt8 => (0 ≤ p.1 ∧ p.1 / 2 < p.2.xs.length) ∧ p.2.xs.length ≤ 140737488355328 ∧ le2 p.2.xs = true) (fun p => [.int .i64 p.1, p.2.av 1 bitAV]) fun p => bitAV (ofL p.2.xs p.1)
section
variable {pr : Prims}
theorem con71 (h : pr 71 = none) (h114 : Has pr 114 Rel114) : Con2 (En pr) 71 Rel71 := con_eq (fun d => by simp [AV.freeL, free_av str_free]) (fun _ => ⟨rfl, rfl⟩) fun d _ st => run71 h h114 d st
theorem con122 (h : pr 122 = none) (h70 : Has pr 70 Rel70) : Con2 (En pr) 122 Rel122 := con_eq (fun d => by simp [AV.freeL, AV.free, free_av bit_free]) (fun _ => ⟨rfl, rfl⟩) fun d hd st => run122 h h70 d.1 hd d.2 st
theorem con92 (h : pr 92 = none) (h124 : pr 124 = some (tabPrim tab124)) : Con2 (En pr) 92 Rel92 := con_eq (fun d => by simp [AV.freeL, AV.free, free_av bit_free]) (fun _ => ⟨rfl, rfl⟩) fun d hd st => run92 h h124 d.1 d.2 hd.1 hd.2.1 hd.2.2 st
theorem use72 (h : Has pr 72 Rel72) {l k : Int} (hl : Fit64 l) (st : St) : primOf Rel72 [.int .i64 l, .int .i64 k] st = some (.bool (litOk l k), st) := h.use ⟨(l, k), hl, rfl, rfl⟩ st
theorem use73 (h : Has pr 73 Rel73) {n : GNet} (hn : FitsN n) (st : St) : primOf Rel73 [netAV n] st = some (.int .i64 n.first, st) := h.use ⟨n, hn, by simp [AV.plainL, net_plain], rfl⟩ st
set_option maxHeartbeats 1000000 in
theorem run31 (h1 : pr 31 = none) (h70 : Has pr 70 Rel70) (h71 : Has pr 71 Rel71) (h72 : Has pr 72 Rel72) (h73 : Has pr 73 Rel73) (n : GNet) (hn : FitsN n) (st : St) : CW (En pr) 31 [netAV n] st fun r _ => r = .bool (validM n) := by
  have hn' := hn
  obtain ⟨f1, f2, f3, f4, _, _, _, g1, g2, g3⟩ := hn'
  refine CW.start (N := 135) h1 rfl rfl ?_
  repeat' (first | (refine OS.do rfl ?_; first | refine OD.box rfl rfl rfl rfl (net_ok _) rfl (fun b1 => ?_) | refine OD.loadP 0 rfl rfl rfl rfl rfl rfl ?_ | refine OD.auto rfl rfl ?_ | refine OD.len rfl rfl (fun _ => lenTy_av rfl rfl) ?_) | refine OS.nil ?_ | refine OS.skip rfl rfl rfl ?_ | refine WS.seq ?_ | refine QS.seqN ?_ | refine WS.region ?_ | refine WS.condT rfl ?_ | refine WS.condD rfl (fun _ => ?_) (fun _ => ?_) | refine WS.skip ?_ | refine WS.block ?_ | refine WS.ret ?_ | refine QS.seqR ?_ | ((fail_if_success (refine OS.do rfl ?_)); first | refine OS.splitD rfl rfl rfl (fun _ => ?_) (fun _ => ?_)))
  all_goals try (refine QS.retR (by rfl) fun _ => ?_; rw [valid_no fun v => (by have := names_len v.regs; have := names_len v.outs; have := v.gatesN; simp only [List.length_map] at *; omega)]; rfl)
  rename_i l1 l2 l3
  refine WS.rangeX (A := Nat × List ByteArray) (n := n.regs.xs.length) ⟨35, _, fun a => [(3, accA a.1 1 (a.2.map strAV))], fun _ => [(b1, .row 4 [netAV n])], fun a => [(a.1, !(a.2.map strAV).isEmpty)], fun i a => a.2 = (n.regs.xs.take i).map (·.name) ∧ (n.regs.xs.take i).all (fun r => decide (r.init.toNat ≤ 2)) = true⟩ ((0, [])) [1, 4, 33, 34] (⟨by simp, by simp⟩) ?_ ?_ (hm := by (try dsimp only); repeat' (first | exact Sub.nil _ | refine Sub.cons (congrArg some (accA_nil _ _).symm) ?_ | refine Sub.cons (congrArg (fun z => some (AV.int .i64 z)) (wrap_succ (by omega))) ?_ | refine Sub.cons rfl ?_))
  · rintro i ⟨tk, a⟩ hi ⟨ha, hb⟩
    try dsimp only at ha hb
    have hal : a.length ≤ 500 := by rw [ha]; simp only [List.length_map, List.length_take]; omega
    dsimp only [RSt.at, List.cons_append, List.nil_append]
    repeat' (first | (refine OS.do rfl ?_; first | refine OD.loadP 0 rfl rfl rfl rfl rfl rfl ?_ | refine OD.auto rfl rfl ?_ | refine OD.indexAddr rfl rfl rfl (indexAddrA_nat rfl rfl rfl rfl (by first | assumption | exact List.getElem?_eq_getElem (by omega))) ?_ | refine OD.alloc rfl rfl rfl rfl (fun _ => ?_) | refine OD.storeW 0 rfl rfl rfl rfl (by first | rfl | exact net_ok _) rfl rfl rfl ?_ | refine OD.append 0 rfl rfl rfl rfl rfl rfl rfl rfl rfl rfl rfl (.inr ⟨⟨_, rfl⟩, rfl⟩) (fun _ => rfl) rfl rfl (roomB rfl (by simp only [List.length_map, List.length_append, List.length_take, List.length_cons, List.length_nil]; omega)) (fun tk' => ?_) | refine OD.call rfl rfl rfl h70.eq (h70.use ⟨_, trivial, rfl, rfl⟩) (fun _ => rfl) ?_) | refine OS.nil ?_ | refine WS.seq ?_ | refine QS.seqN ?_ | refine WS.region ?_ | refine WS.skip ?_ | refine WS.ret ?_ | refine QS.seqR ?_ | refine QS.rangeR ?_ | refine WS.condN rfl (fun _ => ?_) (fun _ => ?_))
    all_goals try (refine QS.retR (by rfl) fun _ => ?_; rw [valid_no fun v => not_false_true (all_get v.inits hi) (by assumption)]; rfl)
    exact QS.rangeX ((tk', a ++ [n.regs.xs[i].name])) (by (try dsimp only) <;> exact (⟨by rw [map_take_succ hi, ha], all_take_succ hi hb (by assumption)⟩)) (hl := by (try dsimp only [RSt.at, List.cons_append, List.nil_append]); repeat' (first | exact Sub.nil _ | refine Sub.cons (by rw [List.map_append]; rfl) ?_ | refine Sub.cons (congrArg (fun z => some (AV.int .i64 z)) (wrap_succ (by omega))) ?_ | refine Sub.cons rfl ?_))
  rintro ⟨tk, a⟩ ⟨ha, hb⟩
  try dsimp only at ha hb
  rw [List.take_of_length_le (Nat.le_refl _)] at ha hb
  have hal : a.length ≤ 500 := by rw [ha]; simp only [List.length_map]; omega
  dsimp only [RSt.at, List.cons_append, List.nil_append]
  repeat' (first | (refine OS.do rfl ?_; first | refine OD.loadP 0 rfl rfl rfl rfl rfl rfl ?_ | refine OD.auto rfl rfl ?_ | refine OD.len rfl rfl (fun _ => lenTy_av rfl rfl) ?_) | refine OS.nil ?_ | refine WS.seq ?_ | refine QS.seqN ?_ | refine WS.region ?_ | refine WS.block ?_)
  refine WS.rangeX (A := Nat × List ByteArray) (n := n.outs.xs.length) ⟨52, _, fun a => [(4, accA a.1 1 (a.2.map strAV))], fun _ => [(b1, .row 4 [netAV n])], fun a => [(a.1, !(a.2.map strAV).isEmpty)], fun i a => a.2 = (n.outs.xs.take i).map (·.name)⟩ ((0, [])) [1, 3, 50, 51] (by simp) ?_ ?_ (hm := by (try dsimp only); repeat' (first | exact Sub.nil _ | refine Sub.cons (congrArg some (accA_nil _ _).symm) ?_ | refine Sub.cons (congrArg (fun z => some (AV.int .i64 z)) (wrap_succ (by omega))) ?_ | refine Sub.cons rfl ?_))
  · rintro i ⟨tk2, c⟩ hi hc
    try dsimp only at hc
    have hcl : c.length ≤ 500 := by rw [hc]; simp only [List.length_map, List.length_take]; omega
    dsimp only [RSt.at, List.cons_append, List.nil_append]
    repeat' (first | (refine OS.do rfl ?_; first | refine OD.loadP 0 rfl rfl rfl rfl rfl rfl ?_ | refine OD.auto rfl rfl ?_ | refine OD.indexAddr rfl rfl rfl (indexAddrA_nat rfl rfl rfl rfl (by first | assumption | exact List.getElem?_eq_getElem (by omega))) ?_ | refine OD.alloc rfl rfl rfl rfl (fun _ => ?_) | refine OD.storeW 0 rfl rfl rfl rfl (by first | rfl | exact net_ok _) rfl rfl rfl ?_ | refine OD.append 0 rfl rfl rfl rfl rfl rfl rfl rfl rfl rfl rfl (.inr ⟨⟨_, rfl⟩, rfl⟩) (fun _ => rfl) rfl rfl (roomB rfl (by simp only [List.length_map, List.length_append, List.length_take, List.length_cons, List.length_nil]; omega)) (fun tk' => ?_)) | refine OS.nil ?_ | refine WS.seq ?_ | refine QS.seqN ?_ | refine WS.region ?_)
    exact QS.rangeX ((tk', c ++ [n.outs.xs[i].name])) (by (try dsimp only) <;> exact (by rw [map_take_succ hi, hc])) (hl := by (try dsimp only [RSt.at, List.cons_append, List.nil_append]); repeat' (first | exact Sub.nil _ | refine Sub.cons (by rw [List.map_append]; rfl) ?_ | refine Sub.cons (congrArg (fun z => some (AV.int .i64 z)) (wrap_succ (by omega))) ?_ | refine Sub.cons rfl ?_))
  rintro ⟨tk2, c⟩ hc
  try dsimp only at hc
  rw [List.take_of_length_le (Nat.le_refl _)] at hc
  dsimp only [RSt.at, List.cons_append, List.nil_append]
  have u1 := h71.use (args := [n.ins.av 1 strAV]) ⟨n.ins, trivial, by simp [AV.plainL, plain_av str_plain], rfl⟩
  have u2 := h71.use (args := [accA tk 1 (a.map strAV)]) ⟨GSl.of a, trivial, by simp [AV.plainL, plain_acc str_plain], rfl⟩
  have u3 := h71.use (args := [accA tk2 1 (c.map strAV)]) ⟨GSl.of c, trivial, by simp [AV.plainL, plain_acc str_plain], rfl⟩
  dsimp only [GSl.of] at u1 u2 u3
  repeat' (first | (refine OS.do rfl ?_; first | refine OD.loadP 0 rfl rfl rfl rfl rfl rfl ?_ | refine OD.auto rfl rfl ?_ | refine OD.len rfl rfl (fun _ => lenTy_av rfl rfl) ?_ | refine OD.call rfl rfl rfl h71.eq u1 (fun _ => rfl) ?_ | refine OD.call rfl rfl rfl h71.eq u2 (fun _ => rfl) ?_ | refine OD.call rfl rfl rfl h71.eq u3 (fun _ => rfl) ?_) | refine OS.nil ?_ | refine OS.skip rfl rfl rfl ?_ | refine WS.seq ?_ | refine QS.seqN ?_ | refine WS.region ?_ | refine WS.condT rfl ?_ | refine WS.skip ?_ | refine WS.block ?_ | refine WS.ret ?_ | refine QS.seqR ?_ | refine WS.condN rfl (fun _ => ?_) (fun _ => ?_) | ((fail_if_success (refine OS.do rfl ?_)); first | refine OS.splitN rfl rfl rfl (fun _ => ?_) (fun _ => ?_)))
  all_goals try (refine QS.retR (by rfl) fun _ => ?_; rw [valid_no fun v => (by have q1 := v.ins; have q2 := v.regs; have q3 := v.outs; rw [← ha] at q2; rw [← hc] at q3; first | exact not_false_true q1 (by assumption) | exact not_false_true q2 (by assumption) | exact not_false_true q3 (by assumption))]; rfl)
  rename_i hI hR hO
  have u73 := use73 h73 hn
  have hfst : n.first ≤ 300000000000000 ∧ 1 ≤ n.first := by unfold GNet.first; omega
  refine WS.rangeX (A := Unit) (n := n.gates.xs.length) ⟨79, _, fun _ => [], fun _ => [(b1, .row 4 [netAV n])], fun _ => [], fun i _ => gatesOk n.first (n.gates.xs.take i) = true⟩ (()) [1, 77, 78] (rfl) ?_ ?_
  · rintro i _ hi hg
    try dsimp only at hg
    have hw : IntKind.i64.wrap (n.first + (i : Int)) = n.first + i := wrap64 (by omega) (by omega)
    have u5 := (g1 _ (List.getElem_mem hi)).1
    have u6 := (g1 _ (List.getElem_mem hi)).2
    dsimp only [RSt.at, List.cons_append, List.nil_append]
    repeat' (first | (refine OS.do rfl ?_; first | refine OD.loadP 0 rfl rfl rfl rfl rfl rfl ?_ | refine OD.auto rfl rfl ?_ | refine OD.loadP 1 rfl rfl rfl rfl rfl rfl ?_ | refine OD.indexAddr rfl rfl rfl (indexAddrA_nat rfl rfl rfl rfl (by first | assumption | exact List.getElem?_eq_getElem (by omega))) ?_ | refine OD.alloc rfl rfl rfl rfl (fun _ => ?_) | refine OD.storeW 0 rfl rfl rfl rfl (by first | rfl | exact net_ok _) rfl rfl rfl ?_ | refine OD.indexAddr rfl rfl rfl rfl ?_ | refine OD.call rfl rfl rfl h73.eq u73 (fun _ => rfl) ?_ | refine OD.call rfl rfl rfl h72.eq (use72 h72 u5) (fun _ => rfl) ?_ | refine OD.call rfl rfl rfl h72.eq (use72 h72 u6) (fun _ => rfl) ?_) | refine OS.nil ?_ | refine OS.skip rfl rfl rfl ?_ | refine WS.seq ?_ | refine QS.seqN ?_ | refine WS.region ?_ | refine WS.condT rfl ?_ | refine WS.skip ?_ | refine WS.ret ?_ | refine QS.seqR ?_ | refine WS.drawC rfl rfl rfl ?_ | refine QS.rangeR ?_ | refine WS.condN rfl (fun _ => ?_) (fun _ => ?_) | ((fail_if_success (refine OS.do rfl ?_)); first | refine OS.splitN rfl rfl rfl (fun _ => ?_) (fun _ => ?_)))
    all_goals try (refine QS.retR (by rfl) fun _ => ?_; rw [valid_no fun v => not_false_true v.gates (gatesOk_bad hi (by rw [← hw]; first | exact and_f1 (by assumption) | exact and_f2 (by assumption)))]; rfl)
    exact QS.rangeX (()) (by (try dsimp only) <;> exact (by rw [gatesOk_take hi, hg, ← hw]; exact and_t rfl (and_t (by assumption) (by assumption))))
  rintro _ hg
  try dsimp only at hg
  rw [List.take_of_length_le (Nat.le_refl _)] at hg
  dsimp only [RSt.at, List.cons_append, List.nil_append]
  repeat' (first | (refine OS.do rfl ?_; first | refine OD.loadP 0 rfl rfl rfl rfl rfl rfl ?_ | refine OD.auto rfl rfl ?_ | refine OD.len rfl rfl (fun _ => lenTy_av rfl rfl) ?_ | refine OD.call rfl rfl rfl h73.eq u73 (fun _ => rfl) ?_) | refine OS.nil ?_ | refine WS.seq ?_ | refine QS.seqN ?_ | refine WS.region ?_ | refine WS.block ?_ | refine WS.drawC rfl rfl rfl ?_)
  have hw : IntKind.i64.wrap (n.first + (n.gates.xs.length : Int)) = n.nodes := wrap64 (by omega) (by omega)
  rw [hw]
  refine WS.rangeX (A := Unit) (n := n.regs.xs.length) ⟨112, _, fun _ => [], fun _ => [(b1, .row 4 [netAV n])], fun _ => [], fun i _ => ((n.regs.xs.take i).all fun r => litOk r.next n.nodes) = true⟩ (()) [1, 11, 110, 111] (by simp) ?_ ?_
  · rintro i _ hi hx
    try dsimp only at hx
    have u5 := g2 _ (List.getElem_mem hi)
    dsimp only [RSt.at, List.cons_append, List.nil_append]
    repeat' (first | (refine OS.do rfl ?_; first | refine OD.loadP 0 rfl rfl rfl rfl rfl rfl ?_ | refine OD.auto rfl rfl ?_ | refine OD.indexAddr rfl rfl rfl (indexAddrA_nat rfl rfl rfl rfl (by first | assumption | exact List.getElem?_eq_getElem (by omega))) ?_ | refine OD.alloc rfl rfl rfl rfl (fun _ => ?_) | refine OD.storeW 0 rfl rfl rfl rfl (by first | rfl | exact net_ok _) rfl rfl rfl ?_ | refine OD.call rfl rfl rfl h72.eq (use72 h72 u5) (fun _ => rfl) ?_) | refine OS.nil ?_ | refine WS.seq ?_ | refine QS.seqN ?_ | refine WS.region ?_ | refine WS.skip ?_ | refine WS.ret ?_ | refine QS.seqR ?_ | refine QS.rangeR ?_ | refine WS.condN rfl (fun _ => ?_) (fun _ => ?_))
    all_goals try (refine QS.retR (by rfl) fun _ => ?_; rw [valid_no fun v => not_false_true (all_get v.nexts hi) (by assumption)]; rfl)
    exact QS.rangeX (()) (by (try dsimp only) <;> exact (all_take_succ hi hx (by assumption)))
  rintro _ hx
  try dsimp only at hx
  rw [List.take_of_length_le (Nat.le_refl _)] at hx
  dsimp only [RSt.at, List.cons_append, List.nil_append]
  repeat' (first | (refine OS.do rfl ?_; first | refine OD.loadP 0 rfl rfl rfl rfl rfl rfl ?_ | refine OD.auto rfl rfl ?_ | refine OD.len rfl rfl (fun _ => lenTy_av rfl rfl) ?_) | refine OS.nil ?_ | refine WS.seq ?_ | refine QS.seqN ?_ | refine WS.region ?_ | refine WS.block ?_)
  refine WS.rangeX (A := Unit) (n := n.outs.xs.length) ⟨125, _, fun _ => [], fun _ => [], fun _ => [], fun i _ => ((n.outs.xs.take i).all fun r => litOk r.lit n.nodes) = true⟩ (()) [11, 123, 124] (by simp) ?_ ?_
  · rintro i _ hi hy
    try dsimp only at hy
    have u5 := g3 _ (List.getElem_mem hi)
    dsimp only [RSt.at, List.cons_append, List.nil_append]
    repeat' (first | (refine OS.do rfl ?_; first | refine OD.loadP 0 rfl rfl rfl rfl rfl rfl ?_ | refine OD.auto rfl rfl ?_ | refine OD.indexAddr rfl rfl rfl (indexAddrA_nat rfl rfl rfl rfl (by first | assumption | exact List.getElem?_eq_getElem (by omega))) ?_ | refine OD.alloc rfl rfl rfl rfl (fun _ => ?_) | refine OD.storeW 0 rfl rfl rfl rfl (by first | rfl | exact net_ok _) rfl rfl rfl ?_ | refine OD.call rfl rfl rfl h72.eq (use72 h72 u5) (fun _ => rfl) ?_) | refine OS.nil ?_ | refine WS.seq ?_ | refine QS.seqN ?_ | refine WS.region ?_ | refine WS.skip ?_ | refine WS.ret ?_ | refine QS.seqR ?_ | refine QS.rangeR ?_ | refine WS.condN rfl (fun _ => ?_) (fun _ => ?_))
    all_goals try (refine QS.retR (by rfl) fun _ => ?_; rw [valid_no fun v => not_false_true (all_get v.lits hi) (by assumption)]; rfl)
    exact QS.rangeX (()) (by (try dsimp only) <;> exact (all_take_succ hi hy (by assumption)))
  rintro _ hy
  try dsimp only at hy
  rw [List.take_of_length_le (Nat.le_refl _)] at hy
  dsimp only [RSt.at, List.cons_append, List.nil_append]
  repeat' (first | (refine OS.do rfl ?_; first | refine OD.auto rfl rfl ?_) | refine OS.nil ?_ | refine WS.seq ?_ | refine QS.seqN ?_ | refine WS.region ?_ | refine WS.ret ?_)
  refine QS.retR (by rfl) fun _ => ?_
  rw [validM_iff.2 ⟨by omega, hI, by rw [← ha]; exact hR, by rw [← hc]; exact hO, hg, hb, hx, hy⟩]; rfl
end
end Go.OptEnv

namespace Go.OptEnv
open Go Go.Proofs Go.Abs Go.RowKit Go.NetM
set_option maxRecDepth 10000
attribute [local irreducible] WS QS OS OD Abs.Sub SubO SubK CW GSl.av accA
def Rel31 : Rel := RelF FitsN (fun n => [netAV n]) fun n => .bool (validM n)
theorem litOk_no {l k : Int} (h : l < 0 ∨ 2 * k ≤ l) : litOk l k = false := decide_eq_false (by omega)
theorem litOk_yes {l k : Int} (h : 0 ≤ l ∧ l < 2 * k) : litOk l k = true := decide_eq_true h
theorem gate_no {a b k : Int} (h : (if b < a then b else a) < 0 ∨ (if b > a then b else a) ≥ 2 * k) : (litOk a k && litOk b k) = false := by
  apply Bool.eq_false_iff.2
  intro hc
  simp only [litOk, Bool.and_eq_true, decide_eq_true_eq] at hc
  split at h <;> split at h <;> omega
theorem gate_yes {a b k : Int} (h : ¬ (if b < a then b else a) < 0) (h2 : ¬ (if b > a then b else a) ≥ 2 * k) : (litOk a k && litOk b k) = true := by
  simp only [litOk, Bool.and_eq_true, decide_eq_true_eq]
  split at h <;> split at h2 <;> omega
section
variable {pr : Prims}
theorem con31 (h1 : pr 31 = none) (h70 : Has pr 70 Rel70) (h71 : Has pr 71 Rel71) (h72 : Has pr 72 Rel72) (h73 : Has pr 73 Rel73) : Con2 (En pr) 31 Rel31 := con_eq (fun d => by simp [AV.freeL, net_free]) (fun _ => ⟨rfl, rfl⟩) fun d hd st => run31 h1 h70 h71 h72 h73 d hd st
theorem use102 (h : Has pr 102 Rel102) {l : GSl ByteArray} (hl : l.xs.length ≤ 140737488355328) (hn : ∀ x ∈ l.xs, x.size ≤ 140737488355328) (st : St) : primOf Rel102 [l.av 1 strAV, .fn 103 [] []] st = some (.bool (namesM l.xs), st) := by
  have := h.use (args := [l.av 1 strAV, .fn 103 [] []]) ⟨l, ⟨hl, hn⟩, by simp [AV.plainL, plain_av str_plain, AV.plain], rfl⟩ st
  simpa using this
theorem use104 (h : Has pr 104 Rel104) {l : GSl GReg} (hl : l.xs.length ≤ 140737488355328) (hn : ∀ x ∈ l.xs, x.name.size ≤ 140737488355328) (st : St) : primOf Rel104 [l.av 3 regAV, .fn 105 [] []] st = some (.bool (namesM (l.xs.map (·.name))), st) :=
  h.use (args := [l.av 3 regAV, .fn 105 [] []]) ⟨l, ⟨hl, hn⟩, by simp [AV.plainL, plain_av reg_plain, AV.plain], rfl⟩ st
theorem use106 (h : Has pr 106 Rel106) {l : GSl GPin} (hl : l.xs.length ≤ 140737488355328) (hn : ∀ x ∈ l.xs, x.name.size ≤ 140737488355328) (st : St) : primOf Rel106 [l.av 2 pinAV, .fn 107 [] []] st = some (.bool (namesM (l.xs.map (·.name))), st) :=
  h.use (args := [l.av 2 pinAV, .fn 107 [] []]) ⟨l, ⟨hl, hn⟩, by simp [AV.plainL, plain_av pin_plain, AV.plain], rfl⟩ st
set_option maxHeartbeats 1000000 in
theorem run57 (h1 : pr 57 = none) (h102 : Has pr 102 Rel102) (h104 : Has pr 104 Rel104) (h106 : Has pr 106 Rel106) (n : GNet) (hn : FitsN n) (st : St) : CW (En pr) 57 [netAV n] st fun r _ => r = .bool (validM n) := by
  have hn' := hn
  obtain ⟨f1, f2, f3, f4, m1, m2, m3, g1, g2, g3⟩ := hn'
  have u1 := use102 h102 f1 m1
  have u2 := use104 h104 f2 m2
  have u3 := use106 h106 f4 m3
  refine CW.start (N := 113) h1 rfl rfl ?_
  repeat' (first | (refine OS.do rfl ?_; first | refine OD.box rfl rfl rfl rfl (net_ok _) rfl (fun b1 => ?_) | refine OD.loadP 0 rfl rfl rfl rfl rfl rfl ?_ | refine OD.auto rfl rfl ?_ | refine OD.len rfl rfl (fun _ => lenTy_av rfl rfl) ?_ | refine OD.call rfl rfl rfl h102.eq u1 (fun _ => rfl) ?_ | refine OD.call rfl rfl rfl h104.eq u2 (fun _ => rfl) ?_ | refine OD.call rfl rfl rfl h106.eq u3 (fun _ => rfl) ?_) | refine OS.nil ?_ | refine OS.skip rfl rfl rfl ?_ | refine WS.seq ?_ | refine QS.seqN ?_ | refine WS.region ?_ | refine WS.condT rfl ?_ | refine WS.condD rfl (fun _ => ?_) (fun _ => ?_) | refine WS.skip ?_ | refine WS.block ?_ | refine WS.ret ?_ | refine QS.seqR ?_ | ((fail_if_success (refine OS.do rfl ?_)); first | refine OS.splitN rfl rfl rfl (fun _ => ?_) (fun _ => ?_)))
  all_goals try (refine QS.retR (by rfl) fun _ => ?_; rw [valid_no fun v => (by first | exact not_false_true v.ins (by assumption) | exact not_false_true v.regs (by assumption) | exact not_false_true v.outs (by assumption) | exact absurd v.gatesN (by omega))]; rfl)
  rename_i hI hR hO hG
  have hG : n.gates.xs.length ≤ 20000 := by omega
  have hfst : n.first ≤ 300000000000000 ∧ 1 ≤ n.first := by unfold GNet.first; omega
  have hw : IntKind.i64.wrap (IntKind.i64.wrap (1 + (n.ins.xs.length : Int)) + (n.regs.xs.length : Int)) = n.first := by
    rw [wrap64 (n := 1 + (n.ins.xs.length : Int)) (by omega) (by omega)]
    exact wrap64 (by omega) (by omega)
  rw [hw]
  refine WS.rangeX (A := Unit) (n := n.gates.xs.length) ⟨44, _, fun _ => [], fun _ => [(b1, .row 4 [netAV n])], fun _ => [], fun i _ => gatesOk n.first (n.gates.xs.take i) = true⟩ (()) [1, 3, 42, 43] (rfl) ?_ ?_
  · rintro i _ hi hg
    try dsimp only at hg
    have hw1 : IntKind.i64.wrap (n.first + (i : Int)) = n.first + i := wrap64 (by omega) (by omega)
    have hw2 : IntKind.i64.wrap (2 * IntKind.i64.wrap (n.first + (i : Int))) = 2 * (n.first + i) := by rw [hw1]; exact wrap64 (by omega) (by omega)
    dsimp only [RSt.at, List.cons_append, List.nil_append]
    repeat' (first | (refine OS.do rfl ?_; first | refine OD.loadP 0 rfl rfl rfl rfl rfl rfl ?_ | refine OD.auto rfl rfl ?_ | refine OD.indexAddr rfl rfl rfl (indexAddrA_nat rfl rfl rfl rfl (by first | assumption | exact List.getElem?_eq_getElem (by omega))) ?_ | refine OD.max rfl rfl rfl ?_ | refine OD.min rfl rfl rfl ?_ | refine OD.alloc rfl rfl rfl rfl (fun _ => ?_) | refine OD.storeW 0 rfl rfl rfl rfl (by first | rfl | exact net_ok _) rfl rfl rfl ?_ | refine OD.indexAddr rfl rfl rfl rfl ?_) | refine OS.nil ?_ | refine OS.skip rfl rfl rfl ?_ | refine WS.seq ?_ | refine QS.seqN ?_ | refine WS.region ?_ | refine WS.condT rfl ?_ | refine WS.condD rfl (fun _ => ?_) (fun _ => ?_) | refine WS.skip ?_ | refine WS.ret ?_ | refine QS.seqR ?_ | refine QS.rangeR ?_ | ((fail_if_success (refine OS.do rfl ?_)); first | refine OS.splitD rfl rfl rfl (fun _ => ?_) (fun _ => ?_)))
    · refine QS.retR (by rfl) fun _ => ?_
      rw [valid_no fun v => not_false_true v.gates (gatesOk_bad hi (gate_no (.inl (by assumption))))]; rfl
    · rename_i hc
      rw [hw2] at hc
      refine QS.retR (by rfl) fun _ => ?_
      rw [valid_no fun v => not_false_true v.gates (gatesOk_bad hi (gate_no (.inr hc)))]; rfl
    · rename_i hc1 hc
      rw [hw2] at hc
      exact QS.rangeX (()) (by (try dsimp only) <;> exact (by rw [gatesOk_take hi, hg]; exact and_t rfl (gate_yes hc1 hc)))
  rintro _ hg
  try dsimp only at hg
  rw [List.take_of_length_le (Nat.le_refl _)] at hg
  dsimp only [RSt.at, List.cons_append, List.nil_append]
  repeat' (first | (refine OS.do rfl ?_; first | refine OD.loadP 0 rfl rfl rfl rfl rfl rfl ?_ | refine OD.auto rfl rfl ?_ | refine OD.len rfl rfl (fun _ => lenTy_av rfl rfl) ?_) | refine OS.nil ?_ | refine WS.seq ?_ | refine QS.seqN ?_ | refine WS.region ?_ | refine WS.block ?_)
  have hw3 : IntKind.i64.wrap (2 * IntKind.i64.wrap (n.first + (n.gates.xs.length : Int))) = 2 * n.nodes := by
    rw [wrap64 (n := n.first + (n.gates.xs.length : Int)) (by omega) (by omega)]
    exact wrap64 (by omega) (by omega)
  rw [hw3]
  refine WS.rangeX (A := Unit) (n := n.regs.xs.length) ⟨77, _, fun _ => [], fun _ => [(b1, .row 4 [netAV n])], fun _ => [], fun i _ => ((n.regs.xs.take i).all fun r => decide (r.init.toNat ≤ 2)) = true ∧ ((n.regs.xs.take i).all fun r => litOk r.next n.nodes) = true⟩ (()) [1, 6, 75, 76] (⟨by simp, by simp⟩) ?_ ?_
  · rintro i _ hi ⟨hb, hx⟩
    try dsimp only at hb hx
    dsimp only [RSt.at, List.cons_append, List.nil_append]
    repeat' (first | (refine OS.do rfl ?_; first | refine OD.loadP 0 rfl rfl rfl rfl rfl rfl ?_ | refine OD.auto rfl rfl ?_ | refine OD.indexAddr rfl rfl rfl (indexAddrA_nat rfl rfl rfl rfl (by first | assumption | exact List.getElem?_eq_getElem (by omega))) ?_ | refine OD.alloc rfl rfl rfl rfl (fun _ => ?_) | refine OD.storeW 0 rfl rfl rfl rfl (by first | rfl | exact net_ok _) rfl rfl rfl ?_) | refine OS.nil ?_ | refine OS.skip rfl rfl rfl ?_ | refine WS.seq ?_ | refine QS.seqN ?_ | refine WS.region ?_ | refine WS.condT rfl ?_ | refine WS.condD rfl (fun _ => ?_) (fun _ => ?_) | refine WS.skip ?_ | refine WS.ret ?_ | refine QS.seqR ?_ | refine QS.rangeR ?_ | ((fail_if_success (refine OS.do rfl ?_)); first | refine OS.splitD rfl rfl rfl (fun _ => ?_) (fun _ => ?_)))
    all_goals try (refine QS.retR (by rfl) fun _ => ?_; rw [valid_no fun v => (by first | exact absurd (of_decide_eq_true (all_get v.inits hi)) (by omega) | exact not_false_true (all_get v.nexts hi) (litOk_no (by omega)))]; rfl)
    exact QS.rangeX (()) (by (try dsimp only) <;> exact (⟨all_take_succ hi hb (decide_eq_true (by omega)), all_take_succ hi hx (litOk_yes (by omega))⟩))
  rintro _ ⟨hb, hx⟩
  try dsimp only at hb hx
  rw [List.take_of_length_le (Nat.le_refl _)] at hb hx
  dsimp only [RSt.at, List.cons_append, List.nil_append]
  repeat' (first | (refine OS.do rfl ?_; first | refine OD.loadP 0 rfl rfl rfl rfl rfl rfl ?_ | refine OD.auto rfl rfl ?_ | refine OD.len rfl rfl (fun _ => lenTy_av rfl rfl) ?_) | refine OS.nil ?_ | refine WS.seq ?_ | refine QS.seqN ?_ | refine WS.region ?_ | refine WS.block ?_)
  refine WS.rangeX (A := Unit) (n := n.outs.xs.length) ⟨99, _, fun _ => [], fun _ => [], fun _ => [], fun i _ => ((n.outs.xs.take i).all fun r => litOk r.lit n.nodes) = true⟩ (()) [6, 97, 98] (by simp) ?_ ?_
  · rintro i _ hi hy
    try dsimp only at hy
    dsimp only [RSt.at, List.cons_append, List.nil_append]
    repeat' (first | (refine OS.do rfl ?_; first | refine OD.loadP 0 rfl rfl rfl rfl rfl rfl ?_ | refine OD.auto rfl rfl ?_ | refine OD.indexAddr rfl rfl rfl (indexAddrA_nat rfl rfl rfl rfl (by first | assumption | exact List.getElem?_eq_getElem (by omega))) ?_ | refine OD.alloc rfl rfl rfl rfl (fun _ => ?_) | refine OD.storeW 0 rfl rfl rfl rfl (by first | rfl | exact net_ok _) rfl rfl rfl ?_) | refine OS.nil ?_ | refine OS.skip rfl rfl rfl ?_ | refine WS.seq ?_ | refine QS.seqN ?_ | refine WS.region ?_ | refine WS.condT rfl ?_ | refine WS.condD rfl (fun _ => ?_) (fun _ => ?_) | refine WS.skip ?_ | refine WS.ret ?_ | refine QS.seqR ?_ | refine QS.rangeR ?_ | ((fail_if_success (refine OS.do rfl ?_)); first | refine OS.splitD rfl rfl rfl (fun _ => ?_) (fun _ => ?_)))
    all_goals try (refine QS.retR (by rfl) fun _ => ?_; rw [valid_no fun v => not_false_true (all_get v.lits hi) (litOk_no (by omega))]; rfl)
    exact QS.rangeX (()) (by (try dsimp only) <;> exact (all_take_succ hi hy (litOk_yes (by omega))))
  rintro _ hy
  try dsimp only at hy
  rw [List.take_of_length_le (Nat.le_refl _)] at hy
  dsimp only [RSt.at, List.cons_append, List.nil_append]
  repeat' (first | (refine OS.do rfl ?_; first | refine OD.auto rfl rfl ?_) | refine OS.nil ?_ | refine WS.seq ?_ | refine QS.seqN ?_ | refine WS.region ?_ | refine WS.ret ?_)
  refine QS.retR (by rfl) fun _ => ?_
  rw [validM_iff.2 ⟨hG, hI, hR, hO, hg, hb, hx, hy⟩]; rfl
end
end Go.OptEnv

namespace Go.Abs
open Go.RowKit
def growA (b : Bool) (t sz : Nat) (xs : List AV) : AV := .vs sz (bif b then .tok t else .full) xs
def GSl.some {α : Type} (xs : List α) : GSl α := ⟨none, xs, fun h => absurd rfl h⟩
theorem plain_grow {α : Type} {f : α → AV} {sz t : Nat} {b : Bool} {xs : List α} (hf : ∀ a, AV.plain (f a) = f a) : AV.plain (growA b t sz (xs.map f)) = (GSl.some xs).av sz f := by
  have h : AV.plainL (xs.map f) = xs.map f := plainL_map hf xs
  simp only [growA, AV.plain, h]
  rfl
theorem free_grow {α : Type} {f : α → AV} {sz t : Nat} {b : Bool} {xs : List α} (hf : ∀ a, AV.free (f a) = true) : AV.free (growA b t sz (xs.map f)) = true := by
  simp only [growA, AV.free]
  exact freeL_map hf xs
theorem free_acc {α : Type} {f : α → AV} {sz t : Nat} {xs : List α} (hf : ∀ a, AV.free (f a) = true) : AV.free (accA t sz (xs.map f)) = true := by
  cases xs with
  | nil => rfl
  | cons x xs => simp only [List.map_cons, accA, AV.free]; exact freeL_map hf (x :: xs)
theorem set_same {α : Type} {K : List α} {kk : Nat} {p : α} (hK : K[kk]? = some p) : K.set kk p = K := by
  apply List.ext_getElem?
  intro j
  rw [List.getElem?_set]
  by_cases e : kk = j
  · subst e; rw [if_pos rfl, if_pos (List.getElem?_eq_some_iff.1 hK).1, hK]
  · rw [if_neg e]
section
variable {E : Env} {fid N : Nat} {l : List (Nat × AV)} {L : List (Nat × AObj)} {K : List (Nat × Bool)} {Q : AExit → TM → St → Prop}
variable {c : Bool} {pol : Nat → Nat} {ops : Array Oper} {o : Oper} {r : List Oper} {i : Nat} {d : Nat} {ty : TypeId} {pos : String} {after : Array Edge} {guard : Option (Nat × Bool)}
theorem OS.newK (h : OS E c pol ops r i N l L ((0, false) :: K) Q) : OS E c pol ops r i N l L K Q := fun pre tm st hF hp => h pre tm st (hF.sub (fun _ _ h => h) (.refl _) (.new (.refl _))) hp
theorem WS.newK {a : Code} (h : WS E fid N a l L ((0, false) :: K) Q) : WS E fid N a l L K Q := fun tm st hF => h tm st (hF.sub (fun _ _ h => h) (.refl _) (.new (.refl _)))
theorem appendOp_key {ts tx e : TypeId} {sz' : Nat} {s a : AV} {ys : List AV} {tys tyx et : Ty} {ob : Bool} (h1 : E.ty ts = some tys) (h2 : E.ty tx = some tyx) (h3 : tys.d = .slice e) (h4 : E.ty e = some et) (h5 : Nat.blt 0 et.size = true)
    (h7 : (tyx.d = .string ∧ isStrA a = true) ∨ ((∃ e', tyx.d = .slice e') ∧ isStrA a = false)) (st : St) (h8 : elemsA st a = some (sz', ys)) (h9 : okElems et ys = true) (h10 : (ys.isEmpty || Nat.beq sz' et.size) = true) :
    appendOpA E ob st ts tx s a = appendA ob e et st s ys := by
  unfold appendOpA
  rw [h1, h2]
  dsimp only
  rw [h3]
  dsimp only
  rw [h4]
  dsimp only
  rw [if_pos (Eq.mp Nat.blt_eq h5)]
  have h10' : (ys.isEmpty || sz' == et.size) = true := by
    cases hy : ys.isEmpty with
    | true => rfl
    | false =>
      rw [hy] at h10
      simp only [Bool.false_or] at h10
      simp [Nat.eq_of_beq_eq_true h10]
  rcases h7 with ⟨h7, h7'⟩ | ⟨⟨e', h7⟩, h7'⟩
  · rw [h7]; dsimp only; rw [h8]; dsimp only; rw [if_pos ⟨h9, h10', by simp [h7']⟩]
  · rw [h7]; dsimp only; rw [h8]; dsimp only; rw [if_pos ⟨h9, h10', by simp [h7']⟩]
theorem OD.appendG (kk : Nat) {ts tx e : TypeId} {s x : Operand} {t sz sz' : Nat} {b : Bool} {xs ys : List AV} {a : AV} {tys tyx et : Ty} (hn : Nat.blt d N = true) (hpol : Nat.beq (pol i) 1 = false) (hs : evL l s = some (growA b t sz xs)) (hx : evL l x = some a) (hK : K[kk]? = some (t, b))
    (h1 : E.ty ts = some tys) (h2 : E.ty tx = some tyx) (h3 : tys.d = .slice e) (h4 : E.ty e = some et) (h5 : Nat.blt 0 et.size = true) (h6 : sz = et.size) (h7 : (tyx.d = .string ∧ isStrA a = true) ∨ ((∃ e', tyx.d = .slice e') ∧ isStrA a = false)) (h8 : ∀ st, elemsA st a = some (sz', ys)) (h9 : okElems et ys = true) (h10 : (ys.isEmpty || Nat.beq sz' et.size) = true)
    (hroom : roomA et (xs.length + ys.length) = true) (k : ∀ t', OS E false pol ops r (i + 1) N ((d, growA (b || !ys.isEmpty) t' sz (xs ++ ys)) :: l) L (K.set kk (t', b || !ys.isEmpty)) Q) :
    OD E false pol ops { dst := some d, op := .call { callee := .builtin .append, args := #[s, x], argTypes := #[ts, tx] }, type := ty, pos := pos, after := after, guard := guard } r i N l L K Q := by
  subst h6
  refine .loud rfl rfl (fun _ h => by cases h) fun tm st hF => ?_
  have h0 : Abs.loud E noCall (pol i) tm st { dst := some d, op := .call { callee := .builtin .append, args := #[s, x], argTypes := #[ts, tx] }, type := ty, pos := pos, after := after, guard := guard } = appendOpA E (pol i == 1) st ts tx (evalO tm s) (evalO tm x) := rfl
  have hp : (pol i == 1) = false := by
    have := Nat.ne_of_beq_eq_false hpol
    simpa using this
  rw [h0, hF.ev hs, hF.ev hx, hp, appendOp_key h1 h2 h3 h4 h5 h7 st (h8 st) h9 h10]
  cases b with
  | true =>
    refine ⟨.vs et.size (.tok st.next) (xs ++ ys), tokOnA st t e, _, L, _, ?_, ?_, k st.next⟩
    · simp only [growA, cond_true, appendA]
      rw [if_pos ⟨trivial, (hF.tok kk t hK).1, hroom⟩]
    · have hF' : Fa N l L (K.set kk (st.next, true)) tm (tokOnA st t e) := by
        unfold tokOnA
        split
        · split
          · exact (hF.tokDrop hK).ttag _ _
          · exact hF.tokDrop hK
        · exact hF.tokDrop hK
      exact hF'.put hn _
  | false =>
    cases ys with
    | nil =>
      refine ⟨growA false t et.size xs, st, _, L, _, ?_, ?_, k t⟩
      · simp only [growA, cond_false, appendA]
        rw [if_pos ⟨trivial, hroom⟩]
        simp
      · have : K.set kk (t, (false || !([] : List AV).isEmpty)) = K := set_same (by simpa using hK)
        rw [this, List.append_nil]
        exact hF.put hn _
    | cons y ys =>
      refine ⟨.vs et.size (.tok st.next) (xs ++ y :: ys), st.newTok.ttag st.next e, _, L, _, ?_, ?_, k st.next⟩
      · simp only [growA, cond_false, appendA]
        rw [if_pos ⟨trivial, hroom⟩]
        simp
      · exact ((hF.tokNew hK).ttag _ _).put hn _
theorem OD.makeSlice0 {t e : TypeId} {y : Operand} {ty1 et : Ty} {c : Int} (hn : Nat.blt d N = true) (hy : evL l y = some (.int .i64 c)) (hc0 : 0 ≤ c) (ht : E.ty t = some ty1) (hd : ty1.d = .slice e) (he : E.ty e = some et) (hs : Nat.blt 0 et.size = true) (hroom : roomA et c.toNat = true)
    (k : ∀ t', OS E false pol ops r (i + 1) N ((d, growA true t' et.size []) :: l) L ((t', true) :: K) Q) :
    OD E false pol ops { dst := some d, op := .makeSlice t (.const (.int .i64 0)) y, type := ty, pos := pos, after := after, guard := guard } r i N l L K Q := by
  refine .loud rfl rfl (fun _ h => by cases h) fun tm st hF => ⟨growA true st.next et.size [], st.newTok, _, L, (st.next, true) :: K, ?_, ?_, k st.next⟩
  · have h0 : Abs.loud E noCall (pol i) tm st { dst := some d, op := .makeSlice t (.const (.int .i64 0)) y, type := ty, pos := pos, after := after, guard := guard } = makeSliceA E st true t (.int .i64 0) (evalO tm y) := rfl
    rw [h0, hF.ev hy]
    unfold makeSliceA
    rw [ht]
    dsimp only
    rw [hd]
    dsimp only
    rw [he]
    dsimp only
    rw [if_pos ⟨Eq.mp Nat.blt_eq hs, by omega, hc0, hroom⟩]
    rfl
  · have hF1 : Fa N l L ((0, false) :: K) tm st := hF.sub (fun _ _ h => h) (.refl _) (.new (.refl _))
    have := hF1.tokNew (kk := 0) rfl
    exact Fa.put (by simpa using this) hn _
theorem lenTy_grow {α : Type} {f : α → AV} {sz : Nat} {t e : TypeId} {y : Ty} {st : St} {tk : Nat} {b : Bool} {xs : List α} (h1 : E.ty t = some y) (h2 : y.d = .slice e) : lenTy E st t (growA b tk sz (xs.map f)) = some (.int .i64 (xs.length : Int)) := by
  unfold lenTy
  rw [h1]
  dsimp only
  rw [h2]
  simp [growA, lenT]
theorem indexAddrA_grow {α : Type} {f : α → AV} {sz : Nat} {t e : TypeId} {y ey : Ty} {kd : IntKind} {tk : Nat} {b : Bool} {xs : List α} {k : Int} {a : α} (h1 : E.ty t = some y) (h2 : y.d = .slice e) (h3 : E.ty e = some ey) (h4 : ey.size = sz) (h0 : 0 ≤ k) (ha : xs[k.toNat]? = some a) :
    indexAddrA E t (growA b tk sz (xs.map f)) (.int kd k) = some (.ip (f a).cells) := by
  unfold indexAddrA
  rw [h1]
  dsimp only
  rw [h2]
  dsimp only
  rw [h3]
  simp only [growA, elemAddrA, h4]
  rw [if_pos ⟨trivial, h0⟩, List.getElem?_map, ha]
  rfl
def szOf {α : Type} (s : GSl α) (sz : Nat) : Nat := match s.nil with | none => sz | some _ => 0
theorem elemsA_gsl {α : Type} {f : α → AV} {s : GSl α} {sz : Nat} (st : St) : elemsA st (s.av sz f) = some (szOf s sz, s.xs.map f) := by
  unfold GSl.av szOf
  match hn : s.nil with
  | some true => rw [s.h (by rw [hn]; simp)]; rfl
  | some false => rw [s.h (by rw [hn]; simp)]; rfl
  | none => rfl
theorem szOf_ok {α : Type} {f : α → AV} {s : GSl α} {sz : Nat} : ((s.xs.map f).isEmpty || Nat.beq (szOf s sz) sz) = true := by
  unfold szOf
  match hn : s.nil with
  | some true => rw [s.h (by rw [hn]; simp)]; rfl
  | some false => rw [s.h (by rw [hn]; simp)]; rfl
  | none => simp [Nat.beq_refl]
theorem isStr_gsl {α : Type} {sz : Nat} {f : α → AV} {s : GSl α} : isStrA (s.av sz f) = false := by
  rcases s.cases f sz with ⟨_, h | h⟩ | h <;> rw [h] <;> rfl
theorem okElems_map {α : Type} {et : Ty} {f : α → AV} {n : Nat} (h : Nat.beq n et.size = true) (hf : ∀ a, (f a).ok = true ∧ (f a).cells.length = n) (xs : List α) : okElems et (xs.map f) = true := by
  have := Nat.eq_of_beq_eq_true h
  simp only [okElems, List.all_map, List.all_eq_true, Function.comp]
  intro a _
  simp [hf a, this]
theorem OD.appendGS (kk : Nat) {α : Type} {f : α → AV} {s' : GSl α} {ts tx e : TypeId} {s x : Operand} {t sz : Nat} {b : Bool} {ys : List α} {tys tyx et : Ty} (hn : Nat.blt d N = true) (hpol : Nat.beq (pol i) 1 = false) (hs : evL l s = some (growA b t sz (ys.map f))) (hx : evL l x = some (s'.av sz f)) (hK : K[kk]? = some (t, b))
    (h1 : E.ty ts = some tys) (h2 : E.ty tx = some tyx) (h3 : tys.d = .slice e) (h4 : E.ty e = some et) (h5 : Nat.blt 0 et.size = true) (h6 : sz = et.size) (h7 : ∃ e', tyx.d = .slice e') (hf : ∀ a, (f a).ok = true ∧ (f a).cells.length = sz)
    (hroom : roomA et (ys.length + s'.xs.length) = true) (k : ∀ t', OS E false pol ops r (i + 1) N ((d, growA (b || !s'.xs.isEmpty) t' sz ((ys ++ s'.xs).map f)) :: l) L (K.set kk (t', b || !s'.xs.isEmpty)) Q) :
    OD E false pol ops { dst := some d, op := .call { callee := .builtin .append, args := #[s, x], argTypes := #[ts, tx] }, type := ty, pos := pos, after := after, guard := guard } r i N l L K Q := by
  have hem : (s'.xs.map f).isEmpty = s'.xs.isEmpty := by cases s'.xs <;> rfl
  refine OD.appendG kk hn hpol hs hx hK h1 h2 h3 h4 h5 h6 (.inr ⟨h7, isStr_gsl⟩) (fun st => elemsA_gsl st) (okElems_map (by rw [h6]; exact Nat.beq_refl _) hf _) (by rw [← h6]; exact szOf_ok) (by simpa using hroom) fun t' => ?_
  rw [hem, ← List.map_append]
  exact k t'
inductive ResO (E : Env) (l : List (Nat × AV)) (L : List (Nat × AObj)) : List ResultVar → List AV → Prop
  | nil : ResO E l L [] []
  | tmp {t : Nat} {v : AV} {rs : List ResultVar} {vs : List AV} (h : lk l t = some v) (k : ResO E l L rs vs) : ResO E l L (.tmp t :: rs) (v :: vs)
  | cell (kk : Nat) {a t b i off sz : Nat} {xs : List AV} {e v : AV} {rs : List ResultVar} {vs : List AV} (h : lk l a = some (.ptr b i off)) (hL : L[kk]? = some (b, .row sz xs)) (he : xs[i]? = some e) (ho : Nat.ble off e.cells.length = true) (hp : partA E t (e.cells.drop off) 0 = some v) (k : ResO E l L rs vs) : ResO E l L (.cell a t :: rs) (v :: vs)
theorem ResO.res {tm : TM} {st : St} (hF : Fa N l L K tm st) : ∀ {rs : List ResultVar} {vs : List AV}, ResO E l L rs vs → resL E tm st rs = some vs
  | _, _, .nil => rfl
  | _, _, .tmp h k => by simp only [resL, resA, hF.get _ _ h, k.res hF]
  | _, _, .cell kk h hL he ho hp k => by
    have h1 := hF.get _ _ h
    have h2 := (hF.obj kk _ _ hL).1
    have h3 := Nat.le_of_ble_eq_true ho
    simp only [resL, resA, h1, loadCells, h2, he]
    rw [if_pos h3]
    simp only [hp, k.res hF]
def tupOf : List AV → AV
  | [v] => v
  | vs => .tup vs
theorem QS.retO {rs : List ResultVar} {vs : List AV} {Q : AV → St → Prop} (h : ResO E l L rs vs) (hq : ∀ st, SFa L K st → Q (tupOf vs) st) : QS N .ret l L K (retQ E rs Q) := fun tm st hF => by
  refine retQ.ret (v := tupOf vs) ?_ (hq st hF.s)
  unfold resultsA
  rw [h.res hF]
  match vs with
  | [] => rfl
  | [_] => rfl
  | _ :: _ :: _ => rfl
theorem OD.storeG (kk : Nat) {t : TypeId} {x z : Operand} {y : Ty} {b j off sz : Nat} {xs cs : List AV} {v : AV} (hx : evL l x = some (.ptr b j off)) (hz : evL l z = some v) (ht : E.ty t = some y) (hL : L[kk]? = some (b, .row sz xs)) (hj : xs[j]? = some (.agg cs)) (hok : v.ok = true) (hc : v.cells.length = y.size) (ho : Nat.ble (off + v.cells.length) cs.length = true)
    (k : OS E false pol ops r (i + 1) N l (L.set kk (b, .row sz (xs.set j (.agg (cs.take off ++ v.cells ++ cs.drop (off + v.cells.length)))))) K Q) :
    OD E false pol ops { dst := none, op := .store t x z, type := ty, pos := pos, after := after, guard := guard } r i N l L K Q := by
  refine .loud rfl rfl (fun _ h => by cases h) fun tm st hF => ⟨.junk, st.put b (.row sz (xs.set j (.agg (cs.take off ++ v.cells ++ cs.drop (off + v.cells.length))))), _, _, _, ?_, hF.set hL _, k⟩
  have h0 : Abs.loud E noCall (pol i) tm st { dst := none, op := .store t x z, type := ty, pos := pos, after := after, guard := guard } = (match E.ty t with | some ty => if (evalO tm z).cells.length = ty.size then (storeA st (evalO tm x) (evalO tm z)).map fun s => (.junk, s) else none | none => none) := rfl
  have h3 := Nat.le_of_ble_eq_true ho
  rw [h0, ht, hF.ev hx, hF.ev hz]
  dsimp only
  rw [if_pos hc]
  simp only [storeA, (hF.obj kk b _ hL).1, hj]
  rw [if_pos (show (v.ok && decide (off + v.cells.length ≤ (AV.agg cs).cells.length)) = true by rw [hok, Bool.true_and]; exact decide_eq_true h3)]
  rfl
end
end Go.Abs

namespace Go.Abs
open Go.RowKit
section
variable {E : Env} {fid N : Nat} {l : List (Nat × AV)} {L X : List (Nat × AObj)} {K : List (Nat × Bool)} {Q : AExit → TM → St → Prop}
variable {c : Bool} {pol : Nat → Nat} {ops : Array Oper} {o : Oper} {r : List Oper} {i : Nat} {d : Nat} {ty : TypeId} {pos : String} {after : Array Edge} {guard : Option (Nat × Bool)}
def SegT (E : Env) (ops : Array Oper) (N : Nat) (L : List (Nat × AObj)) (K : List (Nat × Bool)) (pol : Nat → Nat) (r : List Oper) (i : Nat) (l : List (Nat × AV)) (X : List (Nat × AObj)) (k : List (Nat × AV) → List (Nat × AObj) → Prop) : Prop :=
  ∀ (tm : TM) (s0 : St) (pre : Pre), Fa N l (X ++ L) K tm s0 → (∀ b, pre = some b → hasAlloc ops = false ∧ b.2 = false) → ∃ n tr tm' s1 l' X', runOpsT E (callF E n) pre pol ops r i tm s0 = some (tr, tm', s1) ∧ Fa N l' (X' ++ L) K tm' s1 ∧ k l' X' ∧
    ∀ (k : Nat) (t : Tr) (o : Oper), tr[k]? = some t → r[k]? = some o → SFa L K t.was ∧ SFa L K t.now ∧ (t.did = true → isLoud o.op = false → ∀ s, SFa L K s → quiet E t.tm s o = some t.v)
theorem Fa.base {tm : TM} {st : St} (h : Fa N l (X ++ L) K tm st) : Fa N l L K tm st :=
  h.sub (fun _ _ h => h) ⟨fun k => X.length + k, fun k p hk => by show (X ++ L)[X.length + k]? = _; rw [List.getElem?_append_right (by omega), Nat.add_sub_cancel_left]; exact hk, fun _ _ _ _ h => by have h : X.length + _ = X.length + _ := h; omega⟩ (.refl _)
theorem SegT.nil {k : List (Nat × AV) → List (Nat × AObj) → Prop} (h : k l X) : SegT E ops N L K pol [] i l X k := fun tm s0 pre hF _ => ⟨0, [], tm, s0, l, X, rfl, hF, h, fun k t o ht => by simp at ht⟩
theorem SegT.quiet {k : List (Nat × AV) → List (Nat × AObj) → Prop} {v : AV} (hw : wantS ops l o = some true) (hd : o.dst = some d) (hn : Nat.blt d N = true) (hl : isLoud o.op = false) (hq : ∀ tm st, Fa N l L K tm st → Abs.quiet E tm st o = some v) (h : SegT E ops N L K pol r (i + 1) ((d, v) :: l) X k) : SegT E ops N L K pol (o :: r) i l X k := by
  intro tm s0 pre hF hp
  obtain ⟨n, tr, tm', s1, l', X', h1, h2, h3, h4⟩ := h (tm.put d v) s0 pre (hF.put hn v) hp
  refine ⟨n, ⟨tm, s0, s0, v, true⟩ :: tr, tm', s1, l', X', ?_, h2, h3, fun k t o' ht ho => ?_⟩
  · simp only [runOpsT]
    rw [hF.want hw]
    dsimp only
    rw [stepPre_quiet hl (hq tm s0 hF.base), hd]
    dsimp only [putO]
    rw [h1]
  · cases k with
    | zero =>
      simp only [List.getElem?_cons_zero, Option.some.injEq] at ht ho
      subst ht; subst ho
      exact ⟨hF.base.s, hF.base.s, fun _ _ s hs => hq tm s (hF.base.withS hs)⟩
    | succ k =>
      simp only [List.getElem?_cons_succ] at ht ho
      exact h4 k t o' ht ho
theorem SegT.skip {k : List (Nat × AV) → List (Nat × AObj) → Prop} (hw : wantS ops l o = some false) (hd : o.dst = some d) (hn : Nat.blt d N = true) (h : SegT E ops N L K pol r (i + 1) ((d, .tup []) :: l) X k) : SegT E ops N L K pol (o :: r) i l X k := by
  intro tm s0 pre hF hp
  obtain ⟨n, tr, tm', s1, l', X', h1, h2, h3, h4⟩ := h (tm.put d (.tup [])) s0 pre (hF.put hn _) hp
  refine ⟨n, ⟨tm, s0, s0, .tup [], false⟩ :: tr, tm', s1, l', X', ?_, h2, h3, fun k t o' ht ho => ?_⟩
  · simp only [runOpsT]
    rw [hF.want hw]
    dsimp only
    rw [hd]
    dsimp only [putO]
    rw [h1]
  · cases k with
    | zero =>
      simp only [List.getElem?_cons_zero, Option.some.injEq] at ht ho
      subst ht; subst ho
      exact ⟨hF.base.s, hF.base.s, fun h => by cases h⟩
    | succ k =>
      simp only [List.getElem?_cons_succ] at ht ho
      exact h4 k t o' ht ho
theorem SegT.loud {k : List (Nat × AV) → List (Nat × AObj) → Prop} (hw : wantS ops l o = some true) (hd : o.dst = some d) (hn : Nat.blt d N = true) (hl : isLoud o.op = true) (hf : isFnCall o.op = false) (hal : ∀ t, o.op ≠ .alloc t)
    (hq : ∀ tm st, Fa N l (X ++ L) K tm st → ∃ v st' X', Abs.loud E noCall (pol i) tm st o = some (v, st') ∧ Fa N l (X' ++ L) K tm st' ∧ SegT E ops N L K pol r (i + 1) ((d, v) :: l) X' k) : SegT E ops N L K pol (o :: r) i l X k := by
  intro tm s0 pre hF hp
  obtain ⟨v, st', X1, q1, q2, q3⟩ := hq tm s0 hF
  obtain ⟨n, tr, tm', s1, l', X', h1, h2, h3, h4⟩ := q3 (tm.put d v) st' pre (q2.put hn v) hp
  refine ⟨n, ⟨tm, s0, st', v, true⟩ :: tr, tm', s1, l', X', ?_, h2, h3, fun k t o' ht ho => ?_⟩
  · have hs' : stepPre E (callF E n) pre (pol i) i tm s0 o = some (v, st') := stepPre_loud (fun b hb => ⟨(hp b hb).2, hal⟩) hl hf q1
    simp only [runOpsT]
    rw [hF.want hw]
    dsimp only
    rw [hs', hd]
    dsimp only [putO]
    rw [h1]
  · cases k with
    | zero =>
      simp only [List.getElem?_cons_zero, Option.some.injEq] at ht ho
      subst ht; subst ho
      exact ⟨hF.base.s, q2.base.s, fun _ h => by rw [hl] at h; cases h⟩
    | succ k =>
      simp only [List.getElem?_cons_succ] at ht ho
      exact h4 k t o' ht ho
theorem SegT.auto {k : List (Nat × AV) → List (Nat × AObj) → Prop} {op : Op} {v : AV} (hw : wantS ops l { dst := some d, op := op, type := ty, pos := pos, after := after, guard := guard } = some true) (hn : Nat.blt d N = true) (hl : isLoud op = false) (h : quietS E l op = some v) (k1 : SegT E ops N L K pol r (i + 1) ((d, v) :: l) X k) : SegT E ops N L K pol ({ dst := some d, op := op, type := ty, pos := pos, after := after, guard := guard } :: r) i l X k :=
  .quiet hw rfl hn hl (fun _ _ hF => quietS_sound h hF) k1
theorem SegT.indexAddr {k : List (Nat × AV) → List (Nat × AObj) → Prop} {t : TypeId} {x y : Operand} {a b v : AV} (hw : wantS ops l { dst := some d, op := .indexAddr t x y, type := ty, pos := pos, after := after, guard := guard } = some true) (hn : Nat.blt d N = true) (hx : evL l x = some a) (hy : evL l y = some b) (h : indexAddrA E t a b = some v) (k1 : SegT E ops N L K pol r (i + 1) ((d, v) :: l) X k) :
    SegT E ops N L K pol ({ dst := some d, op := .indexAddr t x y, type := ty, pos := pos, after := after, guard := guard } :: r) i l X k :=
  .quiet hw rfl hn rfl (fun _ _ hF => quiet_indexAddr hx hy h hF) k1
theorem SegT.loadP {k : List (Nat × AV) → List (Nat × AObj) → Prop} (kk : Nat) {t : TypeId} {x : Operand} {b j off sz : Nat} {xs : List AV} {e v : AV} (hw : wantS ops l { dst := some d, op := .load t x, type := ty, pos := pos, after := after, guard := guard } = some true) (hn : Nat.blt d N = true) (hx : evL l x = some (.ptr b j off)) (hL : L[kk]? = some (b, .row sz xs)) (he : xs[j]? = some e) (ho : Nat.ble off e.cells.length = true)
    (hp : partA E t (e.cells.drop off) 0 = some v) (k1 : SegT E ops N L K pol r (i + 1) ((d, v) :: l) X k) : SegT E ops N L K pol ({ dst := some d, op := .load t x, type := ty, pos := pos, after := after, guard := guard } :: r) i l X k :=
  .quiet hw rfl hn rfl (fun _ _ hF => quiet_loadP kk hx hL he ho hp hF) k1
theorem SegT.len {k : List (Nat × AV) → List (Nat × AObj) → Prop} {x : Operand} {t : TypeId} {a v : AV} (hw : wantS ops l { dst := some d, op := .call { callee := .builtin .len, args := #[x], argTypes := #[t] }, type := ty, pos := pos, after := after, guard := guard } = some true) (hn : Nat.blt d N = true) (hx : evL l x = some a) (h : ∀ st, lenTy E st t a = some v) (k1 : SegT E ops N L K pol r (i + 1) ((d, v) :: l) X k) :
    SegT E ops N L K pol ({ dst := some d, op := .call { callee := .builtin .len, args := #[x], argTypes := #[t] }, type := ty, pos := pos, after := after, guard := guard } :: r) i l X k :=
  .quiet hw rfl hn rfl (fun tm st hF => by
    show lenTy E st t (evalO tm x) = some v
    rw [hF.ev hx]; exact h st) k1
theorem SegT.appendG {k : List (Nat × AV) → List (Nat × AObj) → Prop} {ts tx e : TypeId} {s x : Operand} {sz sz' : Nat} {xs ys : List AV} {a : AV} {tys tyx et : Ty} (hw : wantS ops l { dst := some d, op := .call { callee := .builtin .append, args := #[s, x], argTypes := #[ts, tx] }, type := ty, pos := pos, after := after, guard := guard } = some true) (hn : Nat.blt d N = true) (hpol : Nat.beq (pol i) 1 = false) (hs : evL l s = some (.vs sz .full xs)) (hx : evL l x = some a)
    (h1 : E.ty ts = some tys) (h2 : E.ty tx = some tyx) (h3 : tys.d = .slice e) (h4 : E.ty e = some et) (h5 : Nat.blt 0 et.size = true) (h6 : sz = et.size) (h7 : (tyx.d = .string ∧ isStrA a = true) ∨ ((∃ e', tyx.d = .slice e') ∧ isStrA a = false)) (h8 : ∀ st, elemsA st a = some (sz', ys)) (h9 : okElems et ys = true) (h10 : (ys.isEmpty || Nat.beq sz' et.size) = true)
    (hroom : roomA et (xs.length + ys.length) = true) (k1 : ∀ b t', SegT E ops N L K pol r (i + 1) ((d, growA b t' sz (xs ++ ys)) :: l) X k) :
    SegT E ops N L K pol ({ dst := some d, op := .call { callee := .builtin .append, args := #[s, x], argTypes := #[ts, tx] }, type := ty, pos := pos, after := after, guard := guard } :: r) i l X k := by
  subst h6
  refine .loud hw rfl hn rfl rfl (fun _ h => by cases h) fun tm st hF => ?_
  have h0 : Abs.loud E noCall (pol i) tm st { dst := some d, op := .call { callee := .builtin .append, args := #[s, x], argTypes := #[ts, tx] }, type := ty, pos := pos, after := after, guard := guard } = appendOpA E (pol i == 1) st ts tx (evalO tm s) (evalO tm x) := rfl
  have hp : (pol i == 1) = false := by
    have := Nat.ne_of_beq_eq_false hpol
    simpa using this
  rw [h0, hF.ev hs, hF.ev hx, hp, appendOp_key h1 h2 h3 h4 h5 h7 st (h8 st) h9 h10]
  cases ys with
  | nil =>
    refine ⟨growA false 0 et.size (xs ++ []), st, X, ?_, hF, k1 false 0⟩
    simp only [growA, cond_false, appendA]
    rw [if_pos ⟨trivial, hroom⟩]
    simp
  | cons y ys =>
    refine ⟨growA true st.next et.size (xs ++ y :: ys), st.newTok.ttag st.next e, X, ?_, ?_, k1 true st.next⟩
    · simp only [growA, cond_true, appendA]
      rw [if_pos ⟨trivial, hroom⟩]
      simp
    · have hF' : Fa N l (X ++ L) K tm st.newTok := by
        refine ⟨hF.n, hF.get, fun k b o hk => ⟨(hF.obj k b o hk).1, by have := (hF.obj k b o hk).2; simp; omega⟩, hF.uniq, fun k u hu => ?_, hF.uniqT⟩
        have := hF.tok k u hu
        exact ⟨by simp [this.1], by simp; omega⟩
      exact hF'.ttag _ _
theorem SegT.appendO {k : List (Nat × AV) → List (Nat × AObj) → Prop} {ts tx e : TypeId} {s x : Operand} {sz sz' : Nat} {ys : List AV} {a : AV} {tys tyx et : Ty} (hw : wantS ops l { dst := some d, op := .call { callee := .builtin .append, args := #[s, x], argTypes := #[ts, tx] }, type := ty, pos := pos, after := after, guard := guard } = some true) (hn : Nat.blt d N = true) (hpol : Nat.beq (pol i) 1 = true) (hs : evL l s = some (.vs sz .full [])) (hx : evL l x = some a)
    (h1 : E.ty ts = some tys) (h2 : E.ty tx = some tyx) (h3 : tys.d = .slice e) (h4 : E.ty e = some et) (h5 : Nat.blt 0 et.size = true) (h6 : sz = et.size) (h7 : (tyx.d = .string ∧ isStrA a = true) ∨ ((∃ e', tyx.d = .slice e') ∧ isStrA a = false)) (h8 : ∀ st, elemsA st a = some (sz', ys)) (h9 : okElems et ys = true) (h10 : (ys.isEmpty || Nat.beq sz' et.size) = true)
    (hroom : roomA et ys.length = true) (k1 : ∀ b, SegT E ops N L K pol r (i + 1) ((d, .sl sz b 0 ys.length) :: l) ((b, .row sz ys) :: X) k) :
    SegT E ops N L K pol ({ dst := some d, op := .call { callee := .builtin .append, args := #[s, x], argTypes := #[ts, tx] }, type := ty, pos := pos, after := after, guard := guard } :: r) i l X k := by
  subst h6
  refine .loud hw rfl hn rfl rfl (fun _ h => by cases h) fun tm st hF => ?_
  have h0 : Abs.loud E noCall (pol i) tm st { dst := some d, op := .call { callee := .builtin .append, args := #[s, x], argTypes := #[ts, tx] }, type := ty, pos := pos, after := after, guard := guard } = appendOpA E (pol i == 1) st ts tx (evalO tm s) (evalO tm x) := rfl
  have hp : (pol i == 1) = true := by
    have := Nat.eq_of_beq_eq_true hpol
    simp [this]
  rw [h0, hF.ev hs, hF.ev hx, hp, appendOp_key h1 h2 h3 h4 h5 h7 st (h8 st) h9 h10]
  refine ⟨.sl et.size st.next 0 ys.length, st.new (.row et.size ys), (st.next, .row et.size ys) :: X, ?_, hF.new _, k1 st.next⟩
  simp only [appendA]
  rw [if_pos ⟨trivial, by simpa using hroom⟩]
  rfl
theorem SegT.call {k : List (Nat × AV) → List (Nat × AObj) → Prop} {f : Operand} {args : Array Operand} {argTypes : Array TypeId} {g : FuncId} {first cap vs : List AV} {p : List AV → St → Option (AV × St)} {v : AV} (hw : wantS ops l { dst := some d, op := .call { callee := .value f, args := args, argTypes := argTypes }, type := ty, pos := pos, after := after, guard := guard } = some true) (hn : Nat.blt d N = true) (hf : evL l f = some (.fn g first cap)) (ha : evLs l args.toList = some vs) (hp : E.prim g = some p) (hr : ∀ st, p (first ++ vs ++ cap) st = some (v, st)) (hz : ∀ st, freezeA st v = some (v, st))
    (k1 : SegT E ops N L K pol r (i + 1) ((d, v) :: l) X k) : SegT E ops N L K pol ({ dst := some d, op := .call { callee := .value f, args := args, argTypes := argTypes }, type := ty, pos := pos, after := after, guard := guard } :: r) i l X k := by
  intro tm s0 pre hF hpre
  obtain ⟨n, tr, tm', s1, l', X', h1, h2, h3, h4⟩ := k1 (tm.put d v) s0 pre (hF.put hn v) hpre
  have h1 := runOpsT_mono (callF_mono n (n + 1) (by omega)) _ _ _ _ h1
  refine ⟨n + 1, ⟨tm, s0, s0, v, true⟩ :: tr, tm', s1, l', X', ?_, h2, h3, fun k t o' ht ho => ?_⟩
  · have hl : Abs.loud E (callF E (n + 1)) (pol i) tm s0 { dst := some d, op := .call { callee := .value f, args := args, argTypes := argTypes }, type := ty, pos := pos, after := after, guard := guard } = some (v, s0) := by
      have : Abs.loud E (callF E (n + 1)) (pol i) tm s0 { dst := some d, op := .call { callee := .value f, args := args, argTypes := argTypes }, type := ty, pos := pos, after := after, guard := guard } = (match evalO tm f with | .fn g first cap => callF E (n + 1) g (first ++ args.toList.map (evalO tm) ++ cap) s0 | _ => none) := rfl
      rw [this, hF.ev hf, hF.evs ha]
      simp only [callF, hp]
      exact hr s0
    have hst : stepPre E (callF E (n + 1)) pre (pol i) i tm s0 { dst := some d, op := .call { callee := .value f, args := args, argTypes := argTypes }, type := ty, pos := pos, after := after, guard := guard } = some (v, s0) := by
      simp only [stepPre, stepOp, isLoud, if_true, hl, isFnCall, Bool.and_true, decide_eq_true_eq]
      split
      · exact hz s0
      · rfl
    simp only [runOpsT]
    rw [hF.want hw]
    dsimp only
    rw [hst]
    dsimp only [putO]
    rw [h1]
  · cases k with
    | zero =>
      simp only [List.getElem?_cons_zero, Option.some.injEq] at ht ho
      subst ht; subst ho
      exact ⟨hF.base.s, hF.base.s, fun _ h => by simp [isLoud] at h⟩
    | succ k =>
      simp only [List.getElem?_cons_succ] at ht ho
      exact h4 k t o' ht ho
theorem WS.drawT (m : Nat) {id : Nat} {ops : Array Oper} {dy : List (Nat × Nat)} (hd : E.dyn fid id = dy) (ho : hasAlloc ops = false) (hm : Nat.ble m ops.toList.length = true)
    (hc : (dy.all fun p => Nat.blt p.1 m && Nat.blt p.2 m && (match ops.toList[p.2]? with | some o => !isLoud o.op | none => false)) = true)
    (h : SegT E ops N L K (E.pol fid id) (ops.toList.take m) 0 l [] fun l1 X => OS E false (E.pol fid id) ops (ops.toList.drop m) m N l1 (X ++ L) K Q) (hk : E.mks fid id = false := by rfl) : WS E fid N (.region id ops true) l L K Q := by
  intro tm st hF
  have hm2 := Nat.le_of_ble_eq_true hm
  have hlA : (ops.toList.take m).length = m := by rw [List.length_take]; omega
  have hF0 := hF.at (m := st.next + ops.size) (by omega)
  generalize hs0 : st.at (st.next + ops.size) = s0 at hF0
  obtain ⟨n1, tr1, tm1, s1, l1, X1, a1, a2, a3, a4⟩ := h tm s0 (some (st.next, false)) hF0 (fun b hb => ⟨ho, by cases hb; rfl⟩)
  obtain ⟨n5, tr4, tm4, st4, c1, _, c3⟩ := a3 (some (st.next, false)) tm1 _ a2 (fun b hb => ⟨ho, by cases hb; rfl⟩)
  have a1 := runOpsT_mono (callF_mono n1 (max n1 n5) (by omega)) _ _ _ _ a1
  have c1 := runOpsT_mono (callF_mono n5 (max n1 n5) (by omega)) _ _ _ _ c1
  have hl1 := runOpsT_len a1
  have hops : ops.toList = ops.toList.take m ++ ops.toList.drop m := (List.take_append_drop m _).symm
  have hrun : runOpsT E (callF E (max n1 n5)) (some (st.next, false)) (E.pol fid id) ops ops.toList 0 tm s0 = some (tr1 ++ tr4, tm4, st4) := by
    have := runOpsT_append _ _ _ _ _ a1 (by rw [Nat.zero_add, hlA]; exact c1)
    rw [← hops] at this
    exact this
  refine ⟨max n1 n5 + 1, .normal, tm4, st4, ?_, c3⟩
  have hpre : preObjs E st.next ops.toList 0 st.objs = some st.objs := preObjs_none _ _ _ ho
  have h1' := runOpsT_mono (callF_mono (max n1 n5) (max n1 n5 + 1) (by omega)) _ _ _ _ hrun
  rw [← hs0] at h1'
  unfold St.at at h1'
  simp only [exec, execReg, if_true, hpre, hd, hk]
  cases dy with
  | nil =>
    dsimp only
    rw [(runOps_of_T _ _ _ _ h1').1]
  | cons p0 ps =>
    dsimp only
    rw [h1']
    dsimp only
    rw [if_pos]
    · rw [List.all_eq_true] at hc ⊢
      intro p hp
      have hp' := hc p hp
      simp only [Bool.and_eq_true] at hp'
      obtain ⟨⟨p1, p2⟩, p4⟩ := hp'
      have p1 : p.1 < m := Eq.mp Nat.blt_eq p1
      have p2 : p.2 < m := Eq.mp Nat.blt_eq p2
      have g1 : (ops.toList.take m)[p.1]? = some ((ops.toList.take m)[p.1]'(by omega)) := List.getElem?_eq_getElem _
      have g2 : (ops.toList.take m)[p.2]? = some ((ops.toList.take m)[p.2]'(by omega)) := List.getElem?_eq_getElem _
      have g2' : ops.toList[p.2]? = some ((ops.toList.take m)[p.2]'(by omega)) := by
        rw [← g2, List.getElem?_take, if_pos p2]
      rw [g2'] at p4
      obtain ⟨e1, e2, _⟩ := a4 p.1 (tr1[p.1]'(by omega)) _ (List.getElem?_eq_getElem (by omega)) g1
      obtain ⟨_, _, e4⟩ := a4 p.2 (tr1[p.2]'(by omega)) _ (List.getElem?_eq_getElem (by omega)) g2
      have t1 : (tr1 ++ tr4)[p.1]? = some (tr1[p.1]'(by omega)) := by rw [List.getElem?_append_left (by omega)]; exact List.getElem?_eq_getElem _
      have t2 : (tr1 ++ tr4)[p.2]? = some (tr1[p.2]'(by omega)) := by rw [List.getElem?_append_left (by omega)]; exact List.getElem?_eq_getElem _
      unfold dynOk
      rw [t1, t2, ← Array.getElem?_toList, g2']
      dsimp only
      by_cases hd2 : (tr1[p.2]'(by omega)).did = true
      · have e4 := e4 hd2 (by simpa using p4)
        rw [e4 _ e1, e4 _ e2]
        simp [AV.beq_refl]
      · simp [hd2]
end
end Go.Abs

namespace Go.OptEnv
open Go Go.Proofs Go.Abs Go.RowKit Go.NetM
set_option maxRecDepth 10000
attribute [local irreducible] WS QS OS OD Abs.Sub SubO SubK CW GSl.av accA growA
def allR (n : GNet) (ins regs : List UInt8) : Option (List UInt8) :=
  if (validM n && (decide ((ins.length : Int) = n.ins.xs.length) && le2 ins) && (decide ((regs.length : Int) = n.regs.xs.length) && le2 regs)) = true then some (allB n.gates.xs ins regs) else none
theorem allR_no {n : GNet} {ins regs : List UInt8} (h : (validM n && (decide ((ins.length : Int) = n.ins.xs.length) && le2 ins) && (decide ((regs.length : Int) = n.regs.xs.length) && le2 regs)) = false) : allR n ins regs = none := by
  unfold allR
  rw [if_neg (by rw [h]; simp)]
theorem allR_yes {n : GNet} {ins regs : List UInt8} (h1 : validM n = true) (h2 : (decide ((ins.length : Int) = n.ins.xs.length) && le2 ins) = true) (h3 : (decide ((regs.length : Int) = n.regs.xs.length) && le2 regs) = true) : allR n ins regs = some (allB n.gates.xs ins regs) := by
  unfold allR
  rw [if_pos (by rw [h1, h2, h3]; rfl)]
theorem lit_of {l k : Int} (h : litOk l k = true) : 0 ≤ l ∧ l / 2 < k := by
  have := of_decide_eq_true h
  omega
theorem gatesM_take {v : List UInt8} {gs : List (Int × Int)} {i : Nat} (h : i < gs.length) : gatesM v (gs.take (i + 1)) = gatesM v (gs.take i) ++ [andB (ofL (gatesM v (gs.take i)) gs[i].1) (ofL (gatesM v (gs.take i)) gs[i].2)] := by
  rw [List.take_succ_eq_append_getElem h]
  simp only [gatesM, List.foldl_append, List.foldl_cons, List.foldl_nil]
section
variable {pr : Prims}
theorem use31 (h : Has pr 31 Rel31) {n : GNet} (hn : FitsN n) (st : St) : primOf Rel31 [netAV n] st = some (.bool (validM n), st) := h.use ⟨n, hn, by simp [AV.plainL, net_plain], rfl⟩ st
theorem use92g (h : Has pr 92 Rel92) {k : Int} {v : List UInt8} {b : Bool} {t : Nat} (hk : 0 ≤ k ∧ k / 2 < v.length) (hl : v.length ≤ 140737488355328) (hv : le2 v = true) (st : St) : primOf Rel92 [.int .i64 k, growA b t 1 (v.map bitAV)] st = some (bitAV (ofL v k), st) :=
  h.use (r := bitAV (ofL v k)) ⟨(k, GSl.some v), ⟨hk, hl, hv⟩, by simp [AV.plainL, plain_grow bit_plain, AV.plain], rfl⟩ st
end
end Go.OptEnv

namespace Go.OptEnv
open Go Go.Proofs Go.Abs Go.RowKit Go.NetM
set_option maxRecDepth 10000
attribute [local irreducible] WS QS OS OD Abs.Sub SubO SubK CW GSl.av accA growA
def evalR (n : GNet) (ins regs : List UInt8) : Option (List UInt8 × List UInt8) := (allR n ins regs).map fun v => (n.outs.xs.map fun p => ofL v p.lit, n.regs.xs.map fun r => ofL v r.next)
theorem allR_spec {n : GNet} {ins regs v : List UInt8} (h : allR n ins regs = some v) : ValidN n ∧ ins.length = n.ins.xs.length ∧ le2 ins = true ∧ regs.length = n.regs.xs.length ∧ le2 regs = true ∧ v = allB n.gates.xs ins regs ∧ le2 v = true ∧ (v.length : Int) = n.nodes := by
  unfold allR at h
  split at h
  · rename_i hc
    simp only [Bool.and_eq_true, decide_eq_true_eq] at hc
    obtain ⟨⟨hv, hi, hi2⟩, hr, hr2⟩ := hc
    cases h
    refine ⟨validM_iff.1 hv, by omega, hi2, by omega, hr2, rfl, allB_le2 hi2 hr2, ?_⟩
    simp only [allB, gatesM_len, List.length_cons, List.length_append, GNet.nodes, GNet.first]
    omega
  · cases h
section
variable {pr : Prims}
end
end Go.OptEnv

namespace Go.OptEnv
open Go Go.Proofs Go.Abs Go.RowKit Go.NetM
set_option maxRecDepth 10000
attribute [local irreducible] WS QS OS OD Abs.Sub SubO SubK CW GSl.av accA growA
def tab133 : List (List AV × AV) := [([.int .u8 0], .int .u8 1), ([.int .u8 1], .int .u8 0), ([.int .u8 2], .int .u8 2)]
theorem tabok133 : TabOk (En ap0) 133 tab133 := .cons 1000 (by kernel_rfl) (.cons 1000 (by kernel_rfl) (.cons 1000 (by kernel_rfl) .nil))
def rowBoth (a b c : Int) : List AV × AV := ([.int .u8 a, .int .u8 b], .int .u8 c)
def tab132 : List (List AV × AV) := [rowBoth 0 0 0, rowBoth 0 1 0, rowBoth 0 2 0, rowBoth 1 0 0, rowBoth 1 1 1, rowBoth 1 2 2, rowBoth 2 0 0, rowBoth 2 1 2, rowBoth 2 2 2]
theorem tabok132 : TabOk (En ap0) 132 tab132 := .cons 1000 (by kernel_rfl) (.cons 1000 (by kernel_rfl) (.cons 1000 (by kernel_rfl) (.cons 1000 (by kernel_rfl) (.cons 1000 (by kernel_rfl) (.cons 1000 (by kernel_rfl) (.cons 1000 (by kernel_rfl) (.cons 1000 (by kernel_rfl) (.cons 1000 (by kernel_rfl) .nil))))))))
theorem use133 {b : UInt8} (h : b.toNat ≤ 2) (st : St) : tabPrim tab133 [bitAV b] st = some (bitAV (notB b), st) := by
  rcases three h with rfl | rfl | rfl <;> rfl
theorem use132 {a b : UInt8} (ha : a.toNat ≤ 2) (hb : b.toNat ≤ 2) (st : St) : tabPrim tab132 [bitAV a, bitAV b] st = some (bitAV (andB a b), st) := by
  rcases three ha with rfl | rfl | rfl <;> rcases three hb with rfl | rfl | rfl <;> rfl
theorem and1 {l : Int} (_ : 0 ≤ l) : IntKind.i64.wrap ((BitVec.ofInt IntKind.i64.bits l &&& BitVec.ofInt IntKind.i64.bits 1).toNat : Int) = l % 2 := by
  have e : (BitVec.ofInt IntKind.i64.bits l &&& BitVec.ofInt IntKind.i64.bits 1).toNat = (l % 2).toNat := by
    rw [BitVec.toNat_and, BitVec.toNat_ofInt, BitVec.toNat_ofInt]
    have : ((1 : Int) % (2 ^ IntKind.i64.bits : Nat)).toNat = 1 := by decide
    rw [this, Nat.and_one_is_mod]
    have : IntKind.i64.bits = 64 := rfl
    rw [this]
    omega
  rw [e]
  exact (wrap64 (by omega) (by omega)).trans (by omega)
def Rel151 : Rel := RelF (fun _ : UInt8 => True) (fun b => [bitAV b]) fun b => .bool (decide (2 < b.toNat))
def Rel131 : Rel := RelF (fun p : GSl UInt8 × Int => p.1.xs.length ≤ 140737488355328) (fun p => [p.1.av 1 bitAV, .int .i64 p.2]) fun p => .bool (decide ((p.1.xs.length : Int) = p.2) && le2 p.1.xs)
def Rel110 : Rel := RelF (fun p : GSl UInt8 × Int => (0 ≤ p.2 ∧ p.2 / 2 < p.1.xs.length) ∧ p.1.xs.length ≤ 140737488355328 ∧ le2 p.1.xs = true) (fun p => [p.1.av 1 bitAV, .int .i64 p.2]) fun p => bitAV (ofL p.1.xs p.2)
section
variable {pr : Prims}
theorem run151 (h1 : pr 151 = none) (b : UInt8) (st : St) : CW (En pr) 151 [bitAV b] st fun r _ => r = .bool (decide (2 < b.toNat)) := by
  refine CW.start (N := 5) h1 rfl rfl ?_
  repeat' (first | (refine OS.do rfl ?_; first | refine OD.auto rfl rfl ?_) | refine OS.nil ?_ | refine WS.seq ?_ | refine QS.seqN ?_ | refine WS.region ?_ | refine WS.ret ?_)
  all_goals (refine QS.retR (by rfl) fun _ => ?_; show AV.bool _ = _; congr 1; rw [decide_eq_decide]; omega)
theorem con151 (h : pr 151 = none) : Con2 (En pr) 151 Rel151 := con_eq (fun _ => rfl) (fun _ => ⟨rfl, rfl⟩) fun d _ st => run151 h d st
theorem use151 (h : Has pr 151 Rel151) {b : UInt8} (st : St) : primOf Rel151 [bitAV b] st = some (.bool (decide (2 < b.toNat)), st) := h.use ⟨b, trivial, rfl, rfl⟩ st
theorem run168 (h1 : pr 168 = none) (h151 : Has pr 151 Rel151) (s : GSl UInt8) (hs : s.xs.length ≤ 140737488355328) (st : St) :
    CW (En pr) 168 [s.av 1 bitAV, .fn 151 [] []] st fun r _ => ∃ k : Int, r = .int .i64 k ∧ decide (k ≥ 0) = !(le2 s.xs) := by
  refine CW.start (N := 19) h1 rfl rfl ?_
  repeat' (first | (refine OS.do rfl ?_; first | refine OD.auto rfl rfl ?_ | refine OD.len rfl rfl (fun _ => lenTy_av rfl rfl) ?_) | refine OS.nil ?_ | refine WS.seq ?_ | refine QS.seqN ?_ | refine WS.region ?_ | refine WS.block ?_)
  refine WS.rangeX (A := Unit) (n := s.xs.length) ⟨8, _, fun _ => [], fun _ => [], fun _ => [], fun i _ => (s.xs.take i).all (fun b => decide (b.toNat ≤ 2)) = true⟩ (()) [0, 1, 7] (by simp) ?_ ?_
  · rintro i _ hi ha
    try dsimp only at ha
    dsimp only [RSt.at, List.cons_append, List.nil_append]
    repeat' (first | (refine OS.do rfl ?_; first | refine OD.auto rfl rfl ?_ | refine OD.indexAddr rfl rfl rfl (indexAddrA_nat rfl rfl rfl rfl (by first | assumption | exact List.getElem?_eq_getElem (by omega))) ?_ | refine OD.call rfl rfl rfl h151.eq (use151 h151) (fun _ => rfl) ?_) | refine OS.nil ?_ | refine WS.seq ?_ | refine QS.seqN ?_ | refine WS.region ?_ | refine WS.condD rfl (fun _ => ?_) (fun _ => ?_) | refine WS.skip ?_ | refine WS.ret ?_ | refine QS.seqR ?_ | refine QS.rangeR ?_)
    · refine QS.retR (by rfl) fun _ => ⟨_, rfl, ?_⟩
      unfold le2; rw [all_false (i := i) (f := fun (b : UInt8) => decide (b.toNat ≤ 2)) hi (decide_eq_false (by omega))]; simp
    · exact QS.rangeX (()) (by (try dsimp only) <;> exact (all_take_succ hi ha (decide_eq_true (by omega))))
  · rintro _ ha
    try dsimp only at ha
    rw [List.take_of_length_le (Nat.le_refl _)] at ha
    dsimp only [RSt.at, List.cons_append, List.nil_append]
    repeat' (first | (refine OS.do rfl ?_; first | refine OD.auto rfl rfl ?_) | refine OS.nil ?_ | refine WS.seq ?_ | refine QS.seqN ?_ | refine WS.region ?_ | refine WS.ret ?_)
    refine QS.retR (by rfl) fun _ => ⟨_, rfl, ?_⟩
    unfold le2; rw [ha]; rfl
theorem run150 (h1 : pr 150 = none) (h168 : pr 168 = none) (h151 : Has pr 151 Rel151) (s : GSl UInt8) (hs : s.xs.length ≤ 140737488355328) (st : St) :
    CW (En pr) 150 [s.av 1 bitAV, .fn 151 [] []] st fun r _ => r = .bool (!(le2 s.xs)) := by
  refine CW.start (N := 9) h1 rfl rfl ?_
  repeat' (first | (refine OS.do rfl ?_; first | refine OD.auto rfl rfl ?_ | (refine OD.callP (fun r => ∃ k : Int, r = .int .i64 k ∧ decide (k ≥ 0) = !(le2 s.xs)) rfl rfl rfl (fun st hS => (run168 h168 h151 s hs st).mono fun _ _ h => ⟨h, ⟨fun _ _ _ h => (by simp at h), fun _ _ _ _ _ h => (by simp at h), fun _ _ h => (by simp at h), fun _ _ _ h => (by simp at h)⟩⟩) (by rintro v st ⟨k, rfl, _⟩; rfl) ?_; rintro v ⟨k, rfl, hk⟩)) | refine OS.nil ?_ | refine WS.seq ?_ | refine QS.seqN ?_ | refine WS.region ?_ | refine WS.ret ?_)
  all_goals (refine QS.retR (by rfl) fun _ => ?_; show AV.bool _ = _; rw [hk])
def Rel150 : Rel := RelF (fun s : GSl UInt8 => s.xs.length ≤ 140737488355328) (fun s => [s.av 1 bitAV, .fn 151 [] []]) fun s => .bool (!(le2 s.xs))
theorem con150 (h1 : pr 150 = none) (h168 : pr 168 = none) (h151 : Has pr 151 Rel151) : Con2 (En pr) 150 Rel150 := con_eq (fun d => by simp [AV.freeL, AV.free, free_av bit_free]) (fun _ => ⟨rfl, rfl⟩) fun d hd st => run150 h1 h168 h151 d hd st
theorem use150 (h : Has pr 150 Rel150) {s : GSl UInt8} (hs : s.xs.length ≤ 140737488355328) (st : St) : primOf Rel150 [s.av 1 bitAV, .fn 151 [] []] st = some (.bool (!(le2 s.xs)), st) := h.use ⟨s, hs, by simp [AV.plainL, AV.plain, plain_av bit_plain], rfl⟩ st
theorem run131 (h1 : pr 131 = none) (h150 : Has pr 150 Rel150) (s : GSl UInt8) (hs : s.xs.length ≤ 140737488355328) (k : Int) (st : St) :
    CW (En pr) 131 [s.av 1 bitAV, .int .i64 k] st fun r _ => r = .bool (decide ((s.xs.length : Int) = k) && le2 s.xs) := by
  have u := use150 h150 hs
  refine CW.start (N := 14) h1 rfl rfl ?_
  repeat' (first | (refine OS.do rfl ?_; first | refine OD.auto rfl rfl ?_ | refine OD.len rfl rfl (fun _ => lenTy_av rfl rfl) ?_ | refine OD.call rfl rfl rfl h150.eq u (fun _ => rfl) ?_) | refine OS.nil ?_ | refine OS.skip rfl rfl rfl ?_ | refine WS.seq ?_ | refine QS.seqN ?_ | refine WS.region ?_ | refine WS.ret ?_ | ((fail_if_success (refine OS.do rfl ?_)); first | refine OS.splitD rfl rfl rfl (fun _ => ?_) (fun _ => ?_)))
  · rename_i hc
    refine QS.retR (by rfl) fun _ => ?_
    rw [decide_eq_true hc, Bool.true_and]; show AV.bool (!(!(le2 s.xs))) = _; rw [Bool.not_not]
  · rename_i hc
    refine QS.retR (by rfl) fun _ => ?_
    rw [decide_eq_false hc]; rfl
theorem con131 (h1 : pr 131 = none) (h150 : Has pr 150 Rel150) : Con2 (En pr) 131 Rel131 := con_eq (fun d => by simp [AV.freeL, AV.free, free_av bit_free]) (fun _ => ⟨rfl, rfl⟩) fun d hd st => run131 h1 h150 d.1 hd d.2 st
theorem use131 (h : Has pr 131 Rel131) {s : GSl UInt8} (hs : s.xs.length ≤ 140737488355328) {k : Int} (st : St) : primOf Rel131 [s.av 1 bitAV, .int .i64 k] st = some (.bool (decide ((s.xs.length : Int) = k) && le2 s.xs), st) := h.use ⟨(s, k), hs, by simp [AV.plainL, AV.plain, plain_av bit_plain], rfl⟩ st
theorem run110 (h1 : pr 110 = none) (h133 : pr 133 = some (tabPrim tab133)) (v : GSl UInt8) (k : Int) (hk : 0 ≤ k ∧ k / 2 < v.xs.length) (hl : v.xs.length ≤ 140737488355328) (hv : le2 v.xs = true) (st : St) : CW (En pr) 110 [v.av 1 bitAV, .int .i64 k] st fun r _ => r = bitAV (ofL v.xs k) := by
  have hw : IntKind.i64.wrap (k.tdiv 2) = k / 2 := by
    rcases ediv2 (l := k) (by omega) with k | k
    · exact k
    · omega
  have hx : v.xs[(k / 2).toNat]? = some (v.xs.getD (k / 2).toNat 0) := by
    rw [List.getD_eq_getElem?_getD, List.getElem?_eq_getElem (by omega)]; rfl
  have hb : (v.xs.getD (k / 2).toNat 0).toNat ≤ 2 := getD_le2 hv _
  refine CW.start (N := 19) h1 rfl rfl ?_
  repeat' (first | (refine OS.do rfl ?_; first | refine OD.indexAddr rfl rfl rfl (indexAddrA_int rfl rfl rfl rfl (by rw [hw]; omega) (by rw [hw]; exact hx)) ?_ | refine OD.auto rfl rfl ?_ | refine OD.call rfl rfl rfl h133 (use133 hb) (fun _ => rfl) ?_) | refine OS.nil ?_ | refine WS.seq ?_ | refine QS.seqN ?_ | refine WS.region ?_ | refine WS.condE rfl (fun _ => ?_) (fun _ => ?_) | refine WS.skip ?_ | refine WS.ret ?_ | refine QS.seqR ?_)
  all_goals (rename_i hc; refine QS.retR (by rfl) fun _ => ?_; unfold ofL; rw [and1 hk.1] at hc)
  · rw [if_pos hc]
  · rw [if_neg hc]
theorem con110 (h1 : pr 110 = none) (h133 : pr 133 = some (tabPrim tab133)) : Con2 (En pr) 110 Rel110 := con_eq (fun d => by simp [AV.freeL, AV.free, free_av bit_free]) (fun _ => ⟨rfl, rfl⟩) fun d hd st => run110 h1 h133 d.1 d.2 hd.1 hd.2.1 hd.2.2 st
theorem use110g (h : Has pr 110 Rel110) {k : Int} {v : List UInt8} {b : Bool} {t : Nat} (hk : 0 ≤ k ∧ k / 2 < v.length) (hl : v.length ≤ 140737488355328) (hv : le2 v = true) (st : St) : primOf Rel110 [growA b t 1 (v.map bitAV), .int .i64 k] st = some (bitAV (ofL v k), st) :=
  h.use (r := bitAV (ofL v k)) ⟨(GSl.some v, k), ⟨hk, hl, hv⟩, by simp [AV.plainL, plain_grow bit_plain, AV.plain], rfl⟩ st
end
end Go.OptEnv
