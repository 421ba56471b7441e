/- Own text of this claim: part 9 of an interpreter that is proved sound against the model, and of what it shows of the law. -/
import Derived.Test.YtnipphfkiikbdaaDoorAbs8
/- Names, by a map. -/
namespace Go.RtlEnv
open Go Go.Proofs Go.Abs Go.RowKit
set_option maxRecDepth 10000
attribute [local irreducible] WS QS OS OD Abs.Sub SubO SubK CW
def ents (l : List ByteArray) : List (AV × AV) := l.map fun s => (.str s, .bool true)
theorem nameOk_sl {s : ByteArray} {j : Nat} (h : j < (strSl s).xs.length) (hb : byteOk (strSl s).xs[j] = false) : nameOk s = false := nameOk_byte h hb
theorem nameOk_slT {s : ByteArray} (h : 1 ≤ s.size ∧ s.size ≤ 200) (hb : (strSl s).xs.all byteOk = true) : nameOk s = true := nameOk_true h hb
theorem empty_yes {s : ByteArray} (h : (s.toList == ByteArray.toList ⟨#[]⟩) = true) : s.size = 0 := by
  rw [str_beq] at h
  rw [of_decide_eq_true h]; rfl
theorem empty_no {s : ByteArray} (h : (s.toList == ByteArray.toList ⟨#[]⟩) = false) : 1 ≤ s.size := by
  rw [str_beq] at h
  have h := of_decide_eq_false h
  rcases Nat.eq_zero_or_pos s.size with k | k
  · refine absurd (data_inj ?_) h
    have := size_data s
    rw [k] at this
    rw [List.length_eq_zero_iff.1 this]
  · exact k
section
variable {pr : Prims}
theorem find_no {s : ByteArray} : ∀ (l : List ByteArray) (i : Nat), s ∉ l → findA (eqA (En pr) 20 9) (.str s) (ents l) i = some none
  | [], _, _ => rfl
  | x :: l, i, h => by
    simp only [List.mem_cons, not_or] at h
    have e : eqA (En pr) 20 9 (.str s) (.str x) = some (decide (s = x)) := rfl
    simp only [ents, List.map_cons, findA, e, decide_eq_false h.1]
    exact find_no l (i + 1) h.2
theorem find_yes {s : ByteArray} : ∀ (l : List ByteArray) (i : Nat), s ∈ l → ∃ j, findA (eqA (En pr) 20 9) (.str s) (ents l) i = some (some (j, .bool true))
  | [], _, h => by cases h
  | x :: l, i, h => by
    have e : eqA (En pr) 20 9 (.str s) (.str x) = some (decide (s = x)) := rfl
    by_cases hx : s = x
    · exact ⟨i, by simp only [ents, List.map_cons, findA, e, decide_eq_true hx]⟩
    · simp only [List.mem_cons, hx, false_or] at h
      obtain ⟨j, hj⟩ := find_yes l (i + 1) h
      exact ⟨j, by simp only [ents, List.map_cons, findA, e, decide_eq_false hx]; exact hj⟩
def memB (s : ByteArray) (l : List ByteArray) : Bool := l.any fun x => decide (s = x)
theorem memB_yes {s : ByteArray} {l : List ByteArray} (h : memB s l = true) : s ∈ l := by
  simp only [memB, List.any_eq_true, decide_eq_true_eq] at h
  obtain ⟨x, h1, rfl⟩ := h; exact h1
theorem memB_no {s : ByteArray} {l : List ByteArray} (h : memB s l = false) : s ∉ l := fun k => by
  have : memB s l = true := by simp only [memB, List.any_eq_true, decide_eq_true_eq]; exact ⟨s, k, rfl⟩
  rw [h] at this; cases this
theorem look_ents {s : ByteArray} {l : List ByteArray} {b : Nat} {st : St} (hst : st.get b = some (.map 9 4 (ents l))) : lookTy (En pr) st 86 false (.map b) (.str s) = some (.bool (memB s l)) := by
  have e : lookTy (En pr) st 86 false (.map b) (.str s) = (match st.get b with
      | some (.map kt' et' es) =>
        if kt' = 9 ∧ et' = 4 then
          match findA (eqA (En pr) 20 9) (.str s) es 0 with
          | some (some (_, v)) => some (if false then .tup [v, .bool true] else v)
          | some none => some (if false then .tup [.bool false, .bool false] else .bool false)
          | none => none
        else none
      | _ => none) := rfl
  rw [e, hst]
  dsimp only
  rw [if_pos ⟨rfl, rfl⟩]
  cases h : memB s l with
  | true =>
    obtain ⟨j, hj⟩ := find_yes (pr := pr) l 0 (memB_yes h)
    rw [hj]; rfl
  | false => rw [find_no l 0 (memB_no h)]; rfl
theorem put_ents {s : ByteArray} {l : List ByteArray} {b : Nat} {st : St} (hs : s ∉ l) (hst : st.get b = some (.map 9 4 (ents l))) : mapPutA (En pr) st ty9 9 4 b (.str s) (.bool true) = some (st.put b (.map 9 4 (ents (l ++ [s])))) := by
  unfold mapPutA
  rw [hst]
  dsimp only
  rw [if_pos ⟨rfl, rfl, rfl, rfl, rfl⟩, find_no l 0 hs]
  simp [ents]
set_option maxHeartbeats 2000000 in
theorem run30 (h1 : pr 30 = none) {p : List AV → St → Option (AV × St)} (hp : pr 31 = some p) (hpr : ∀ (s : GLane) st, p [laneAV s] st = some (.str s.name, st)) (l : GSl GLane) (hl : l.xs.length < 9223372036854775808) (hn : ∀ x ∈ l.xs, x.name.size < 9223372036854775808) (st : St) : CW (En pr) 30 [l.av 3 laneAV, .fn 31 [] []] st fun r _ => r = .bool (namesM (l.xs.map (·.name))) := by
  refine CW.start (N := 53) h1 rfl rfl ?_
  repeat' (first | (refine OS.do rfl ?_; first | refine OD.auto rfl rfl ?_ | refine OD.len rfl rfl (fun _ => lenTy_av rfl rfl) ?_ | refine OD.makeMap rfl rfl rfl (fun _ => ?_)) | refine OS.nil ?_ | refine WS.seq ?_ | refine QS.seqN ?_ | refine WS.region ?_ | refine WS.block ?_)
  rename_i b
  refine WS.loop (D := Nat) (fun i => [(0, l.av 3 laneAV), (1, .fn 31 [] []), (5, .map b), (12, l.av 3 laneAV), (13, .int .i64 l.xs.length), (14, .int .i64 i)]) (fun i => [(b, .map 9 4 (ents ((l.xs.map (·.name)).take i)))]) (fun _ => [])
      (fun i => i ≤ l.xs.length ∧ ((l.xs.map (·.name)).take i).all nameOk = true ∧ ((l.xs.map (·.name)).take i).Nodup) (fun i => l.xs.length + 1 - i) 0 ⟨by omega, by simp, by simp⟩ ?_ (.refl _) (.nil _) ?_
  · repeat' (first | exact Sub.nil _ | refine Sub.cons (congrArg (fun z => some (AV.int .i64 z)) (wrap_succ (by omega))) ?_ | refine Sub.cons rfl ?_)
  rintro i ⟨hi, ha, hd⟩
  have hml : (l.xs.map (·.name)).length = l.xs.length := by simp
  repeat' (first | (refine OS.do rfl ?_; first | refine OD.convert (v := (strSl _).av 1 bitAV) rfl rfl rfl ?_ | refine OD.loadP 0 rfl rfl rfl rfl rfl rfl ?_ | refine OD.auto rfl rfl ?_ | refine OD.len rfl rfl (fun _ => lenTy_av rfl rfl) ?_ | refine OD.indexAddr rfl rfl rfl (indexAddrA_nat rfl rfl rfl rfl (by first | assumption | exact List.getElem?_eq_getElem (by omega))) ?_ | refine OD.alloc rfl rfl rfl rfl (fun _ => ?_) | refine OD.storeW 0 rfl rfl rfl rfl (by first | rfl | exact hold_ok _ | exact word_ok _ | exact rtl_ok _) rfl rfl rfl ?_ | refine OD.call rfl rfl rfl hp (hpr _) (fun _ => rfl) ?_) | refine OS.nil ?_ | refine WS.seq ?_ | refine QS.seqN ?_ | refine WS.region ?_ | refine WS.condD rfl (fun _ => ?_) (fun _ => ?_) | refine WS.skip ?_ | refine WS.block ?_ | refine WS.ret ?_ | refine WS.exit ?_ | refine QS.seqE ?_ | refine QS.blockH ?_ | refine QS.loopE ?_)
  all_goals try (refine QS.retR (by rfl) fun _ => ?_
                 by_cases hk : l.xs.length ≤ 500
                 · rw [namesM_ok (by omega) (all_of_take (i := i) (by omega) ha) (by rw [← List.take_of_length_le (l := l.xs.map (·.name)) (i := i) (by omega)]; exact hd)]
                   show AV.bool _ = _; rw [decide_eq_true (by omega)]
                 · rw [namesM_len (by omega)]; show AV.bool _ = _; rw [decide_eq_false (by omega)])
  rename_i hlt _
  have hlt : i < l.xs.length := by omega
  have hmi : (l.xs.map (·.name))[i]'(by omega) = l.xs[i].name := by simp
  have hsz : (strSl l.xs[i].name).xs.length < 9223372036854775808 := by
    have := hn l.xs[i] (List.getElem_mem hlt)
    rw [← size_data] at this; exact this
  refine WS.loop (D := Nat) (fun j => [(0, l.av 3 laneAV), (1, .fn 31 [] []), (5, .map b), (12, l.av 3 laneAV), (13, .int .i64 l.xs.length), (14, .int .i64 i), (8, .str l.xs[i].name), (22, (strSl l.xs[i].name).av 1 bitAV), (23, .int .i64 (strSl l.xs[i].name).xs.length), (24, .int .i64 j)])
      (fun _ => [(b, .map 9 4 (ents ((l.xs.map (·.name)).take i)))]) (fun _ => [])
      (fun j => j ≤ (strSl l.xs[i].name).xs.length ∧ ((strSl l.xs[i].name).xs.take j).all byteOk = true) (fun j => (strSl l.xs[i].name).xs.length + 1 - j) 0 ⟨by omega, by simp⟩ ?_ (.drop (.refl _)) (.nil _) ?_
  · repeat' (first | exact Sub.nil _ | refine Sub.cons (congrArg (fun z => some (AV.int .i64 z)) (wrap_succ (by omega))) ?_ | refine Sub.cons rfl ?_)
  rintro j ⟨hj, hb⟩
  repeat' (first | (refine OS.do rfl ?_; first | refine OD.auto rfl rfl ?_ | refine OD.indexAddr rfl rfl rfl (indexAddrA_nat rfl rfl rfl rfl (by first | assumption | exact List.getElem?_eq_getElem (by omega))) ?_ | refine OD.len rfl rfl (fun _ => rfl) ?_ | refine OD.lookup 0 rfl rfl rfl rfl (fun st hst => look_ents hst) ?_ | refine OD.mapUpdate 0 rfl rfl rfl rfl rfl rfl rfl (fun st hst => put_ents (memB_no (by assumption)) hst) ?_) | refine OS.nil ?_ | refine OS.skip rfl rfl rfl ?_ | refine WS.seq ?_ | refine QS.seqN ?_ | refine WS.region ?_ | refine WS.condT rfl ?_ | refine WS.condD rfl (fun _ => ?_) (fun _ => ?_) | refine WS.skip ?_ | refine WS.block ?_ | refine WS.ret ?_ | refine QS.seqR ?_ | refine QS.blockR ?_ | refine QS.loopR ?_ | refine QS.blockN ?_ | refine WS.exit ?_ | refine QS.seqE ?_ | refine QS.blockH ?_ | refine QS.loopE ?_ | refine WS.condB rfl (fun _ => ?_) (fun _ => ?_) | ((fail_if_success (refine OS.do rfl ?_)); first | refine OS.splitD rfl rfl rfl (fun _ => ?_) (fun _ => ?_) | refine OS.split rfl rfl rfl (fun _ => ?_) (fun _ => ?_)))
  all_goals try (refine QS.retR (by rfl) fun _ => ?_; rw [namesM_bad (i := i) (by omega) (by rw [hmi]; exact nameOk_sl (j := j) (by omega) (decide_eq_false (by omega)))]; rfl)
  all_goals try (refine QS.loopN (j + 1) ?_ ?_ ?_ ?_ ?_
                 · exact ⟨by omega, all_take_succ (by omega) hb (decide_eq_true (by omega))⟩
                 · omega
                 · repeat' (first | exact Sub.nil _ | refine Sub.cons (congrArg (fun z => some (AV.int .i64 z)) (wrap_succ (by omega))) ?_ | refine Sub.cons rfl ?_)
                 · exact .refl _
                 · exact .nil _)
  all_goals try (refine QS.retR (by rfl) fun _ => ?_; rw [namesM_bad (i := i) (by omega) (by rw [hmi]; first | exact nameOk_false (.inl (by rw [empty_yes (by assumption)]; omega)) | exact nameOk_false (.inr (by omega)))]; rfl)
  all_goals try (refine QS.retR (by rfl) fun _ => ?_; rw [namesM_dup (i := i) (by omega) (by rw [hmi]; exact memB_yes (by assumption))]; rfl)
  refine QS.loopN (i + 1) ?_ ?_ ?_ ?_ ?_
  · exact ⟨by omega, all_take_succ (by omega) ha (by rw [hmi]; exact nameOk_slT ⟨empty_no (by assumption), by omega⟩ (all_of_take (i := j) (by omega) hb)), nodup_take_succ (by omega) hd (by rw [hmi]; exact memB_no (by assumption))⟩
  · omega
  · repeat' (first | exact Sub.nil _ | refine Sub.cons (congrArg (fun z => some (AV.int .i64 z)) (wrap_succ (by omega))) ?_ | refine Sub.cons rfl ?_)
  · rw [List.take_succ_eq_append_getElem (by omega), hmi]; exact .refl _
  · exact .nil _
set_option maxHeartbeats 2000000 in
theorem run32 (h1 : pr 32 = none) {p : List AV → St → Option (AV × St)} (hp : pr 33 = some p) (hpr : ∀ (s : GHold) st, p [holdAV s] st = some (.str s.name, st)) (l : GSl GHold) (hl : l.xs.length < 9223372036854775808) (hn : ∀ x ∈ l.xs, x.name.size < 9223372036854775808) (st : St) : CW (En pr) 32 [l.av 3 holdAV, .fn 33 [] []] st fun r _ => r = .bool (namesM (l.xs.map (·.name))) := by
  refine CW.start (N := 53) h1 rfl rfl ?_
  repeat' (first | (refine OS.do rfl ?_; first | refine OD.auto rfl rfl ?_ | refine OD.len rfl rfl (fun _ => lenTy_av rfl rfl) ?_ | refine OD.makeMap rfl rfl rfl (fun _ => ?_)) | refine OS.nil ?_ | refine WS.seq ?_ | refine QS.seqN ?_ | refine WS.region ?_ | refine WS.block ?_)
  rename_i b
  refine WS.loop (D := Nat) (fun i => [(0, l.av 3 holdAV), (1, .fn 33 [] []), (5, .map b), (12, l.av 3 holdAV), (13, .int .i64 l.xs.length), (14, .int .i64 i)]) (fun i => [(b, .map 9 4 (ents ((l.xs.map (·.name)).take i)))]) (fun _ => [])
      (fun i => i ≤ l.xs.length ∧ ((l.xs.map (·.name)).take i).all nameOk = true ∧ ((l.xs.map (·.name)).take i).Nodup) (fun i => l.xs.length + 1 - i) 0 ⟨by omega, by simp, by simp⟩ ?_ (.refl _) (.nil _) ?_
  · repeat' (first | exact Sub.nil _ | refine Sub.cons (congrArg (fun z => some (AV.int .i64 z)) (wrap_succ (by omega))) ?_ | refine Sub.cons rfl ?_)
  rintro i ⟨hi, ha, hd⟩
  have hml : (l.xs.map (·.name)).length = l.xs.length := by simp
  repeat' (first | (refine OS.do rfl ?_; first | refine OD.convert (v := (strSl _).av 1 bitAV) rfl rfl rfl ?_ | refine OD.loadP 0 rfl rfl rfl rfl rfl rfl ?_ | refine OD.auto rfl rfl ?_ | refine OD.len rfl rfl (fun _ => lenTy_av rfl rfl) ?_ | refine OD.indexAddr rfl rfl rfl (indexAddrA_nat rfl rfl rfl rfl (by first | assumption | exact List.getElem?_eq_getElem (by omega))) ?_ | refine OD.alloc rfl rfl rfl rfl (fun _ => ?_) | refine OD.storeW 0 rfl rfl rfl rfl (by first | rfl | exact hold_ok _ | exact word_ok _ | exact rtl_ok _) rfl rfl rfl ?_ | refine OD.call rfl rfl rfl hp (hpr _) (fun _ => rfl) ?_) | refine OS.nil ?_ | refine WS.seq ?_ | refine QS.seqN ?_ | refine WS.region ?_ | refine WS.condD rfl (fun _ => ?_) (fun _ => ?_) | refine WS.skip ?_ | refine WS.block ?_ | refine WS.ret ?_ | refine WS.exit ?_ | refine QS.seqE ?_ | refine QS.blockH ?_ | refine QS.loopE ?_)
  all_goals try (refine QS.retR (by rfl) fun _ => ?_
                 by_cases hk : l.xs.length ≤ 500
                 · rw [namesM_ok (by omega) (all_of_take (i := i) (by omega) ha) (by rw [← List.take_of_length_le (l := l.xs.map (·.name)) (i := i) (by omega)]; exact hd)]
                   show AV.bool _ = _; rw [decide_eq_true (by omega)]
                 · rw [namesM_len (by omega)]; show AV.bool _ = _; rw [decide_eq_false (by omega)])
  rename_i hlt _
  have hlt : i < l.xs.length := by omega
  have hmi : (l.xs.map (·.name))[i]'(by omega) = l.xs[i].name := by simp
  have hsz : (strSl l.xs[i].name).xs.length < 9223372036854775808 := by
    have := hn l.xs[i] (List.getElem_mem hlt)
    rw [← size_data] at this; exact this
  refine WS.loop (D := Nat) (fun j => [(0, l.av 3 holdAV), (1, .fn 33 [] []), (5, .map b), (12, l.av 3 holdAV), (13, .int .i64 l.xs.length), (14, .int .i64 i), (8, .str l.xs[i].name), (22, (strSl l.xs[i].name).av 1 bitAV), (23, .int .i64 (strSl l.xs[i].name).xs.length), (24, .int .i64 j)])
      (fun _ => [(b, .map 9 4 (ents ((l.xs.map (·.name)).take i)))]) (fun _ => [])
      (fun j => j ≤ (strSl l.xs[i].name).xs.length ∧ ((strSl l.xs[i].name).xs.take j).all byteOk = true) (fun j => (strSl l.xs[i].name).xs.length + 1 - j) 0 ⟨by omega, by simp⟩ ?_ (.drop (.refl _)) (.nil _) ?_
  · repeat' (first | exact Sub.nil _ | refine Sub.cons (congrArg (fun z => some (AV.int .i64 z)) (wrap_succ (by omega))) ?_ | refine Sub.cons rfl ?_)
  rintro j ⟨hj, hb⟩
  repeat' (first | (refine OS.do rfl ?_; first | refine OD.auto rfl rfl ?_ | refine OD.indexAddr rfl rfl rfl (indexAddrA_nat rfl rfl rfl rfl (by first | assumption | exact List.getElem?_eq_getElem (by omega))) ?_ | refine OD.len rfl rfl (fun _ => rfl) ?_ | refine OD.lookup 0 rfl rfl rfl rfl (fun st hst => look_ents hst) ?_ | refine OD.mapUpdate 0 rfl rfl rfl rfl rfl rfl rfl (fun st hst => put_ents (memB_no (by assumption)) hst) ?_) | refine OS.nil ?_ | refine OS.skip rfl rfl rfl ?_ | refine WS.seq ?_ | refine QS.seqN ?_ | refine WS.region ?_ | refine WS.condT rfl ?_ | refine WS.condD rfl (fun _ => ?_) (fun _ => ?_) | refine WS.skip ?_ | refine WS.block ?_ | refine WS.ret ?_ | refine QS.seqR ?_ | refine QS.blockR ?_ | refine QS.loopR ?_ | refine QS.blockN ?_ | refine WS.exit ?_ | refine QS.seqE ?_ | refine QS.blockH ?_ | refine QS.loopE ?_ | refine WS.condB rfl (fun _ => ?_) (fun _ => ?_) | ((fail_if_success (refine OS.do rfl ?_)); first | refine OS.splitD rfl rfl rfl (fun _ => ?_) (fun _ => ?_) | refine OS.split rfl rfl rfl (fun _ => ?_) (fun _ => ?_)))
  all_goals try (refine QS.retR (by rfl) fun _ => ?_; rw [namesM_bad (i := i) (by omega) (by rw [hmi]; exact nameOk_sl (j := j) (by omega) (decide_eq_false (by omega)))]; rfl)
  all_goals try (refine QS.loopN (j + 1) ?_ ?_ ?_ ?_ ?_
                 · exact ⟨by omega, all_take_succ (by omega) hb (decide_eq_true (by omega))⟩
                 · omega
                 · repeat' (first | exact Sub.nil _ | refine Sub.cons (congrArg (fun z => some (AV.int .i64 z)) (wrap_succ (by omega))) ?_ | refine Sub.cons rfl ?_)
                 · exact .refl _
                 · exact .nil _)
  all_goals try (refine QS.retR (by rfl) fun _ => ?_; rw [namesM_bad (i := i) (by omega) (by rw [hmi]; first | exact nameOk_false (.inl (by rw [empty_yes (by assumption)]; omega)) | exact nameOk_false (.inr (by omega)))]; rfl)
  all_goals try (refine QS.retR (by rfl) fun _ => ?_; rw [namesM_dup (i := i) (by omega) (by rw [hmi]; exact memB_yes (by assumption))]; rfl)
  refine QS.loopN (i + 1) ?_ ?_ ?_ ?_ ?_
  · exact ⟨by omega, all_take_succ (by omega) ha (by rw [hmi]; exact nameOk_slT ⟨empty_no (by assumption), by omega⟩ (all_of_take (i := j) (by omega) hb)), nodup_take_succ (by omega) hd (by rw [hmi]; exact memB_no (by assumption))⟩
  · omega
  · repeat' (first | exact Sub.nil _ | refine Sub.cons (congrArg (fun z => some (AV.int .i64 z)) (wrap_succ (by omega))) ?_ | refine Sub.cons rfl ?_)
  · rw [List.take_succ_eq_append_getElem (by omega), hmi]; exact .refl _
  · exact .nil _
end
end Go.RtlEnv
