/- Own text of this claim: part 13 of an interpreter that is proved sound against the model, and of what it shows of the law. -/
import Derived.Test.YthomnnnhkfjbdaaGreatAbs12
import Derived.Test.YthomnnnhkfjbdaaGreatAbs10
/- The reference's Clean. -/
namespace Go.OptEnv
open Go Go.Proofs Go.Abs Go.RowKit Go.NetM
set_option maxRecDepth 10000
def layQ (n : GNet) (s : List Int × List (Int × Int)) : GNet := ⟨GSl.some n.ins.xs, GSl.some (n.regs.xs.map (withNext s.1)), GSl.of s.2, GSl.some (n.outs.xs.map (withLit s.1))⟩
theorem layQ_same (n : GNet) (s : List Int × List (Int × Int)) : SameC (layQ n s) (layN n s) := by
  obtain ⟨b1, b2, b3, b4⟩ := lay_xs (n := n) (s := s)
  exact ⟨b1.symm, b2.symm, by rw [b3]; exact gof_xs _, b4.symm⟩
theorem atL_front {l : List Int} {y x : Int} {n : Nat} (h : (x / 2).toNat < l.length) : atL ((l ++ [y]) ++ List.replicate n 0) x = atL l x := by
  rw [atL_zeros]
  unfold atL
  rw [getD_snocI, if_pos h]
theorem freeze_rr {L : List (Nat × AObj)} {st : St} {i g : AV} {kr ko rb nr ob no : Nat} {R : List GReg} {P : List GPin} (hi : AV.free i = true) (hg : AV.free g = true) (hn : nr = R.length) (hm : no = P.length) (hS : SFa L [] st) (hr : L[kr]? = some (rb, .row 3 (R.map regAV))) (ho : L[ko]? = some (ob, .row 2 (P.map pinAV))) (hne : rb ≠ ob) :
    ∃ t t' st2, freezeA st (.tup [.agg [i, .sl 3 rb 0 nr, g, .sl 2 ob 0 no], .int .i64 0]) = some (.tup [.agg [i, .vs 3 (.tok t) (R.map regAV), g, .vs 2 (.tok t') (P.map pinAV)], .int .i64 0], st2) := by
  subst hn; subst hm
  have hgt := (hS.obj kr rb _ hr).1
  have hgo := (hS.obj ko ob _ ho).1
  have e : freezeC st (.sl 3 rb 0 R.length) = some (.vs 3 (.tok st.next) (R.map regAV), (st.drop rb).newTok) := by
    simp only [freezeC, hgt]
    rw [if_pos ⟨trivial, by simp⟩, if_pos (by simp), List.drop_zero, List.take_of_length_le (by simp)]
  have hgo2 : ((st.drop rb).newTok).get ob = some (.row 2 (P.map pinAV)) := by
    rw [St.get_newTok, St.get_drop, if_neg hne]; exact hgo
  have e2 : freezeC ((st.drop rb).newTok) (.sl 2 ob 0 P.length) = some (.vs 2 (.tok ((st.drop rb).newTok).next) (P.map pinAV), (((st.drop rb).newTok).drop ob).newTok) := by
    simp only [freezeC, hgo2]
    rw [if_pos ⟨trivial, by simp⟩, if_pos (by simp), List.drop_zero, List.take_of_length_le (by simp)]
  refine ⟨st.next, ((st.drop rb).newTok).next, (((st.drop rb).newTok).drop ob).newTok, ?_⟩
  simp only [freezeA, freezeM, freezeB, freezeL, freezeC_free hi, e, freezeC_free hg, e2]
  rfl
def Rel53 : Rel := RelF FitsN (fun n => [netAV n]) fun n => resAV n (layQ n (cleanS n))
/-- Own's net, whose gates grow. -/
def mkQ (n : GNet) (g : Bool × Nat) (rb ob : Nat) : MkR := ⟨growA g.1 g.2 1 (n.ins.xs.map strAV), .sl 3 rb 0 n.regs.xs.length, .sl 2 ob 0 n.outs.xs.length⟩
attribute [local irreducible] WS QS OS OD Abs.Sub SubO SubK CW GSl.av accA growA
section
variable {pr : Prims} {L : List (Nat × AObj)} {K : List (Nat × Bool)} {st : St}
theorem use99s (h : Has pr 99 Rel99) {kl lb N : Nat} {k : Int} {v : List Int} (hL : L[kl]? = some (lb, .row 1 (v.map intAV))) (hN : N = v.length) (hS : SFa L K st) (hk : 0 ≤ k ∧ k < 4611686018427387904 ∧ k / 2 < v.length) (hv : 0 ≤ v.getD (k / 2).toNat 0 ∧ v.getD (k / 2).toNat 0 < 4611686018427387904) : primOf Rel99 [.sl 1 lb 0 N, .int .i64 k] st = some (.int .i64 (atL v k), st) := by
  subst hN
  have hg := (hS.obj kl lb _ hL).1
  have hf2 : AV.free (.sl 1 lb 0 v.length) = false := rfl
  have e1 : viewA st 9 (.sl 1 lb 0 v.length) = some ((GSl.some v).av 1 intAV) := by
    simp only [viewA, hf2, hg, Bool.false_eq_true, if_false]
    rw [if_pos ⟨trivial, by simp⟩, List.drop_zero, List.take_of_length_le (by simp)]
    have : mapO (viewA st 8) (v.map intAV) = some (v.map intAV) := by
      have h := mapO_free (st := st) 7 (xs := v.map intAV) (freeL_map int_free v)
      rw [plainL_map int_plain] at h
      exact h
    simp only [viewA] at this
    rw [this]; unfold GSl.av; rfl
  have e2 : viewA st 9 (.int .i64 k) = some (.int .i64 k) := viewA_free 8 rfl
  exact h.view (a := [(GSl.some v).av 1 intAV, .int .i64 k]) (r := .int .i64 (atL v k)) (by simp only [mapO, e1, e2]) ⟨(GSl.some v, k), ⟨hk, hv⟩, rfl, rfl⟩ rfl
set_option maxHeartbeats 4000000 in
theorem run53 (h1 : pr 53 = none) (h31 : Has pr 31 Rel31) (h46 : pr 46 = none) (h99 : Has pr 99 Rel99) (h100 : Has pr 100 Rel100) (h73 : Has pr 73 Rel73) (n : GNet) (hn : FitsN n) (st : St) :
    CW (En pr) 53 [netAV n] st fun r st' => ∃ r' st2, freezeA st' r = some (r', st2) ∧ AV.plain r' = resAV n (layQ n (cleanS n)) ∧ AV.free r' = true := by
  have u31 := use31 h31 hn
  rcases (Bool.eq_false_or_eq_true (validM n)).symm with hV | hV
  · rw [hV] at u31
    refine CW.start (N := 151) h1 rfl rfl ?_
    repeat' (first | (refine OS.do rfl ?_; first | refine OD.box rfl rfl rfl rfl (net_ok _) rfl (fun b1 => ?_) | refine OD.auto rfl rfl ?_ | refine OD.loadP 1 rfl rfl rfl rfl rfl rfl ?_ | refine OD.alloc rfl rfl rfl rfl (fun _ => ?_) | refine OD.storeW 0 rfl rfl rfl rfl (by first | rfl | exact net_ok _) rfl rfl rfl ?_ | refine OD.call rfl rfl rfl h31.eq u31 (fun _ => rfl) ?_) | refine OS.nil ?_ | refine WS.seq ?_ | refine QS.seqN ?_ | refine WS.region ?_ | refine WS.condT rfl ?_ | refine WS.ret ?_ | refine QS.seqR ?_)
    refine QS.retO (ResO.cell 0 (by rfl) (by rfl) (by rfl) (by rfl) (by rfl) (.tmp (by rfl) .nil)) fun st hs => ⟨_, st, freeze_free rfl, ?_, rfl⟩
    rw [res_no hV]; rfl
  rw [hV] at u31
  obtain ⟨f1, f2, f3, f4⟩ := valid_len hV
  obtain ⟨hgo, hrn, hol⟩ := valid_lits hV
  have hk1 : 1 ≤ n.kN ∧ n.kN ≤ 2001 := by unfold GNet.kN; omega
  have hfst : n.first = (n.kN : Int) := by unfold GNet.first GNet.kN; omega
  have u73 := use73 h73 hn
  rw [hfst] at u73
  have hnl : n.nexts.length = n.regs.xs.length := by simp [GNet.nexts]
  refine CW.start (N := 151) h1 rfl rfl ?_
  repeat' (first | (refine OS.do rfl ?_; first | refine OD.box rfl rfl rfl rfl (net_ok _) rfl (fun b1 => ?_) | refine OD.auto rfl rfl ?_ | refine OD.loadP 1 rfl rfl rfl rfl rfl rfl ?_ | refine OD.len rfl rfl (fun _ => lenTy_av rfl rfl) ?_ | refine OD.alloc rfl rfl rfl rfl (fun _ => ?_) | refine OD.call rfl rfl rfl h31.eq u31 (fun _ => rfl) ?_) | refine OS.nil ?_ | refine WS.seq ?_ | refine QS.seqN ?_ | refine WS.region ?_ | refine WS.condF rfl ?_ | refine WS.skip ?_ | refine WS.block ?_)
  rename_i b2
  refine WS.newK ?_
  refine WS.range (A := Nat × List Int) (n := n.regs.xs.length) ⟨24, _, fun a => [(4, accA a.1 1 (a.2.map intAV))], fun _ => [(b2, .row ty27.size [ty27.zeroV]), (b1, .row ty27.size [netAV n])], fun a => [(a.1, !a.2.isEmpty)], fun i a => a.2 = n.nexts.take i⟩ ((0, [])) [1, 2, 22, 23] (by rfl) (by omega) (rfl) (by rfl) (by (try dsimp only); repeat' (first | exact Sub.nil _ | refine Sub.cons (congrArg some (accA_nil2 _ _).symm) ?_ | refine Sub.cons (congrArg (fun z => some (AV.int .i64 z)) (wrap_succ (by omega))) ?_ | refine Sub.cons rfl ?_)) (by (try dsimp only); repeat' (first | exact SubO.nil _ | exact SubO.refl _ | refine SubO.keep ?_ | refine SubO.drop ?_)) (by (try dsimp only); repeat' (first | exact SubK.nil _ | exact SubK.refl _ | refine SubK.keep (by simp) ?_ | refine SubK.new ?_ | refine SubK.drop ?_)) (by rfl) (by rfl) (by rfl) (by rfl) (by rfl) (by rfl) (fun _ _ => by rfl) (fun _ => by rfl) (fun _ _ => by rfl) (fun _ _ => by rfl) ?_ ?_
  · rintro i ⟨t, R⟩ hi hR
    try dsimp only at hR
    have hRl : R.length = i := by rw [hR, List.length_take]; omega
    have hgm : R.map intAV ++ [.int .i64 n.regs.xs[i].next] = (R ++ [n.regs.xs[i].next]).map intAV := by rw [List.map_append]; rfl
    have hnx : n.nexts.take (i + 1) = n.nexts.take i ++ [n.regs.xs[i].next] := by
      rw [List.take_succ_eq_append_getElem (by omega)]; simp [GNet.nexts]
    dsimp only [RSt.at, List.cons_append, List.nil_append]
    repeat' (first | (refine OS.do rfl ?_; first | refine OD.loadP 0 rfl rfl rfl rfl rfl rfl ?_ | refine OD.auto rfl rfl ?_ | refine OD.indexAddr rfl rfl rfl (indexAddrA_nat rfl rfl rfl rfl (by first | assumption | exact List.getElem?_eq_getElem (by omega))) ?_ | refine OD.alloc rfl rfl rfl rfl (fun _ => ?_) | refine OD.storeW 0 rfl rfl rfl rfl (by first | rfl | exact net_ok _) rfl rfl rfl ?_ | refine OD.append 0 (xs := R.map intAV) (ys := [.int .i64 n.regs.xs[i].next]) rfl rfl rfl rfl (by rw [List.isEmpty_map]; rfl) rfl rfl rfl rfl rfl rfl (.inr ⟨⟨_, rfl⟩, rfl⟩) (fun _ => rfl) rfl rfl (roomB rfl (by simp only [List.length_map, List.length_singleton]; omega)) (fun t' => ?_)) | refine OS.nil ?_ | refine WS.seq ?_ | refine QS.seqN ?_ | refine WS.region ?_)
    rw [hgm, List.isEmpty_map]
    refine QS.rangeN ((t', R ++ [n.regs.xs[i].next])) (by (try dsimp only) <;> exact (by rw [hnx, ← hR])) (by (try dsimp only [RSt.at, List.cons_append, List.nil_append]); repeat' (first | exact Sub.nil _ | refine Sub.cons (congrArg (fun z => some (AV.int .i64 z)) (wrap_succ (by omega))) ?_ | refine Sub.cons rfl ?_)) (by (try dsimp only); exact SubO.drop (SubO.refl _)) (by (try dsimp only); repeat' (first | exact SubK.nil _ | exact SubK.refl _ | refine SubK.keep (by simp) ?_ | refine SubK.new ?_ | refine SubK.drop ?_))
  rintro ⟨t, R⟩ hR
  try dsimp only at hR
  rw [List.take_of_length_le (by omega)] at hR
  dsimp only [RSt.at, List.cons_append, List.nil_append]
  repeat' (first | (refine OS.do rfl ?_; first | refine OD.auto rfl rfl ?_ | refine OD.loadP 1 rfl rfl rfl rfl rfl rfl ?_ | refine OD.len rfl rfl (fun _ => lenTy_av rfl rfl) ?_) | refine OS.nil ?_ | refine WS.seq ?_ | refine QS.seqN ?_ | refine WS.region ?_ | refine WS.block ?_)
  refine WS.range (A := Nat × List Int) (n := n.outs.xs.length) ⟨37, _, fun a => [(4, accA a.1 1 (a.2.map intAV))], fun _ => [(b2, .row ty27.size [ty27.zeroV]), (b1, .row ty27.size [netAV n])], fun a => [(a.1, !a.2.isEmpty)], fun i a => a.2 = n.nexts ++ (n.outs.xs.take i).map (·.lit)⟩ ((t, R)) [1, 2, 35, 36] (by rfl) (by omega) (by simp [hR]) (by rfl) (by (try dsimp only); repeat' (first | exact Sub.nil _ | refine Sub.cons (congrArg (fun z => some (AV.int .i64 z)) (wrap_succ (by omega))) ?_ | refine Sub.cons rfl ?_)) (by (try dsimp only); repeat' (first | exact SubO.nil _ | exact SubO.refl _ | refine SubO.keep ?_ | refine SubO.drop ?_)) (by (try dsimp only); repeat' (first | exact SubK.nil _ | exact SubK.refl _ | refine SubK.keep (by simp) ?_ | refine SubK.new ?_ | refine SubK.drop ?_)) (by rfl) (by rfl) (by rfl) (by rfl) (by rfl) (by rfl) (fun _ _ => by rfl) (fun _ => by rfl) (fun _ _ => by rfl) (fun _ _ => by rfl) ?_ ?_
  · rintro i ⟨t, R⟩ hi hR
    try dsimp only at hR
    have hRl : R.length = n.regs.xs.length + i := by rw [hR, List.length_append, List.length_map, List.length_take]; omega
    have hgm : R.map intAV ++ [.int .i64 n.outs.xs[i].lit] = (R ++ [n.outs.xs[i].lit]).map intAV := by rw [List.map_append]; rfl
    dsimp only [RSt.at, List.cons_append, List.nil_append]
    repeat' (first | (refine OS.do rfl ?_; first | refine OD.loadP 0 rfl rfl rfl rfl rfl rfl ?_ | refine OD.auto rfl rfl ?_ | refine OD.indexAddr rfl rfl rfl (indexAddrA_nat rfl rfl rfl rfl (by first | assumption | exact List.getElem?_eq_getElem (by omega))) ?_ | refine OD.alloc rfl rfl rfl rfl (fun _ => ?_) | refine OD.storeW 0 rfl rfl rfl rfl (by first | rfl | exact net_ok _) rfl rfl rfl ?_ | refine OD.append 0 (xs := R.map intAV) (ys := [.int .i64 n.outs.xs[i].lit]) rfl rfl rfl rfl (by rw [List.isEmpty_map]; rfl) rfl rfl rfl rfl rfl rfl (.inr ⟨⟨_, rfl⟩, rfl⟩) (fun _ => rfl) rfl rfl (roomB rfl (by simp only [List.length_map, List.length_singleton]; omega)) (fun t' => ?_)) | refine OS.nil ?_ | refine WS.seq ?_ | refine QS.seqN ?_ | refine WS.region ?_)
    rw [hgm, List.isEmpty_map]
    refine QS.rangeN ((t', R ++ [n.outs.xs[i].lit])) (by (try dsimp only) <;> exact (by rw [map_take_succ hi, hR, List.append_assoc])) (by (try dsimp only [RSt.at, List.cons_append, List.nil_append]); repeat' (first | exact Sub.nil _ | refine Sub.cons (congrArg (fun z => some (AV.int .i64 z)) (wrap_succ (by omega))) ?_ | refine Sub.cons rfl ?_)) (by (try dsimp only); exact SubO.drop (SubO.refl _)) (by (try dsimp only); repeat' (first | exact SubK.nil _ | exact SubK.refl _ | refine SubK.keep (by simp) ?_ | refine SubK.new ?_ | refine SubK.drop ?_))
  rintro ⟨t, R⟩ hR
  try dsimp only at hR
  rw [List.take_of_length_le (Nat.le_refl _)] at hR
  have hR : R = n.roots := hR
  subst hR
  have hrl : n.roots.length ≤ 2000 := by unfold GNet.roots; rw [List.length_append, List.length_map]; omega
  have hro : ∀ l ∈ n.roots, 0 ≤ l ∧ l < 2 * ((n.kN + n.gates.xs.length : Nat) : Int) := fun l hl => by
    rcases List.mem_append.1 hl with h | h
    · obtain ⟨r, hr, rfl⟩ := List.mem_map.1 h; exact hrn r hr
    · obtain ⟨r, hr, rfl⟩ := List.mem_map.1 h; exact hol r hr
  have u100 := use100a h100 hn (t := t) hV (by omega) hro
  have z100 : ∀ st, freezeA st ((GSl.some (coneN n n.roots)).av 1 boolAV) = some ((GSl.some (coneN n n.roots)).av 1 boolAV, st) := fun st => freeze_free (free_av bool_free)
  have hcl : (GSl.some (coneN n n.roots)).xs.length = n.kN + n.gates.xs.length := coneM_len
  dsimp only [RSt.at, List.cons_append, List.nil_append]
  repeat' (first | (refine OS.do rfl ?_; first | refine OD.storeW 0 rfl rfl rfl rfl (ownA_ok n g rb ob) rfl rfl rfl ?_ | refine OD.auto rfl rfl ?_ | refine OD.loadP 1 rfl rfl rfl rfl rfl rfl ?_ | refine OD.len rfl rfl (fun _ => lenTy_av rfl rfl) ?_ | refine OD.alloc rfl rfl rfl rfl (fun _ => ?_) | refine OD.call rfl rfl rfl h100.eq u100 z100 ?_ | (refine OD.callR (D := ((Bool × Nat) × (Bool × Nat)) × Nat × Nat) (fun _ => True) (fun d => ownA n d.1 d.2.1 d.2.2) (fun d => (d.2.2, .row 2 (n.outs.xs.map pinAV)) :: (d.2.1, .row 3 (n.regs.xs.map regAV)) :: _) (fun _ => []) rfl rfl rfl rfl (fun st hS => run46n h46 n (by omega) (by omega) (by omega) (by omega) hS.noK) ?_; rintro ⟨g, rb, ob⟩ _) | refine OD.storeG 0 rfl rfl rfl rfl rfl rfl rfl rfl ?_ | (refine OD.makeSlice (n := n.kN + n.gates.xs.length) rfl (congrArg (fun (z : Nat) => some (AV.int .i64 (z : Int))) hcl) (congrArg (fun (z : Nat) => some (AV.int .i64 (z : Int))) hcl) rfl rfl rfl rfl rfl (roomB rfl (by omega)) (fun lb => ?_))) | refine OS.nil ?_ | refine WS.seq ?_ | refine QS.seqN ?_ | refine WS.region ?_ | refine WS.block ?_)
  rename_i cb
  have hmo : AObj.row ty27.size [AV.agg [growA g.1.1 g.1.2 1 (n.ins.xs.map strAV), .sl 3 rb 0 n.regs.xs.length, .nilsl, .sl 2 ob 0 n.outs.xs.length]] = (mkQ n g.1 rb ob).obj 0 [] := by
    unfold MkR.obj MkR.av mkQ
    rw [List.map_nil, acc_nil]; rfl
  rw [show List.replicate (n.kN + n.gates.xs.length) ty3.zeroV = (idL 0 ++ List.replicate (n.kN + n.gates.xs.length - (idL 0).length) 0).map intAV from rep_int _]
  refine WS.newK ?_
  refine WS.objs (L' := [(lb, .row ty3.size ((idL 0 ++ List.replicate (n.kN + n.gates.xs.length - (idL 0).length) 0).map intAV)), (cb, (mkQ n g.1 rb ob).obj 0 []), (ob, .row 2 (n.outs.xs.map pinAV)), (rb, .row 3 (n.regs.xs.map regAV)), (b2, .row ty27.size [ty27.zeroV]), (b1, .row ty27.size [netAV n])]) (by rw [← hmo]; exact SubO.refl _) ?_
  generalize hkeep : coneN n n.roots = keep at *
  have hzero : ∀ {lits : List Int} {i : Nat}, lits.length = i → i < n.kN + n.gates.xs.length → ((lits ++ List.replicate (n.kN + n.gates.xs.length - lits.length) 0).map intAV)[i]? = some (.int .i64 0) := fun {lits i} hl hi => by
    rw [List.getElem?_map, List.getElem?_append_right (by omega), hl, Nat.sub_self, List.getElem?_replicate, if_pos (by omega)]; rfl
  have hset : ∀ {lits : List Int} {i : Nat} (x : Int), lits.length = i → i < n.kN + n.gates.xs.length → ((lits ++ List.replicate (n.kN + n.gates.xs.length - lits.length) 0).map intAV).set i (.int .i64 x) = ((lits ++ [x]) ++ List.replicate (n.kN + n.gates.xs.length - (lits ++ [x]).length) 0).map intAV := fun {lits i} x hl hi => by
    have hrep : n.kN + n.gates.xs.length - lits.length = (n.kN + n.gates.xs.length - (lits.length + 1)) + 1 := by omega
    have e : ((lits ++ List.replicate (n.kN + n.gates.xs.length - lits.length) 0).map intAV).set i (.int .i64 x) = ((lits ++ List.replicate (n.kN + n.gates.xs.length - lits.length) 0).set lits.length x).map intAV := by rw [List.map_set, hl]; rfl
    rw [e, hrep, set_zeros, List.length_append]; rfl
  refine WS.loopK (D := Nat) [1, 2, 9, 10, 11] (by rfl) (fun j => [(12, .int .i64 (j : Int))]) (fun j => [(lb, .row ty3.size ((idL j ++ List.replicate (n.kN + n.gates.xs.length - (idL j).length) 0).map intAV)), (cb, (mkQ n g.1 rb ob).obj 0 []), (ob, .row 2 (n.outs.xs.map pinAV)), (rb, .row 3 (n.regs.xs.map regAV)), (b2, .row ty27.size [ty27.zeroV]), (b1, .row ty27.size [netAV n])]) (fun _ => [(0, false)]) (fun j => j ≤ n.kN) (fun j => n.kN - j) (0) (Nat.zero_le _) (by (try dsimp only); repeat' (first | exact Sub.nil _ | refine Sub.cons (congrArg (fun z => some (AV.int .i64 z)) (wrap_succ (by omega))) ?_ | refine Sub.cons rfl ?_)) (by (try dsimp only); repeat' (first | exact SubO.nil _ | exact SubO.refl _ | refine SubO.keep ?_ | refine SubO.drop ?_)) (by (try dsimp only); repeat' (first | exact SubK.nil _ | exact SubK.refl _ | refine SubK.keep (by simp) ?_ | refine SubK.new ?_ | refine SubK.drop ?_)) ?_
  rintro j hj
  try dsimp only at hj
  have hw : IntKind.i64.wrap (2 * (j : Int)) = 2 * (j : Int) := wrap64 (by omega) (by omega)
  dsimp only [RSt.at, List.cons_append, List.nil_append]
  repeat' (first | (refine OS.do rfl ?_; first | refine OD.auto rfl rfl ?_ | refine OD.len rfl rfl (fun _ => lenTy_av rfl rfl) ?_ | refine OD.loadP 5 rfl rfl rfl rfl rfl rfl ?_ | refine OD.call rfl rfl rfl h73.eq u73 (fun _ => rfl) ?_ | refine OD.indexAddr rfl rfl rfl (indexAddrA_sl rfl rfl rfl rfl (by omega)) ?_ | (rw [hw]; refine OD.storeI 0 rfl rfl rfl rfl rfl (hzero (idL_len j) (by omega)) ?_)) | refine OS.nil ?_ | refine WS.seq ?_ | refine QS.seqN ?_ | refine WS.region ?_ | refine WS.condD rfl (fun _ => ?_) (fun _ => ?_) | refine WS.skip ?_ | refine WS.block ?_ | refine QS.blockN ?_ | refine WS.exit ?_ | refine QS.seqE ?_ | refine QS.blockH ?_ | refine QS.loopE ?_)
  · rename_i hc
    have hj2 : j < n.kN + n.gates.xs.length := by omega
    dsimp only [List.set_cons_zero]
    rw [hset _ (idL_len j) hj2, ← idL_succ]
    refine QS.loopN (j + 1) (by exact (by show j + 1 ≤ n.kN; omega)) (by exact (by show n.kN - (j + 1) < n.kN - j; omega)) (by (try dsimp only [List.cons_append, List.nil_append]); repeat' (first | exact Sub.nil _ | refine Sub.cons (congrArg (fun z => some (AV.int .i64 z)) (wrap_succ (by omega))) ?_ | refine Sub.cons rfl ?_)) (by (try dsimp only); repeat' (first | exact SubO.nil _ | exact SubO.refl _ | refine SubO.keep ?_ | refine SubO.drop ?_)) (by (try dsimp only); repeat' (first | exact SubK.nil _ | exact SubK.refl _ | refine SubK.keep (by simp) ?_ | refine SubK.new ?_ | refine SubK.drop ?_))
  rename_i hc
  have hjk : j = n.kN := by omega
  subst hjk
  refine WS.range (A := Nat × List Int × List (Int × Int)) (n := n.gates.xs.length) ⟨70, _, fun _ => [], fun a => [(lb, .row ty3.size ((a.2.1 ++ List.replicate (n.kN + n.gates.xs.length - a.2.1.length) 0).map intAV)), (cb, (mkQ n g.1 rb ob).obj a.1 a.2.2), (ob, .row 2 (n.outs.xs.map pinAV)), (rb, .row 3 (n.regs.xs.map regAV)), (b2, .row ty27.size [ty27.zeroV]), (b1, .row ty27.size [netAV n])], fun a => [(a.1, !a.2.2.isEmpty)], fun i a => (a.2.1, a.2.2) = nodeM n keep (n.kN + i)⟩ ((0, idL n.kN, [])) [1, 2, 9, 10, 11, 68, 69] (by rfl) (by omega) (by unfold nodeM; dsimp only; rw [if_neg (by omega), Nat.add_zero, Nat.sub_self]; rfl) (by rfl) (by (try dsimp only); repeat' (first | exact Sub.nil _ | refine Sub.cons (congrArg (fun z => some (AV.int .i64 z)) (wrap_succ (by omega))) ?_ | refine Sub.cons rfl ?_)) (by (try dsimp only); repeat' (first | exact SubO.nil _ | exact SubO.refl _ | refine SubO.keep ?_ | refine SubO.drop ?_)) (by (try dsimp only); repeat' (first | exact SubK.nil _ | exact SubK.refl _ | refine SubK.keep (by simp) ?_ | refine SubK.new ?_ | refine SubK.drop ?_)) (by rfl) (by rfl) (by rfl) (by rfl) (by rfl) (by rfl) (fun _ _ => by rfl) (fun _ => by rfl) (fun _ _ => by rfl) (fun _ _ => by rfl) ?_ ?_
  · rintro j ⟨tg, lits, G⟩ hj hA
    try dsimp only at hA
    have hs := nodeM_ok (n := n) (keep := keep) (i := j) (by omega)
    rw [← hA] at hs
    have hl : lits.length = n.kN + j := hs.len
    have hGl := hs.gates
    try dsimp only at hGl
    obtain ⟨⟨g1, g2⟩, g3, g4⟩ := hgo j hj
    have hkl : keep.length = n.kN + n.gates.xs.length := hcl
    have hkx : (GSl.some keep).xs[((n.kN + j : Nat) : Int).toNat]? = some (keep.getD (n.kN + j) false) := by
      show keep[n.kN + j]? = _
      rw [List.getD_eq_getElem?_getD, List.getElem?_eq_getElem (by omega)]; rfl
    have hwk : IntKind.i64.wrap ((n.kN : Int) + (j : Int)) = ((n.kN + j : Nat) : Int) := by rw [wrap64 (by omega) (by omega)]; omega
    have hwv : IntKind.i64.wrap (2 * IntKind.i64.wrap ((n.kN : Int) + (G.length : Int))) = 2 * ((n.kN + G.length : Nat) : Int) := by
      rw [wrap64 (n := (n.kN : Int) + (G.length : Int)) (by omega) (by omega), wrap64 (by omega) (by omega)]; omega
    have hki : indexAddrA (En pr) 38 (.sl ty3.size lb 0 (n.kN + n.gates.xs.length)) (.int .i64 (IntKind.i64.wrap ((n.kN : Int) + (j : Int)))) = some (.ptr lb (n.kN + j) 0) := by
      rw [hwk]; exact indexAddrA_sl rfl rfl rfl rfl (by omega)
    have u99 : ∀ (l v : Int), 0 ≤ l ∧ l < 2 * ((n.kN + j : Nat) : Int) → ∀ {L' : List (Nat × AObj)} {K' : List (Nat × Bool)} (kl : Nat), L'[kl]? = some (lb, .row 1 (((lits ++ [v]) ++ List.replicate (n.kN + n.gates.xs.length - (lits ++ [v]).length) 0).map intAV)) → ∀ st, SFa L' K' st → primOf Rel99 [.sl 1 lb 0 (n.kN + n.gates.xs.length), .int .i64 l] st = some (.int .i64 (atL lits l), st) := fun l v hl2 L' K' kl hL st hS => by
      have hr := hs.range (l / 2).toNat
      dsimp only at hr
      have hgd : ((lits ++ [v]) ++ List.replicate (n.kN + n.gates.xs.length - (lits ++ [v]).length) 0).getD (l / 2).toNat 0 = lits.getD (l / 2).toNat 0 := by rw [getD_zeros, getD_snocI, if_pos (by omega)]
      have hLen : ((lits ++ [v]) ++ List.replicate (n.kN + n.gates.xs.length - (lits ++ [v]).length) 0).length = n.kN + n.gates.xs.length := by simp only [List.length_append, List.length_singleton, List.length_replicate]; omega
      have := use99s h99 (N := n.kN + n.gates.xs.length) (k := l) hL hLen.symm hS ⟨hl2.1, by omega, by omega⟩ (by rw [hgd]; omega)
      rw [atL_front (by omega)] at this
      exact this
    have hgm : G.map gateAV ++ [gateAV (atL lits n.gates.xs[j].1, atL lits n.gates.xs[j].2)] = (G ++ [(atL lits n.gates.xs[j].1, atL lits n.gates.xs[j].2)]).map gateAV := by rw [List.map_append]; rfl
    dsimp only [RSt.at, List.cons_append, List.nil_append]
    repeat' (first | (refine OS.do rfl ?_; first | refine OD.indexAddr rfl rfl rfl (indexAddrA_int rfl rfl rfl rfl (by rw [hwk]; omega) (by rw [hwk]; exact hkx)) ?_ | refine OD.auto rfl rfl ?_ | refine OD.indexAddr rfl rfl rfl (indexAddrA_nat rfl rfl rfl rfl (by first | assumption | exact List.getElem?_eq_getElem (by omega))) ?_ | refine OD.alloc rfl rfl rfl rfl (fun _ => ?_) | refine OD.storeW 0 rfl rfl rfl rfl (by first | rfl | exact net_ok _) rfl rfl rfl ?_ | refine OD.loadP 6 rfl rfl rfl rfl rfl rfl ?_ | refine OD.call rfl rfl rfl h73.eq u73 (fun _ => rfl) ?_) | refine OS.nil ?_ | refine WS.seq ?_ | refine QS.seqN ?_ | refine WS.region ?_ | refine WS.skip ?_ | refine WS.condB rfl (fun _ => ?_) (fun _ => ?_))
    · rename_i hb
      refine WS.drawY 10 [] (K := [(tg, !G.isEmpty)]) rfl rfl rfl rfl ?_; (repeat' (first | refine SegY.nil ?_ | refine SegY.loadP 6 rfl rfl rfl rfl rfl rfl rfl ?_ | refine SegY.len rfl rfl rfl (fun _ => lenTy_accm rfl rfl) ?_ | refine SegY.auto rfl rfl rfl rfl ?_ | refine SegY.loadP 0 rfl rfl rfl rfl rfl rfl rfl ?_ | refine SegY.loadP 1 rfl rfl rfl rfl rfl rfl rfl ?_ | refine SegY.loadP 2 rfl rfl rfl rfl rfl rfl rfl ?_ | refine SegY.indexAddr rfl rfl rfl rfl rfl ?_ | refine SegY.call rfl rfl rfl rfl h73.eq u73 (fun _ => rfl) ?_))
      dsimp only [RSt.at, List.cons_append, List.nil_append]
      repeat' (first | (refine OS.do rfl ?_; first | refine OD.indexAddr rfl rfl rfl hki ?_ | refine OD.auto rfl rfl ?_ | (rw [hwv]; refine OD.storeI 1 rfl rfl rfl rfl rfl (hzero hl (by omega)) ?_)) | refine OS.nil ?_ | refine QS.seqN ?_)
      dsimp only [List.set_cons_zero, List.set_cons_succ]
      rw [hset _ hl (by omega)]
      refine WS.drawY 10 [] (K := [(tg, !G.isEmpty)]) rfl rfl rfl rfl ?_; (repeat' (first | refine SegY.nil ?_ | refine SegY.callW (D := Unit) (fun _ => True) (fun _ => .int .i64 (atL lits n.gates.xs[j].1)) (fun _ => _) (fun _ => _) rfl rfl rfl rfl (fun st hS => CW.prim h99.eq (u99 _ _ ⟨g1, g2⟩ 1 rfl st hS) ⟨(), st, trivial, rfl, hS⟩) (fun _ _ => ?_) | refine SegY.callW (D := Unit) (fun _ => True) (fun _ => .int .i64 (atL lits n.gates.xs[j].2)) (fun _ => _) (fun _ => _) rfl rfl rfl rfl (fun st hS => CW.prim h99.eq (u99 _ _ ⟨g3, g4⟩ 1 rfl st hS) ⟨(), st, trivial, rfl, hS⟩) (fun _ _ => ?_) | refine SegY.auto rfl rfl rfl rfl ?_ | refine SegY.loadP 0 rfl rfl rfl rfl rfl rfl rfl ?_ | refine SegY.loadP 1 rfl rfl rfl rfl rfl rfl rfl ?_ | refine SegY.loadP 2 rfl rfl rfl rfl rfl rfl rfl ?_ | refine SegY.indexAddr rfl rfl rfl rfl rfl ?_))
      dsimp only [RSt.at, List.cons_append, List.nil_append]
      repeat' (first | (refine OS.do rfl ?_; first | refine OD.auto rfl rfl ?_ | (refine OD.append 0 (xs := G.map gateAV) (ys := [gateAV (atL lits n.gates.xs[j].1, atL lits n.gates.xs[j].2)]) rfl rfl rfl rfl (by rw [List.isEmpty_map]; rfl) rfl rfl rfl rfl rfl rfl (.inr ⟨⟨_, rfl⟩, rfl⟩) (fun _ => rfl) rfl rfl (roomB rfl (by simp only [List.length_map, List.length_singleton]; omega)) (fun t' => ?_); rw [hgm]) | (refine OD.storeG 2 rfl rfl rfl rfl rfl acc_ok1 (by rw [acc_cells]; rfl) (by rw [acc_cells]; rfl) ?_; rw [st_gR])) | refine OS.nil ?_)
      have hst := nodeM_gate (n := n) (keep := keep) hj
      rw [← hA] at hst
      unfold keepS at hst
      rw [if_pos (by rw [hl]; exact hb)] at hst
      dsimp only at hst
      rw [List.isEmpty_map]
      refine QS.rangeN ((t', lits ++ [2 * ((n.kN + G.length : Nat) : Int)], G ++ [(atL lits n.gates.xs[j].1, atL lits n.gates.xs[j].2)])) (by (try dsimp only) <;> exact (hst.symm)) (by (try dsimp only [RSt.at, List.cons_append, List.nil_append]); repeat' (first | exact Sub.nil _ | refine Sub.cons (congrArg (fun z => some (AV.int .i64 z)) (wrap_succ (by omega))) ?_ | refine Sub.cons rfl ?_)) (by (try dsimp only); exact SubO.drop (SubO.refl _)) (by (try dsimp only); repeat' (first | exact SubK.nil _ | exact SubK.refl _ | refine SubK.keep (by simp) ?_ | refine SubK.new ?_ | refine SubK.drop ?_))
    · rename_i hb
      have hst := nodeM_gate (n := n) (keep := keep) hj
      rw [← hA] at hst
      unfold keepS at hst
      rw [if_neg (by rw [hl, hb]; simp)] at hst
      dsimp only at hst
      have hrep : n.kN + n.gates.xs.length - lits.length = (n.kN + n.gates.xs.length - (lits.length + 1)) + 1 := by omega
      rw [hrep, skip_zeros]
      have hrl : n.kN + n.gates.xs.length - (lits.length + 1) = n.kN + n.gates.xs.length - (lits ++ [0]).length := by simp
      rw [hrl]
      refine QS.rangeN ((tg, lits ++ [0], G)) (by (try dsimp only) <;> exact (hst.symm)) (by (try dsimp only [RSt.at, List.cons_append, List.nil_append]); repeat' (first | exact Sub.nil _ | refine Sub.cons (congrArg (fun z => some (AV.int .i64 z)) (wrap_succ (by omega))) ?_ | refine Sub.cons rfl ?_)) (by (try dsimp only); exact SubO.drop (SubO.refl _)) (by (try dsimp only); repeat' (first | exact SubK.nil _ | exact SubK.refl _ | refine SubK.keep (by simp) ?_ | refine SubK.new ?_ | refine SubK.drop ?_))
  rintro ⟨tg, lits, G⟩ hA
  try dsimp only at hA
  have hs := nodeM_ok (n := n) (keep := keep) (Nat.le_refl _)
  rw [← hA] at hs
  rw [nodeM_all] at hA
  have hRl := hs.len
  have hGl := hs.gates
  try dsimp only at hRl hGl
  have hrow : (lits ++ List.replicate (n.kN + n.gates.xs.length - lits.length) 0) = lits := by rw [hRl, Nat.sub_self]; simp
  have u99 : ∀ (l : Int), 0 ≤ l ∧ l < 2 * ((n.kN + n.gates.xs.length : Nat) : Int) → ∀ {L' : List (Nat × AObj)} {K' : List (Nat × Bool)} (kl : Nat), L'[kl]? = some (lb, .row 1 (lits.map intAV)) → ∀ st, SFa L' K' st → primOf Rel99 [.sl 1 lb 0 (n.kN + n.gates.xs.length), .int .i64 l] st = some (.int .i64 (atL lits l), st) := fun l hl2 L' K' kl hL st hS => by
    have hr := hs.range (l / 2).toNat
    dsimp only at hr
    exact use99s h99 (N := n.kN + n.gates.xs.length) (k := l) hL hRl.symm hS ⟨hl2.1, by omega, by omega⟩ (by omega)
  dsimp only [RSt.at, List.cons_append, List.nil_append]
  rw [hrow]
  repeat' (first | (refine OS.do rfl ?_; first | refine OD.auto rfl rfl ?_ | refine OD.loadP 1 rfl rfl rfl rfl rfl rfl ?_ | refine OD.len rfl rfl (fun _ => rfl) ?_) | refine OS.nil ?_ | refine WS.seq ?_ | refine QS.seqN ?_ | refine WS.region ?_ | refine WS.block ?_)
  refine WS.range (A := List GReg) (n := n.regs.xs.length) ⟨113, _, fun _ => [], fun Q => [(lb, .row ty3.size (lits.map intAV)), (cb, (mkQ n g.1 rb ob).obj tg G), (ob, .row 2 (n.outs.xs.map pinAV)), (rb, .row 3 (Q.map regAV)), (b2, .row ty27.size [ty27.zeroV]), (b1, .row ty27.size [netAV n])], fun _ => [], fun i Q => Q = regP lits n.regs.xs i⟩ (n.regs.xs) [1, 2, 10, 11, 112] (by rfl) (by omega) (regP_zero.symm) (by rfl) (by (try dsimp only); repeat' (first | exact Sub.nil _ | refine Sub.cons (congrArg (fun z => some (AV.int .i64 z)) (wrap_succ (by omega))) ?_ | refine Sub.cons rfl ?_)) (by (try dsimp only); repeat' (first | exact SubO.nil _ | exact SubO.refl _ | refine SubO.keep ?_ | refine SubO.drop ?_)) (by (try dsimp only); repeat' (first | exact SubK.nil _ | exact SubK.refl _ | refine SubK.keep (by simp) ?_ | refine SubK.new ?_ | refine SubK.drop ?_)) (by rfl) (by rfl) (by rfl) (by rfl) (by rfl) (by rfl) (fun _ _ => by rfl) (fun _ => by rfl) (fun _ _ => by rfl) (fun _ _ => by rfl) ?_ ?_
  · rintro i Q hi hQ
    try dsimp only at hQ
    have hrn' := hrn _ (List.getElem_mem hi)
    have hbr : (Q.map regAV)[i]? = some (regAV n.regs.xs[i]) := by rw [List.getElem?_map, hQ, regP_get hi]; rfl
    have hmr : (Q.map regAV).set i (.agg [.str n.regs.xs[i].name, .int .u8 n.regs.xs[i].init.toNat, .int .i64 (atL lits n.regs.xs[i].next)]) = (Q.set i (withNext lits n.regs.xs[i])).map regAV := by rw [List.map_set]; rfl
    dsimp only [RSt.at, List.cons_append, List.nil_append]
    repeat' (first | (refine OS.do rfl ?_; first | refine OD.auto rfl rfl ?_) | refine OS.nil ?_ | refine WS.seq ?_ | refine QS.seqN ?_ | refine WS.region ?_)
    refine WS.drawY 11 [] (K := []) rfl rfl rfl rfl ?_; (repeat' (first | refine SegY.nil ?_ | refine SegY.loadP 5 rfl rfl rfl rfl rfl rfl rfl ?_ | refine SegY.indexAddr rfl rfl rfl rfl (indexAddrA_nat rfl rfl rfl rfl (List.getElem?_eq_getElem hi)) ?_ | refine SegY.auto rfl rfl rfl rfl ?_ | refine SegY.loadP 0 rfl rfl rfl rfl rfl rfl rfl ?_ | refine SegY.loadP 1 rfl rfl rfl rfl rfl rfl rfl ?_ | refine SegY.loadP 2 rfl rfl rfl rfl rfl rfl rfl ?_ | refine SegY.indexAddr rfl rfl rfl rfl rfl ?_ | refine SegY.callW (D := Unit) (fun _ => True) (fun _ => .int .i64 (atL lits n.regs.xs[i].next)) (fun _ => _) (fun _ => _) rfl rfl rfl rfl (fun st hS => CW.prim h99.eq (u99 _ hrn' 0 rfl st hS) ⟨(), st, trivial, rfl, hS⟩) (fun _ _ => ?_)))
    dsimp only [RSt.at, List.cons_append, List.nil_append]
    repeat' (first | (refine OS.do rfl ?_; first | refine OD.auto rfl rfl ?_ | refine OD.indexAddr rfl rfl rfl (indexAddrA_sl rfl rfl rfl rfl (by omega)) ?_ | refine OD.storeG 3 rfl rfl rfl rfl hbr rfl rfl rfl ?_) | refine OS.nil ?_)
    refine QS.rangeN (Q.set i (withNext lits n.regs.xs[i])) (by (try dsimp only) <;> exact (by rw [regP_succ hi, hQ])) (by (try dsimp only [RSt.at, List.cons_append, List.nil_append]); repeat' (first | exact Sub.nil _ | refine Sub.cons (congrArg (fun z => some (AV.int .i64 z)) (wrap_succ (by omega))) ?_ | refine Sub.cons rfl ?_)) (by (try dsimp only); rw [← hmr]; exact SubO.refl _) (by (try dsimp only); repeat' (first | exact SubK.nil _ | exact SubK.refl _ | refine SubK.keep (by simp) ?_ | refine SubK.new ?_ | refine SubK.drop ?_))
  rintro Q hQ
  try dsimp only at hQ
  rw [regP_all] at hQ
  dsimp only [RSt.at, List.cons_append, List.nil_append]
  repeat' (first | (refine OS.do rfl ?_; first | refine OD.auto rfl rfl ?_ | refine OD.loadP 1 rfl rfl rfl rfl rfl rfl ?_ | refine OD.len rfl rfl (fun _ => rfl) ?_) | refine OS.nil ?_ | refine WS.seq ?_ | refine QS.seqN ?_ | refine WS.region ?_ | refine WS.block ?_)
  refine WS.range (A := List GPin) (n := n.outs.xs.length) ⟨133, _, fun _ => [], fun P => [(lb, .row ty3.size (lits.map intAV)), (cb, (mkQ n g.1 rb ob).obj tg G), (ob, .row 2 (P.map pinAV)), (rb, .row 3 (Q.map regAV)), (b2, .row ty27.size [ty27.zeroV]), (b1, .row ty27.size [netAV n])], fun _ => [], fun i P => P = pinP lits n.outs.xs i⟩ (n.outs.xs) [1, 2, 10, 11, 132] (by rfl) (by omega) (pinP_zero.symm) (by rfl) (by (try dsimp only); repeat' (first | exact Sub.nil _ | refine Sub.cons (congrArg (fun z => some (AV.int .i64 z)) (wrap_succ (by omega))) ?_ | refine Sub.cons rfl ?_)) (by (try dsimp only); repeat' (first | exact SubO.nil _ | exact SubO.refl _ | refine SubO.keep ?_ | refine SubO.drop ?_)) (by (try dsimp only); repeat' (first | exact SubK.nil _ | exact SubK.refl _ | refine SubK.keep (by simp) ?_ | refine SubK.new ?_ | refine SubK.drop ?_)) (by rfl) (by rfl) (by rfl) (by rfl) (by rfl) (by rfl) (fun _ _ => by rfl) (fun _ => by rfl) (fun _ _ => by rfl) (fun _ _ => by rfl) ?_ ?_
  · rintro i P hi hP
    try dsimp only at hP
    have hol' := hol _ (List.getElem_mem hi)
    have hbr : (P.map pinAV)[i]? = some (pinAV n.outs.xs[i]) := by rw [List.getElem?_map, hP, pinP_get hi]; rfl
    have hmr : (P.map pinAV).set i (.agg [.str n.outs.xs[i].name, .int .i64 (atL lits n.outs.xs[i].lit)]) = (P.set i (withLit lits n.outs.xs[i])).map pinAV := by rw [List.map_set]; rfl
    dsimp only [RSt.at, List.cons_append, List.nil_append]
    repeat' (first | (refine OS.do rfl ?_; first | refine OD.auto rfl rfl ?_) | refine OS.nil ?_ | refine WS.seq ?_ | refine QS.seqN ?_ | refine WS.region ?_)
    refine WS.drawY 11 [] (K := []) rfl rfl rfl rfl ?_; (repeat' (first | refine SegY.nil ?_ | refine SegY.loadP 5 rfl rfl rfl rfl rfl rfl rfl ?_ | refine SegY.indexAddr rfl rfl rfl rfl (indexAddrA_nat rfl rfl rfl rfl (List.getElem?_eq_getElem hi)) ?_ | refine SegY.auto rfl rfl rfl rfl ?_ | refine SegY.loadP 0 rfl rfl rfl rfl rfl rfl rfl ?_ | refine SegY.loadP 1 rfl rfl rfl rfl rfl rfl rfl ?_ | refine SegY.loadP 2 rfl rfl rfl rfl rfl rfl rfl ?_ | refine SegY.indexAddr rfl rfl rfl rfl rfl ?_ | refine SegY.callW (D := Unit) (fun _ => True) (fun _ => .int .i64 (atL lits n.outs.xs[i].lit)) (fun _ => _) (fun _ => _) rfl rfl rfl rfl (fun st hS => CW.prim h99.eq (u99 _ hol' 0 rfl st hS) ⟨(), st, trivial, rfl, hS⟩) (fun _ _ => ?_)))
    dsimp only [RSt.at, List.cons_append, List.nil_append]
    repeat' (first | (refine OS.do rfl ?_; first | refine OD.auto rfl rfl ?_ | refine OD.indexAddr rfl rfl rfl (indexAddrA_sl rfl rfl rfl rfl (by omega)) ?_ | refine OD.storeG 2 rfl rfl rfl rfl hbr rfl rfl rfl ?_) | refine OS.nil ?_)
    refine QS.rangeN (P.set i (withLit lits n.outs.xs[i])) (by (try dsimp only) <;> exact (by rw [pinP_succ hi, hP])) (by (try dsimp only [RSt.at, List.cons_append, List.nil_append]); repeat' (first | exact Sub.nil _ | refine Sub.cons (congrArg (fun z => some (AV.int .i64 z)) (wrap_succ (by omega))) ?_ | refine Sub.cons rfl ?_)) (by (try dsimp only); rw [← hmr]; exact SubO.refl _) (by (try dsimp only); repeat' (first | exact SubK.nil _ | exact SubK.refl _ | refine SubK.keep (by simp) ?_ | refine SubK.new ?_ | refine SubK.drop ?_))
  rintro P hP
  try dsimp only at hP
  rw [pinP_all] at hP
  dsimp only [RSt.at, List.cons_append, List.nil_append]
  repeat' (first | (refine OS.do rfl ?_; first | refine OD.storeW 4 rfl rfl rfl rfl (ok4 grow_cell rfl acc_cell rfl) rfl rfl rfl ?_ | refine OD.auto rfl rfl ?_ | refine OD.loadP 1 rfl rfl rfl rfl rfl rfl ?_) | refine OS.nil ?_ | refine WS.seq ?_ | refine QS.seqN ?_ | refine WS.region ?_ | refine WS.ret ?_)
  refine QS.retO (ResO.cell 4 (by rfl) (by rfl) (by rfl) (by rfl) (by rfl) (.tmp (by rfl) .nil)) fun st hs => ?_
  have hQl : n.regs.xs.length = Q.length := by rw [hQ, List.length_map]
  have hPl : n.outs.xs.length = P.length := by rw [hP, List.length_map]
  have hne : rb ≠ ob := fun c => by
    have := hs.uniq 3 2 rb _ _ rfl (by rw [c]; rfl)
    omega
  obtain ⟨tk, tk', st2, hz⟩ := freeze_rr (i := growA g.1.1 g.1.2 1 (n.ins.xs.map strAV)) (g := accA tg 2 (G.map gateAV)) (R := Q) (P := P) (free_grow str_free) (free_acc gate_free) hQl hPl hs.noK (kr := 3) (ko := 2) rfl rfl hne
  refine ⟨_, st2, hz, ?_, ?_⟩
  · rw [res_yes hV]
    have e : cleanS n = (lits, G) := by unfold cleanS; rw [hkeep]; exact hA.symm
    simp only [AV.plain, AV.plainL, plain_grow str_plain, plain_acc gate_plain, plainL_map reg_plain, plainL_map pin_plain]
    have hp : AV.vs 3 (Own.tok tk).plain (Q.map regAV) = (GSl.some Q).av 3 regAV := by unfold GSl.av; rfl
    have hp2 : AV.vs 2 (Own.tok tk').plain (P.map pinAV) = (GSl.some P).av 2 pinAV := by unfold GSl.av; rfl
    rw [hp, hp2, e, hQ, hP]; rfl
  · simp only [AV.free, AV.freeL, free_grow str_free, free_acc gate_free, Bool.and_true, Bool.true_and, Bool.and_eq_true]
    exact ⟨freeL_map reg_free Q, freeL_map pin_free P⟩
theorem con53 (h1 : pr 53 = none) (h31 : Has pr 31 Rel31) (h46 : pr 46 = none) (h99 : Has pr 99 Rel99) (h100 : Has pr 100 Rel100) (h73 : Has pr 73 Rel73) : Con2 (En pr) 53 Rel53 :=
  con_ofz (fun d => by simp [AV.freeL, net_free]) fun d hd st => run53 h1 h31 h46 h99 h100 h73 d hd st
theorem use53 (h : Has pr 53 Rel53) {n : GNet} (hn : FitsN n) (st : St) : primOf Rel53 [netAV n] st = some (resAV n (layQ n (cleanS n)), st) := h.use ⟨n, hn, by simp [AV.plainL, net_plain], rfl⟩ st
end
end Go.OptEnv

/- Prims whose arguments' rows are never written again. -/
namespace Go.Abs
open Go.RowKit
def primF (p : List AV → St → Option (AV × St)) (args : List AV) (st : St) : Option (AV × St) :=
  if AV.freeL args = true then p args st else
  match freezeM st args with
  | some (args', st1) => p args' st1
  | none => none
section
variable {P : Program}
theorem PrimDoes.frozen {B : Nat} {w0 : World} {f : FuncId} {p : List AV → St → Option (AV × St)} (h : PrimDoes P B w0 f p) : PrimDoes P B w0 f (primF p) := by
  intro args st r st' hp
  unfold primF at hp
  split at hp
  · exact h args st r st' hp
  · split at hp
    · rename_i args' st1 hz
      obtain ⟨q1, q2⟩ := h args' st1 r st' hp
      refine ⟨q1, fun Γ w vargs hI hR => ?_⟩
      obtain ⟨Γ1, o1, r1⟩ := freezeM_sound args hI hz hR
      refine (q2 Γ1 w vargs o1.inv r1).mono ?_
      rintro e w' ⟨v, Γ', rfl, o2, hr⟩
      exact ⟨v, Γ', rfl, o1.trans o2, hr⟩
    · cases hp
end
theorem primF_free {p : List AV → St → Option (AV × St)} {args : List AV} {st : St} (h : AV.freeL args = true) : primF p args st = p args st := by unfold primF; rw [if_pos h]
theorem primF_row {p : List AV → St → Option (AV × St)} {args args' : List AV} {st st1 : St} (h : AV.freeL args = false) (hz : freezeM st args = some (args', st1)) : primF p args st = p args' st1 := by
  unfold primF
  rw [if_neg (by rw [h]; simp), hz]
/-- What is known, but for the last object. -/
theorem SFa.last {L : List (Nat × AObj)} {st : St} {b : Nat} {o : AObj} (h : SFa (L ++ [(b, o)]) [] st) : SFa L [] ((st.drop b).newTok) := by
  have hL : ∀ {k : Nat} {p : Nat × AObj}, L[k]? = some p → (L ++ [(b, o)])[k]? = some p := fun {k p} hk => by
    rw [List.getElem?_append_left (List.getElem?_eq_some_iff.1 hk).1]; exact hk
  refine ⟨fun k b' o' hk => ?_, fun k k' b' o1 o2 h1 h2 => h.uniq k k' b' o1 o2 (hL h1) (hL h2), fun _ _ h => by simp at h, fun _ _ _ h => by simp at h⟩
  have h1 := h.obj k b' o' (hL hk)
  refine ⟨?_, by simp only [St.next_newTok, St.next_drop]; omega⟩
  rw [St.get_newTok, St.get_drop, if_neg]
  · exact h1.1
  · rintro rfl
    have hl := (List.getElem?_eq_some_iff.1 hk).1
    have := h.uniq k L.length _ o' o (hL hk) get_last
    omega
end Go.Abs

/- Fold, of both; nets that are the same. -/
namespace Go.OptEnv
open Go Go.Proofs Go.Abs Go.RowKit Go.NetM
set_option maxRecDepth 10000
/-- A prim that may be given rows. -/
structure HasF (pr : Prims) (f : FuncId) (Rl : Rel) : Prop where
  eq : pr f = some (primF (primOf Rl))
  uniq : ∀ a r r', Rl a r → Rl a r' → r = r'
theorem Good.addF {pr : Prims} (h : Good pr) {f : FuncId} {Rl : Rel} (hc : Con2 (En pr) f Rl) (he : ∀ (w : World) (vargs : Array Value), (callFunc f vargs).run Tryz.prog w = .ok (.enter f vargs) w) : Good (addP pr f (primF (primOf Rl))) :=
  h.addT fun B w0 => (hc.does (En_ok pr) h.ok he B w0).frozen
theorem HasF.of {pr pr' : Prims} {f : FuncId} {Rl : Rel} (hc : Con2 (En pr) f Rl) (h : pr' f = some (primF (primOf Rl))) : HasF pr' f Rl := ⟨h, hc.uniq⟩
theorem HasF.use {pr : Prims} {f : FuncId} {Rl : Rel} (h : HasF pr f Rl) {args : List AV} {r : AV} (hf : AV.freeL args = true) (hr : Rl (AV.plainL args) r) (st : St) : primF (primOf Rl) args st = some (r, st) := by
  rw [primF_free hf]; exact primOf_eq h.uniq hr st
theorem HasF.row {pr : Prims} {f : FuncId} {Rl : Rel} (h : HasF pr f Rl) {args args' : List AV} {st st1 : St} {r : AV} (hf : AV.freeL args = false) (hz : freezeM st args = some (args', st1)) (hr : Rl (AV.plainL args') r) : primF (primOf Rl) args st = some (r, st1) := by
  rw [primF_row hf hz]; exact primOf_eq h.uniq hr st1
def foldN (n : GNet) : GNet := cleanN (shareN n)
def foldR (n : GNet) : GNet := layQ (layR n (shareS n)) (cleanS (layR n (shareS n)))
theorem SameC.trans {a b c : GNet} (h : SameC a b) (k : SameC b c) : SameC a c := ⟨h.ins.trans k.ins, h.regs.trans k.regs, h.gates.trans k.gates, h.outs.trans k.outs⟩
theorem SameC.symm {a b : GNet} (h : SameC a b) : SameC b a := ⟨h.ins.symm, h.regs.symm, h.gates.symm, h.outs.symm⟩
theorem SameC.refl (a : GNet) : SameC a a := ⟨rfl, rfl, rfl, rfl⟩
theorem SameC.clean {a b : GNet} (h : SameC a b) : cleanS a = cleanS b := by
  unfold cleanS coneN GNet.roots GNet.nexts
  rw [h.k, h.gates, h.regs, h.outs]
theorem fold_same {a b : GNet} (h : SameC a b) : SameC (foldR a) (foldN b) := by
  have h1 : SameC (layR a (shareS a)) (shareN b) := by
    unfold shareN
    rw [← h.share]
    exact (layR_same a _).trans (h.lay _)
  unfold foldR foldN cleanN
  rw [← h1.clean]
  exact (layQ_same _ _).trans (h1.lay _)
theorem share_full (n : GNet) : ShOk n.kN (n.kN + n.gates.xs.length) n.gates.xs.length (shareS n) := by
  have := share_sh n (Nat.le_refl n.gates.xs.length)
  rw [List.take_length] at this
  exact this
theorem clean_full (n : GNet) : ShOk n.kN (n.kN + n.gates.xs.length) n.gates.xs.length (cleanS n) := by
  have := keep_ok (k := n.kN) (by unfold GNet.kN; omega) (keep := coneN n n.roots) n.gates.xs n.gates.xs.length (Nat.le_refl _)
  rw [List.take_length] at this
  exact this
theorem share_valid {n : GNet} (hv : validM n = true) : validM (shareN n) = true := lay_valid hv (share_full n) (valid_len hv).2.2.2
theorem share_fits {n : GNet} (hv : validM n = true) (hn : FitsN n) : FitsN (shareN n) := lay_fits hn ⟨(valid_len hv).1, (valid_len hv).2.1⟩ (share_full n) (valid_len hv).2.2.2
theorem clean_valid {n : GNet} (hv : validM n = true) : validM (cleanN n) = true := lay_valid hv (clean_full n) (valid_len hv).2.2.2
theorem clean_fits {n : GNet} (hv : validM n = true) (hn : FitsN n) : FitsN (cleanN n) := lay_fits hn ⟨(valid_len hv).1, (valid_len hv).2.1⟩ (clean_full n) (valid_len hv).2.2.2
theorem fold_valid {n : GNet} (hv : validM n = true) : validM (foldN n) = true := clean_valid (share_valid hv)
theorem fold_fits {n : GNet} (hv : validM n = true) (hn : FitsN n) : FitsN (foldN n) := clean_fits (share_valid hv) (share_fits hv hn)
def Rel17 : Rel := RelF FitsN (fun n => [netAV n]) fun n => resAV n (foldN n)
def Rel18 : Rel := RelF FitsN (fun n => [netAV n]) fun n => resAV n (foldR n)
def Rel21 : Rel := RelF (fun p : GNet × GNet => SameC p.1 p.2 ∧ FitsN p.1) (fun p => [netAV p.1, netAV p.2]) fun _ => .bool true
theorem neqS {E : Env} {t : TypeId} {xo yo : Operand} {x y : ByteArray} (h : x = y) : binA E .neq t xo yo (.str x) (.str y) = some (.bool false) := by
  subst h
  show strBin .neq x x = _
  simp [strBin]
section
variable {pr : Prims}
theorem neqR {xo yo : Operand} {x y : GReg} (h : x = y) : binA (En pr) .neq 68 xo yo (regAV x) (regAV y) = some (.bool false) := by
  subst h
  have e : binA (En pr) .neq 68 xo yo (regAV x) (regAV x) = (match some (decide (x.name = x.name)) with | some true => (match some ((x.init.toNat : Int) == x.init.toNat) with | some true => (match some (x.next == x.next) with | some true => some true | some false => some false | none => none) | some false => some false | none => none) | some false => some false | none => none).map fun b => .bool (!b) := rfl
  rw [e]; simp
theorem neqP {xo yo : Operand} {x y : GPin} (h : x = y) : binA (En pr) .neq 55 xo yo (pinAV x) (pinAV y) = some (.bool false) := by
  subst h
  have e : binA (En pr) .neq 55 xo yo (pinAV x) (pinAV x) = (match some (decide (x.name = x.name)) with | some true => (match some (x.lit == x.lit) with | some true => some true | some false => some false | none => none) | some false => some false | none => none).map fun b => .bool (!b) := rfl
  rw [e]; simp
theorem neqG {xo yo : Operand} {x y : Int × Int} (h : x = y) : binA (En pr) .neq 53 xo yo (gateAV x) (gateAV y) = some (.bool false) := by
  subst h
  have e : binA (En pr) .neq 53 xo yo (gateAV x) (gateAV x) = (eqA (En pr) 20 53 (gateAV x) (gateAV x)).map fun b => .bool (!b) := rfl
  rw [e, eq_pair]; simp
/-! ### Maps of numbers to truths -/
def entsI (l : List Int) : List (AV × AV) := l.map fun k => (.int .i64 k, .bool true)
theorem findI {k : Int} : ∀ (l : List Int) (i : Nat), (k ∉ l → findA (eqA (En pr) 20 3) (.int .i64 k) (entsI l) i = some none) ∧ (k ∈ l → ∃ j, findA (eqA (En pr) 20 3) (.int .i64 k) (entsI l) i = some (some (j, .bool true)))
  | [], _ => ⟨fun _ => rfl, fun h => by cases h⟩
  | x :: l, i => by
    have e : eqA (En pr) 20 3 (.int .i64 k) (.int .i64 x) = some (k == x) := rfl
    obtain ⟨h1, h2⟩ := findI (k := k) l (i + 1)
    by_cases h : k = x
    · have eb : (k == x) = true := by simp [h]
      refine ⟨fun hn => absurd (by simp [h]) hn, fun _ => ⟨i, ?_⟩⟩
      simp only [entsI, List.map_cons, findA, e, eb]
    · have eb : (k == x) = false := by simpa using h
      refine ⟨fun hn => ?_, fun hm => ?_⟩
      · simp only [entsI, List.map_cons, findA, e, eb]
        exact h1 (fun c => hn (List.mem_cons_of_mem _ c))
      · obtain ⟨j, hj⟩ := h2 ((List.mem_cons.1 hm).resolve_left h)
        exact ⟨j, by simp only [entsI, List.map_cons, findA, e, eb]; exact hj⟩
theorem lookI {k : Int} {l : List Int} {b : Nat} {st : St} (hst : st.get b = some (.map 3 4 (entsI l))) : lookTy (En pr) st 70 false (.map b) (.int .i64 k) = some (.bool (decide (k ∈ l))) := by
  have e : lookTy (En pr) st 70 false (.map b) (.int .i64 k) = (match st.get b with
      | some (.map kt' et' es) =>
        if kt' = 3 ∧ et' = 4 then
          match findA (eqA (En pr) 20 3) (.int .i64 k) es 0 with
          | some (some (_, v)) => some v
          | some none => some (.bool false)
          | none => none
        else none
      | _ => none) := rfl
  rw [e, hst]
  dsimp only
  rw [if_pos ⟨rfl, rfl⟩]
  obtain ⟨h1, h2⟩ := findI (pr := pr) (k := k) l 0
  by_cases h : k ∈ l
  · obtain ⟨j, hj⟩ := h2 h
    rw [hj, decide_eq_true h]
  · rw [h1 h, decide_eq_false h]
theorem putI {k : Int} {l : List Int} {b : Nat} {st : St} (hs : k ∉ l) (hst : st.get b = some (.map 3 4 (entsI l))) : mapPutA (En pr) st ty3 3 4 b (.int .i64 k) (.bool true) = some (st.put b (.map 3 4 (entsI (l ++ [k])))) := by
  unfold mapPutA
  rw [hst]
  dsimp only
  rw [if_pos ⟨rfl, rfl, rfl, rfl, rfl⟩, (findI (pr := pr) (k := k) l 0).1 hs]
  simp [entsI]
end
attribute [local irreducible] WS QS OS OD Abs.Sub SubO SubK CW GSl.av accA growA
section
variable {pr : Prims}
theorem run17 (h1 : pr 17 = none) (h50 : Has pr 50 Rel50) (h51 : Has pr 51 Rel51) (n : GNet) (hn : FitsN n) (st : St) : CW (En pr) 17 [netAV n] st fun r _ => AV.free r = true ∧ AV.plain r = resAV n (foldN n) := by
  have u50 := use50 h50 hn
  rcases (Bool.eq_false_or_eq_true (validM n)).symm with hV | hV
  · rw [res_no hV] at u50
    refine CW.start (N := 18) h1 rfl rfl ?_
    repeat' (first | (refine OS.do rfl ?_; first | refine OD.box rfl rfl rfl rfl (net_ok _) rfl (fun b1 => ?_) | refine OD.auto rfl rfl ?_ | refine OD.loadP 1 rfl rfl rfl rfl rfl rfl ?_ | refine OD.alloc rfl rfl rfl rfl (fun _ => ?_) | refine OD.storeW 0 rfl rfl rfl rfl (by first | rfl | exact net_ok _) rfl rfl rfl ?_ | refine OD.storeW 1 rfl rfl rfl rfl (by first | rfl | exact net_ok _) rfl rfl rfl ?_ | refine OD.call rfl rfl rfl h50.eq u50 (fun _ => rfl) ?_) | refine OS.nil ?_ | refine WS.seq ?_ | refine QS.seqN ?_ | refine WS.region ?_ | refine WS.condT rfl ?_ | refine WS.ret ?_ | refine QS.seqR ?_)
    refine QS.retO (ResO.cell 0 (by rfl) (by rfl) (by rfl) (by rfl) (by rfl) (.tmp (by rfl) .nil)) fun st hs => ⟨rfl, ?_⟩
    rw [res_no hV]; rfl
  · rw [res_yes hV] at u50
    have hv2 := share_valid hV
    have u51 := use51 h51 (share_fits hV hn)
    rw [res_yes hv2] at u51
    have z : ∀ (m : GNet) (st : St), freezeA st (.tup [netAV m, .int .i64 0]) = some (.tup [netAV m, .int .i64 0], st) := fun m st => freeze_free (by simp [AV.free, AV.freeL, net_free])
    refine CW.start (N := 18) h1 rfl rfl ?_
    repeat' (first | (refine OS.do rfl ?_; first | refine OD.box rfl rfl rfl rfl (net_ok _) rfl (fun b1 => ?_) | refine OD.auto rfl rfl ?_ | refine OD.loadP 1 rfl rfl rfl rfl rfl rfl ?_ | refine OD.alloc rfl rfl rfl rfl (fun _ => ?_) | refine OD.storeW 0 rfl rfl rfl rfl (by first | rfl | exact net_ok _) rfl rfl rfl ?_ | refine OD.storeW 1 rfl rfl rfl rfl (by first | rfl | exact net_ok _) rfl rfl rfl ?_ | refine OD.call rfl rfl rfl h50.eq u50 (z _) ?_ | refine OD.call rfl rfl rfl h51.eq u51 (z _) ?_) | refine OS.nil ?_ | refine WS.seq ?_ | refine QS.seqN ?_ | refine WS.region ?_ | refine WS.condF rfl ?_ | refine WS.skip ?_ | refine WS.ret ?_)
    refine QS.retO (ResO.cell 0 (by rfl) (by rfl) (by rfl) (by rfl) (by rfl) (.tmp (by rfl) .nil)) fun st hs => ?_
    rw [res_yes hV]
    exact ⟨by show AV.free (.tup [netAV (cleanN (shareN n)), .int .i64 0]) = true; simp [AV.free, AV.freeL, net_free], by show AV.plain (.tup [netAV (cleanN (shareN n)), .int .i64 0]) = _; simp only [AV.plain, AV.plainL, net_plain]; rfl⟩
theorem con17 (h1 : pr 17 = none) (h50 : Has pr 50 Rel50) (h51 : Has pr 51 Rel51) : Con2 (En pr) 17 Rel17 := con_of (fun d => by simp [AV.freeL, net_free]) fun d hd st => run17 h1 h50 h51 d hd st
theorem use17 (h : Has pr 17 Rel17) {n : GNet} (hn : FitsN n) (st : St) : primOf Rel17 [netAV n] st = some (resAV n (foldN n), st) := h.use ⟨n, hn, by simp [AV.plainL, net_plain], rfl⟩ st
theorem run18 (h1 : pr 18 = none) (h52 : Has pr 52 Rel52) (h53 : Has pr 53 Rel53) (n : GNet) (hn : FitsN n) (st : St) : CW (En pr) 18 [netAV n] st fun r _ => AV.free r = true ∧ AV.plain r = resAV n (foldR n) := by
  have u52 := use52 h52 hn
  rcases (Bool.eq_false_or_eq_true (validM n)).symm with hV | hV
  · rw [res_no hV] at u52
    refine CW.start (N := 19) h1 rfl rfl ?_
    repeat' (first | (refine OS.do rfl ?_; first | refine OD.box rfl rfl rfl rfl (net_ok _) rfl (fun b1 => ?_) | refine OD.auto rfl rfl ?_ | refine OD.loadP 1 rfl rfl rfl rfl rfl rfl ?_ | refine OD.alloc rfl rfl rfl rfl (fun _ => ?_) | refine OD.storeW 0 rfl rfl rfl rfl (by first | rfl | exact net_ok _) rfl rfl rfl ?_ | refine OD.storeW 1 rfl rfl rfl rfl (by first | rfl | exact net_ok _) rfl rfl rfl ?_ | refine OD.call rfl rfl rfl h52.eq u52 (fun _ => rfl) ?_) | refine OS.nil ?_ | refine WS.seq ?_ | refine QS.seqN ?_ | refine WS.region ?_ | refine WS.condT rfl ?_ | refine WS.ret ?_ | refine QS.seqR ?_)
    refine QS.retO (ResO.cell 1 (by rfl) (by rfl) (by rfl) (by rfl) (by rfl) (.tmp (by rfl) .nil)) fun st hs => ⟨rfl, ?_⟩
    rw [res_no hV]; rfl
  · rw [res_yes hV] at u52
    have hsc := layR_same n (shareS n)
    have hv2 : validM (layR n (shareS n)) = true := hsc.valid.trans (share_valid hV)
    have u53 := use53 h53 (hsc.fits (share_fits hV hn))
    rw [res_yes hv2] at u53
    have z : ∀ (m : GNet) (st : St), freezeA st (.tup [netAV m, .int .i64 0]) = some (.tup [netAV m, .int .i64 0], st) := fun m st => freeze_free (by simp [AV.free, AV.freeL, net_free])
    refine CW.start (N := 19) h1 rfl rfl ?_
    repeat' (first | (refine OS.do rfl ?_; first | refine OD.box rfl rfl rfl rfl (net_ok _) rfl (fun b1 => ?_) | refine OD.loadP 0 rfl rfl rfl rfl rfl rfl ?_ | refine OD.auto rfl rfl ?_ | refine OD.loadP 1 rfl rfl rfl rfl rfl rfl ?_ | refine OD.alloc rfl rfl rfl rfl (fun _ => ?_) | refine OD.storeW 0 rfl rfl rfl rfl (by first | rfl | exact net_ok _) rfl rfl rfl ?_ | refine OD.storeW 1 rfl rfl rfl rfl (by first | rfl | exact net_ok _) rfl rfl rfl ?_ | refine OD.call rfl rfl rfl h52.eq u52 (z _) ?_ | refine OD.call rfl rfl rfl h53.eq u53 (z _) ?_) | refine OS.nil ?_ | refine WS.seq ?_ | refine QS.seqN ?_ | refine WS.region ?_ | refine WS.condF rfl ?_ | refine WS.skip ?_ | refine WS.ret ?_)
    refine QS.retO (ResO.cell 1 (by rfl) (by rfl) (by rfl) (by rfl) (by rfl) (.tmp (by rfl) .nil)) fun st hs => ?_
    rw [res_yes hV]
    exact ⟨by show AV.free (.tup [netAV (foldR n), .int .i64 0]) = true; simp [AV.free, AV.freeL, net_free], by show AV.plain (.tup [netAV (foldR n), .int .i64 0]) = _; simp only [AV.plain, AV.plainL, net_plain]⟩
theorem con18 (h1 : pr 18 = none) (h52 : Has pr 52 Rel52) (h53 : Has pr 53 Rel53) : Con2 (En pr) 18 Rel18 := con_of (fun d => by simp [AV.freeL, net_free]) fun d hd st => run18 h1 h52 h53 d hd st
theorem use18 (h : HasF pr 18 Rel18) {n : GNet} (hn : FitsN n) (st : St) : primF (primOf Rel18) [netAV n] st = some (resAV n (foldR n), st) := h.use (by simp [AV.freeL, net_free]) ⟨n, hn, by simp [AV.plainL, net_plain], rfl⟩ st
set_option maxHeartbeats 1000000 in
theorem run21 (h1 : pr 21 = none) (a b : GNet) (hs : SameC a b) (hn : FitsN a) (st : St) : CW (En pr) 21 [netAV a, netAV b] st fun r _ => r = .bool true := by
  obtain ⟨e1, e2, e3, e4⟩ := hs
  obtain ⟨f1, f2, f3, f4, _, _, _, _, _, _⟩ := hn
  have l1 : b.ins.xs.length = a.ins.xs.length := by rw [e1]
  have l2 : b.regs.xs.length = a.regs.xs.length := by rw [e2]
  have l3 : b.gates.xs.length = a.gates.xs.length := by rw [e3]
  have l4 : b.outs.xs.length = a.outs.xs.length := by rw [e4]
  refine CW.start (N := 115) h1 rfl rfl ?_
  repeat' (first | (refine OS.do rfl ?_; first | refine OD.box rfl rfl rfl rfl (net_ok _) rfl (fun b1 => ?_) | refine OD.loadP 0 rfl rfl rfl rfl rfl rfl ?_ | refine OD.auto rfl rfl ?_ | refine OD.loadP 1 rfl rfl rfl rfl rfl rfl ?_ | refine OD.len rfl rfl (fun _ => lenTy_av rfl rfl) ?_) | refine OS.nil ?_ | refine OS.skip rfl rfl rfl ?_ | refine WS.seq ?_ | refine QS.seqN ?_ | refine WS.region ?_ | refine WS.condT rfl ?_ | refine WS.skip ?_ | refine WS.block ?_ | refine WS.ret ?_ | refine QS.seqR ?_ | refine WS.condNe rfl (fun _ => ?_) (fun _ => ?_) | ((fail_if_success (refine OS.do rfl ?_)); first | refine OS.splitNe rfl rfl rfl (fun _ => ?_) (fun _ => ?_)))
  all_goals try (exfalso; omega)
  rename_i b1' _ _ _ _
  refine WS.range (A := Unit) (n := a.ins.xs.length) ⟨46, _, fun _ => [], fun _ => [(b1, .row ty27.size [netAV b]), (b1', .row ty27.size [netAV a])], fun _ => [], fun _ _ => True⟩ (()) [2, 3, 45] (by rfl) (by omega) (trivial) (by rfl) (by (try dsimp only); repeat' (first | exact Sub.nil _ | refine Sub.cons (congrArg (fun z => some (AV.int .i64 z)) (wrap_succ (by omega))) ?_ | refine Sub.cons rfl ?_)) (by (try dsimp only); repeat' (first | exact SubO.nil _ | exact SubO.refl _ | refine SubO.keep ?_ | refine SubO.drop ?_)) (by (try dsimp only); repeat' (first | exact SubK.nil _ | exact SubK.refl _ | refine SubK.keep (by simp) ?_ | refine SubK.new ?_ | refine SubK.drop ?_)) (by rfl) (by rfl) (by rfl) (by rfl) (by rfl) (by rfl) (fun _ _ => by rfl) (fun _ => by rfl) (fun _ _ => by rfl) (fun _ _ => by rfl) ?_ ?_
  · rintro i _ hi _
    have hib : i < b.ins.xs.length := by omega
    have hxy : a.ins.xs[i] = b.ins.xs[i] := List.getElem_of_eq e1 hi
    dsimp only [RSt.at, List.cons_append, List.nil_append]
    repeat' (first | (refine OS.do rfl ?_; first | refine OD.bin rfl rfl rfl (neqS hxy) ?_ | refine OD.loadP 0 rfl rfl rfl rfl rfl rfl ?_ | refine OD.auto rfl rfl ?_ | refine OD.loadP 1 rfl rfl rfl rfl rfl rfl ?_ | refine OD.indexAddr rfl rfl rfl (indexAddrA_nat rfl rfl rfl rfl (by first | assumption | exact List.getElem?_eq_getElem (by omega))) ?_) | refine OS.nil ?_ | refine WS.seq ?_ | refine QS.seqN ?_ | refine WS.region ?_ | refine WS.condF rfl ?_ | refine WS.skip ?_ | refine WS.draw rfl rfl ?_)
    refine QS.rangeN (()) (by (try dsimp only) <;> exact (trivial)) (by (try dsimp only [RSt.at, List.cons_append, List.nil_append]); repeat' (first | exact Sub.nil _ | refine Sub.cons (congrArg (fun z => some (AV.int .i64 z)) (wrap_succ (by omega))) ?_ | refine Sub.cons rfl ?_)) (by (try dsimp only); exact SubO.refl _) (by (try dsimp only); repeat' (first | exact SubK.nil _ | exact SubK.refl _ | refine SubK.keep (by simp) ?_ | refine SubK.new ?_ | refine SubK.drop ?_))
  rintro _ _
  dsimp only [RSt.at, List.cons_append, List.nil_append]
  repeat' (first | (refine OS.do rfl ?_; first | refine OD.auto rfl rfl ?_ | refine OD.loadP 1 rfl rfl rfl rfl rfl rfl ?_ | refine OD.len rfl rfl (fun _ => lenTy_av rfl rfl) ?_) | refine OS.nil ?_ | refine WS.seq ?_ | refine QS.seqN ?_ | refine WS.region ?_ | refine WS.block ?_)
  refine WS.range (A := Unit) (n := a.regs.xs.length) ⟨64, _, fun _ => [], fun _ => [(b1, .row ty27.size [netAV b]), (b1', .row ty27.size [netAV a])], fun _ => [], fun _ _ => True⟩ (()) [2, 3, 63] (by rfl) (by omega) (trivial) (by rfl) (by (try dsimp only); repeat' (first | exact Sub.nil _ | refine Sub.cons (congrArg (fun z => some (AV.int .i64 z)) (wrap_succ (by omega))) ?_ | refine Sub.cons rfl ?_)) (by (try dsimp only); repeat' (first | exact SubO.nil _ | exact SubO.refl _ | refine SubO.keep ?_ | refine SubO.drop ?_)) (by (try dsimp only); repeat' (first | exact SubK.nil _ | exact SubK.refl _ | refine SubK.keep (by simp) ?_ | refine SubK.new ?_ | refine SubK.drop ?_)) (by rfl) (by rfl) (by rfl) (by rfl) (by rfl) (by rfl) (fun _ _ => by rfl) (fun _ => by rfl) (fun _ _ => by rfl) (fun _ _ => by rfl) ?_ ?_
  · rintro i _ hi _
    have hib : i < b.regs.xs.length := by omega
    have hxy : a.regs.xs[i] = b.regs.xs[i] := List.getElem_of_eq e2 hi
    dsimp only [RSt.at, List.cons_append, List.nil_append]
    repeat' (first | (refine OS.do rfl ?_; first | refine OD.bin rfl rfl rfl (neqR hxy) ?_ | refine OD.loadP 0 rfl rfl rfl rfl rfl rfl ?_ | refine OD.auto rfl rfl ?_ | refine OD.loadP 1 rfl rfl rfl rfl rfl rfl ?_ | refine OD.indexAddr rfl rfl rfl (indexAddrA_nat rfl rfl rfl rfl (by first | assumption | exact List.getElem?_eq_getElem (by omega))) ?_) | refine OS.nil ?_ | refine WS.seq ?_ | refine QS.seqN ?_ | refine WS.region ?_ | refine WS.condF rfl ?_ | refine WS.skip ?_ | refine WS.draw rfl rfl ?_)
    refine QS.rangeN (()) (by (try dsimp only) <;> exact (trivial)) (by (try dsimp only [RSt.at, List.cons_append, List.nil_append]); repeat' (first | exact Sub.nil _ | refine Sub.cons (congrArg (fun z => some (AV.int .i64 z)) (wrap_succ (by omega))) ?_ | refine Sub.cons rfl ?_)) (by (try dsimp only); exact SubO.refl _) (by (try dsimp only); repeat' (first | exact SubK.nil _ | exact SubK.refl _ | refine SubK.keep (by simp) ?_ | refine SubK.new ?_ | refine SubK.drop ?_))
  rintro _ _
  dsimp only [RSt.at, List.cons_append, List.nil_append]
  repeat' (first | (refine OS.do rfl ?_; first | refine OD.auto rfl rfl ?_ | refine OD.loadP 1 rfl rfl rfl rfl rfl rfl ?_ | refine OD.len rfl rfl (fun _ => lenTy_av rfl rfl) ?_) | refine OS.nil ?_ | refine WS.seq ?_ | refine QS.seqN ?_ | refine WS.region ?_ | refine WS.block ?_)
  refine WS.range (A := Unit) (n := a.gates.xs.length) ⟨82, _, fun _ => [], fun _ => [(b1, .row ty27.size [netAV b]), (b1', .row ty27.size [netAV a])], fun _ => [], fun _ _ => True⟩ (()) [2, 3, 81] (by rfl) (by omega) (trivial) (by rfl) (by (try dsimp only); repeat' (first | exact Sub.nil _ | refine Sub.cons (congrArg (fun z => some (AV.int .i64 z)) (wrap_succ (by omega))) ?_ | refine Sub.cons rfl ?_)) (by (try dsimp only); repeat' (first | exact SubO.nil _ | exact SubO.refl _ | refine SubO.keep ?_ | refine SubO.drop ?_)) (by (try dsimp only); repeat' (first | exact SubK.nil _ | exact SubK.refl _ | refine SubK.keep (by simp) ?_ | refine SubK.new ?_ | refine SubK.drop ?_)) (by rfl) (by rfl) (by rfl) (by rfl) (by rfl) (by rfl) (fun _ _ => by rfl) (fun _ => by rfl) (fun _ _ => by rfl) (fun _ _ => by rfl) ?_ ?_
  · rintro i _ hi _
    have hib : i < b.gates.xs.length := by omega
    have hxy : a.gates.xs[i] = b.gates.xs[i] := List.getElem_of_eq e3 hi
    dsimp only [RSt.at, List.cons_append, List.nil_append]
    repeat' (first | (refine OS.do rfl ?_; first | refine OD.bin rfl rfl rfl (neqG hxy) ?_ | refine OD.loadP 0 rfl rfl rfl rfl rfl rfl ?_ | refine OD.auto rfl rfl ?_ | refine OD.loadP 1 rfl rfl rfl rfl rfl rfl ?_ | refine OD.indexAddr rfl rfl rfl (indexAddrA_nat rfl rfl rfl rfl (by first | assumption | exact List.getElem?_eq_getElem (by omega))) ?_) | refine OS.nil ?_ | refine WS.seq ?_ | refine QS.seqN ?_ | refine WS.region ?_ | refine WS.condF rfl ?_ | refine WS.skip ?_ | refine WS.draw rfl rfl ?_)
    refine QS.rangeN (()) (by (try dsimp only) <;> exact (trivial)) (by (try dsimp only [RSt.at, List.cons_append, List.nil_append]); repeat' (first | exact Sub.nil _ | refine Sub.cons (congrArg (fun z => some (AV.int .i64 z)) (wrap_succ (by omega))) ?_ | refine Sub.cons rfl ?_)) (by (try dsimp only); exact SubO.refl _) (by (try dsimp only); repeat' (first | exact SubK.nil _ | exact SubK.refl _ | refine SubK.keep (by simp) ?_ | refine SubK.new ?_ | refine SubK.drop ?_))
  rintro _ _
  dsimp only [RSt.at, List.cons_append, List.nil_append]
  repeat' (first | (refine OS.do rfl ?_; first | refine OD.auto rfl rfl ?_ | refine OD.loadP 1 rfl rfl rfl rfl rfl rfl ?_ | refine OD.len rfl rfl (fun _ => lenTy_av rfl rfl) ?_) | refine OS.nil ?_ | refine WS.seq ?_ | refine QS.seqN ?_ | refine WS.region ?_ | refine WS.block ?_)
  refine WS.range (A := Unit) (n := a.outs.xs.length) ⟨100, _, fun _ => [], fun _ => [(b1, .row ty27.size [netAV b]), (b1', .row ty27.size [netAV a])], fun _ => [], fun _ _ => True⟩ (()) [2, 3, 99] (by rfl) (by omega) (trivial) (by rfl) (by (try dsimp only); repeat' (first | exact Sub.nil _ | refine Sub.cons (congrArg (fun z => some (AV.int .i64 z)) (wrap_succ (by omega))) ?_ | refine Sub.cons rfl ?_)) (by (try dsimp only); repeat' (first | exact SubO.nil _ | exact SubO.refl _ | refine SubO.keep ?_ | refine SubO.drop ?_)) (by (try dsimp only); repeat' (first | exact SubK.nil _ | exact SubK.refl _ | refine SubK.keep (by simp) ?_ | refine SubK.new ?_ | refine SubK.drop ?_)) (by rfl) (by rfl) (by rfl) (by rfl) (by rfl) (by rfl) (fun _ _ => by rfl) (fun _ => by rfl) (fun _ _ => by rfl) (fun _ _ => by rfl) ?_ ?_
  · rintro i _ hi _
    have hib : i < b.outs.xs.length := by omega
    have hxy : a.outs.xs[i] = b.outs.xs[i] := List.getElem_of_eq e4 hi
    dsimp only [RSt.at, List.cons_append, List.nil_append]
    repeat' (first | (refine OS.do rfl ?_; first | refine OD.bin rfl rfl rfl (neqP hxy) ?_ | refine OD.loadP 0 rfl rfl rfl rfl rfl rfl ?_ | refine OD.auto rfl rfl ?_ | refine OD.loadP 1 rfl rfl rfl rfl rfl rfl ?_ | refine OD.indexAddr rfl rfl rfl (indexAddrA_nat rfl rfl rfl rfl (by first | assumption | exact List.getElem?_eq_getElem (by omega))) ?_) | refine OS.nil ?_ | refine WS.seq ?_ | refine QS.seqN ?_ | refine WS.region ?_ | refine WS.condF rfl ?_ | refine WS.skip ?_ | refine WS.draw rfl rfl ?_)
    refine QS.rangeN (()) (by (try dsimp only) <;> exact (trivial)) (by (try dsimp only [RSt.at, List.cons_append, List.nil_append]); repeat' (first | exact Sub.nil _ | refine Sub.cons (congrArg (fun z => some (AV.int .i64 z)) (wrap_succ (by omega))) ?_ | refine Sub.cons rfl ?_)) (by (try dsimp only); exact SubO.refl _) (by (try dsimp only); repeat' (first | exact SubK.nil _ | exact SubK.refl _ | refine SubK.keep (by simp) ?_ | refine SubK.new ?_ | refine SubK.drop ?_))
  rintro _ _
  dsimp only [RSt.at, List.cons_append, List.nil_append]
  repeat' (first | (refine OS.do rfl ?_; first | refine OD.auto rfl rfl ?_) | refine OS.nil ?_ | refine WS.seq ?_ | refine QS.seqN ?_ | refine WS.region ?_ | refine WS.ret ?_)
  exact QS.retRS (by rfl) fun _ _ => rfl
theorem con21 (h1 : pr 21 = none) : Con2 (En pr) 21 Rel21 := con_eq (fun d => by simp [AV.freeL, net_free]) (fun _ => ⟨rfl, rfl⟩) fun d hd st => run21 h1 d.1 d.2 hd.1 hd.2 st
theorem use21 (h : Has pr 21 Rel21) {a b : GNet} (hs : SameC a b) (hn : FitsN a) (st : St) : primOf Rel21 [netAV a, netAV b] st = some (.bool true, st) := h.use ⟨(a, b), ⟨hs, hn⟩, by simp [AV.plainL, net_plain], rfl⟩ st
end
end Go.OptEnv

/- What outputs need, through registers too: in plain Lean. -/
namespace Go.NetM
/-- A node on which an output depends. -/
inductive Nd (k0 k : Nat) (gs : List (Int × Int)) (nexts outs : List Int) : Nat → Prop
  | out {l : Int} (h : l ∈ outs) : Nd k0 k gs nexts outs (l / 2).toNat
  | g1 {i : Nat} (h : i < gs.length) (p : Nd k0 k gs nexts outs (k + i)) : Nd k0 k gs nexts outs (gs[i].1 / 2).toNat
  | g2 {i : Nat} (h : i < gs.length) (p : Nd k0 k gs nexts outs (k + i)) : Nd k0 k gs nexts outs (gs[i].2 / 2).toNat
  | reg {i : Nat} (h : i < nexts.length) (p : Nd k0 k gs nexts outs (k0 + i)) : Nd k0 k gs nexts outs (nexts[i] / 2).toNat
open Classical in
/-- For each node whether it is needed. -/
noncomputable def needL (k0 k : Nat) (gs : List (Int × Int)) (nexts outs : List Int) : List Bool := (List.range (k + gs.length)).map fun j => decide (Nd k0 k gs nexts outs j)
theorem needL_len {k0 k : Nat} {gs : List (Int × Int)} {nexts outs : List Int} : (needL k0 k gs nexts outs).length = k + gs.length := by simp [needL]
theorem needL_get {k0 k : Nat} {gs : List (Int × Int)} {nexts outs : List Int} {j : Nat} (h : j < k + gs.length) : (needL k0 k gs nexts outs).getD j false = true ↔ Nd k0 k gs nexts outs j := by
  unfold needL
  rw [List.getD_eq_getElem?_getD, List.getElem?_eq_getElem (by simpa using h)]
  simp
/-- A set of nodes that holds what the outputs name, and is closed, holds what they need. -/
theorem Nd.least {k0 k : Nat} {gs : List (Int × Int)} {nexts outs : List Int} {S : Nat → Prop} (h1 : ∀ l ∈ outs, S (l / 2).toNat) (h2 : ∀ (i : Nat) (h : i < gs.length), S (k + i) → S (gs[i].1 / 2).toNat ∧ S (gs[i].2 / 2).toNat) (h3 : ∀ (i : Nat) (h : i < nexts.length), S (k0 + i) → S (nexts[i] / 2).toNat) {j : Nat} (hj : Nd k0 k gs nexts outs j) : S j := by
  induction hj with
  | out h => exact h1 _ h
  | g1 h _ ih => exact (h2 _ h ih).1
  | g2 h _ ih => exact (h2 _ h ih).2
  | reg h _ ih => exact h3 _ h ih
theorem needL_eq {k0 k : Nat} {gs : List (Int × Int)} {nexts outs : List Int} {v : List Bool} (hl : v.length = k + gs.length) (hv : ∀ j, j < k + gs.length → (v.getD j false = true ↔ Nd k0 k gs nexts outs j)) : v = needL k0 k gs nexts outs := by
  apply List.ext_getElem?
  intro j
  by_cases h : j < k + gs.length
  · have h1 := hv j h
    have h2 := needL_get (k0 := k0) (k := k) (gs := gs) (nexts := nexts) (outs := outs) h
    rw [List.getElem?_eq_getElem (by omega), List.getElem?_eq_getElem (by rw [needL_len]; exact h)]
    rw [List.getD_eq_getElem?_getD, List.getElem?_eq_getElem (by omega)] at h1
    rw [List.getD_eq_getElem?_getD, List.getElem?_eq_getElem (by rw [needL_len]; exact h)] at h2
    simp only [Option.getD_some] at h1 h2
    congr 1
    have h3 := h1.trans h2.symm
    cases ha : v[j]'(by omega) <;> cases hb : (needL k0 k gs nexts outs)[j]'(by rw [needL_len]; exact h) <;> rw [ha, hb] at h3 <;> simp at h3 ⊢
  · rw [List.getElem?_eq_none (by omega), List.getElem?_eq_none (by rw [needL_len]; omega)]
/-- How many are not marked. -/
def offN (v : List Bool) : Nat := (v.filter fun b => !b).length
theorem offN_set : ∀ {v : List Bool} {j : Nat}, v[j]? = some false → offN (v.set j true) + 1 = offN v
  | b :: v, 0, h => by
    simp only [List.getElem?_cons_zero, Option.some.injEq] at h
    subst h
    simp [offN]
  | b :: v, j + 1, h => by
    simp only [List.getElem?_cons_succ] at h
    have := offN_set h
    cases b <;> simp [offN] at this ⊢ <;> omega
theorem offN_le : ∀ {v : List Bool} {j : Nat}, offN (v.set j true) ≤ offN v
  | [], _ => by simp
  | b :: v, 0 => by cases b <;> simp [offN]
  | b :: v, j + 1 => by
    have := offN_le (v := v) (j := j)
    cases b <;> simp [offN] at this ⊢ <;> omega
theorem set_getB {v : List Bool} {i j : Nat} : (v.set i true).getD j false = true ↔ (v.getD j false = true ∨ (i = j ∧ j < v.length)) := by
  simp only [List.getD_eq_getElem?_getD, List.getElem?_set]
  by_cases h : i = j
  · subst h
    rw [if_pos rfl]
    by_cases hl : i < v.length
    · rw [if_pos hl]; simp [hl]
    · rw [if_neg hl, List.getElem?_eq_none (by omega)]; simp [hl]
  · rw [if_neg h]; simp [h]
/-- Registers that stay: the literals of all nodes up to them. -/
def selR (k0 : Nat) (keep : List Bool) (s : List Int × Nat) : List Int × Nat :=
  if keep.getD s.1.length false = true then (s.1 ++ [2 * ((k0 + s.2 : Nat) : Int)], s.2 + 1) else (s.1 ++ [0], s.2)
def selRM (k0 : Nat) (keep : List Bool) : Nat → List Int × Nat
  | 0 => (idL k0, 0)
  | i + 1 => selR k0 keep (selRM k0 keep i)
theorem selRM_len {k0 : Nat} {keep : List Bool} : ∀ i, (selRM k0 keep i).1.length = k0 + i
  | 0 => idL_len k0
  | i + 1 => by
    have := selRM_len (k0 := k0) (keep := keep) i
    show (selR k0 keep (selRM k0 keep i)).1.length = _
    unfold selR
    split <;> simp [this] <;> omega
theorem selRM_cnt {k0 : Nat} {keep : List Bool} : ∀ i, (selRM k0 keep i).2 ≤ i
  | 0 => Nat.le_refl _
  | i + 1 => by
    have := selRM_cnt (k0 := k0) (keep := keep) i
    show (selR k0 keep (selRM k0 keep i)).2 ≤ _
    unfold selR
    split
    · show _ + 1 ≤ _; omega
    · omega
/-- The literals of all nodes, and the gates that stay. -/
def selM (k0 nregs : Nat) (keep : List Bool) (gs : List (Int × Int)) : List Int × List (Int × Int) :=
  gs.foldl (keepS (k0 + (selRM k0 keep nregs).2) keep) ((selRM k0 keep nregs).1, [])
theorem selM_succ {k0 nregs : Nat} {keep : List Bool} {gs : List (Int × Int)} {i : Nat} (h : i < gs.length) : selM k0 nregs keep (gs.take (i + 1)) = keepS (k0 + (selRM k0 keep nregs).2) keep (selM k0 nregs keep (gs.take i)) gs[i] := by
  unfold selM
  rw [List.take_succ_eq_append_getElem h, List.foldl_append]; rfl
/-- Those of a list whose places stay. -/
def pickL {α : Type} (k0 : Nat) (keep : List Bool) (l : List α) (i : Nat) : List α := ((l.take i).zipIdx).filterMap fun p => if keep.getD (k0 + p.2) false = true then some p.1 else none
theorem pickL_succ {α : Type} {k0 : Nat} {keep : List Bool} {l : List α} {i : Nat} (h : i < l.length) : pickL k0 keep l (i + 1) = if keep.getD (k0 + i) false = true then pickL k0 keep l i ++ [l[i]] else pickL k0 keep l i := by
  unfold pickL
  rw [List.take_succ_eq_append_getElem h, List.zipIdx_append, List.filterMap_append]
  have : (l.take i).length = i := by rw [List.length_take]; omega
  simp only [this, Nat.zero_add, List.zipIdx_singleton, List.filterMap_cons, List.filterMap_nil]
  by_cases hk : keep.getD (k0 + i) false = true
  · rw [if_pos hk, if_pos hk]
  · rw [if_neg hk, if_neg hk, List.append_nil]
theorem pickL_len {α : Type} {k0 : Nat} {keep : List Bool} {l : List α} : ∀ i, i ≤ l.length → (pickL k0 keep l i).length = (selRM k0 keep i).2
  | 0, _ => by simp [pickL, selRM]
  | i + 1, h => by
    have ih := pickL_len (k0 := k0) (keep := keep) (l := l) i (by omega)
    rw [pickL_succ (by omega)]
    show _ = (selR k0 keep (selRM k0 keep i)).2
    unfold selR
    rw [selRM_len]
    split
    · simp [ih]
    · exact ih
end Go.NetM

/- What outputs need, found by going through gates and registers until nothing changes, or from the outputs on: in plain Lean. -/
namespace Go.NetM
theorem offN_one {v : List Bool} {a : Nat} (ha : a < v.length) (h : v.getD a false = false) : offN (v.set a true) < offN v := by
  have : v[a]? = some false := by
    rw [List.getD_eq_getElem?_getD, List.getElem?_eq_getElem ha] at h
    rw [List.getElem?_eq_getElem ha]
    exact congrArg some h
  have := offN_set this
  omega
theorem set_true {v : List Bool} {a : Nat} (h : v.getD a false = true) : v.set a true = v := by
  apply List.ext_getElem?
  intro j
  rw [List.getElem?_set]
  by_cases e : a = j
  · subst e
    rw [if_pos rfl]
    by_cases hl : a < v.length
    · rw [if_pos hl, List.getElem?_eq_getElem hl]
      rw [List.getD_eq_getElem?_getD, List.getElem?_eq_getElem hl] at h
      exact congrArg some h.symm
    · rw [if_neg hl, List.getElem?_eq_none (by omega)]
  · rw [if_neg e]
theorem offN_two {v : List Bool} {a b : Nat} (ha : a < v.length) (hb : b < v.length) (h : v.getD a false = false ∨ v.getD b false = false) : offN ((v.set a true).set b true) < offN v := by
  cases hva : v.getD a false with
  | false =>
    have := offN_one ha hva
    have := offN_le (v := v.set a true) (j := b)
    omega
  | true =>
    rw [set_true hva]
    exact offN_one hb (h.resolve_left (by rw [hva]; simp))
/-- A pass, on the way. -/
structure Pass (T : Nat) (S : Nat → Prop) (v0 v : List Bool) (ag : Bool) (cl : Prop) : Prop where
  len : v.length = T
  sound : ∀ j, v.getD j false = true → S j
  mono : ∀ j, v0.getD j false = true → v.getD j false = true
  off : offN v ≤ offN v0
  yes : ag = true → offN v < offN v0
  no : ag = false → v = v0 ∧ cl
theorem Pass.begin {T : Nat} {S : Nat → Prop} {v0 : List Bool} {cl : Prop} (hl : v0.length = T) (hs : ∀ j, v0.getD j false = true → S j) (hc : cl) : Pass T S v0 v0 false cl := ⟨hl, hs, fun _ h => h, Nat.le_refl _, (fun h => by cases h), fun _ => ⟨rfl, hc⟩⟩
theorem Pass.two {T : Nat} {S : Nat → Prop} {v0 v : List Bool} {ag : Bool} {cl cl' : Prop} (h : Pass T S v0 v ag cl) {a b : Nat} (ha : a < T) (hb : b < T) (hn : v.getD a false = false ∨ v.getD b false = false) (sa : S a) (sb : S b) : Pass T S v0 ((v.set a true).set b true) true cl' := by
  have hlt := offN_two (v := v) (a := a) (b := b) (by rw [h.len]; exact ha) (by rw [h.len]; exact hb) hn
  have := h.off
  refine ⟨by rw [List.length_set, List.length_set, h.len], fun j hj => ?_, fun j hj => ?_, by omega, (fun _ => by omega), (fun c => by cases c)⟩
  · rcases set_getB.1 hj with hj | ⟨rfl, _⟩
    · rcases set_getB.1 hj with hj | ⟨rfl, _⟩
      · exact h.sound j hj
      · exact sa
    · exact sb
  · exact set_getB.2 (.inl (set_getB.2 (.inl (h.mono j hj))))
theorem Pass.one {T : Nat} {S : Nat → Prop} {v0 v : List Bool} {ag : Bool} {cl cl' : Prop} (h : Pass T S v0 v ag cl) {a : Nat} (ha : a < T) (hn : v.getD a false = false) (sa : S a) : Pass T S v0 (v.set a true) true cl' := by
  have := h.two (cl' := cl') ha ha (.inl hn) sa sa
  rwa [List.set_set] at this
theorem Pass.none {T : Nat} {S : Nat → Prop} {v0 v : List Bool} {ag : Bool} {cl cl' : Prop} (h : Pass T S v0 v ag cl) (hc : v = v0 → cl → cl') : Pass T S v0 v ag cl' :=
  ⟨h.len, h.sound, h.mono, h.off, h.yes, fun c => ⟨(h.no c).1, hc (h.no c).1 (h.no c).2⟩⟩
/-- The first gates are closed; the first registers. -/
def clG (k : Nat) (gs : List (Int × Int)) (v : List Bool) (i : Nat) : Prop := ∀ j, (h : j < gs.length) → j < i → v.getD (k + j) false = true → v.getD (gs[j].1 / 2).toNat false = true ∧ v.getD (gs[j].2 / 2).toNat false = true
def clR (k0 : Nat) (nexts : List Int) (v : List Bool) (i : Nat) : Prop := ∀ j, (h : j < nexts.length) → j < i → v.getD (k0 + j) false = true → v.getD (nexts[j] / 2).toNat false = true
/-- Nothing changed: these are what is needed. -/
theorem need_done {k0 k : Nat} {gs : List (Int × Int)} {nexts outs : List Int} {v : List Bool} (hl : v.length = k + gs.length) (hs : ∀ j, v.getD j false = true → Nd k0 k gs nexts outs j) (ho : ∀ l ∈ outs, v.getD (l / 2).toNat false = true) (hg : clG k gs v gs.length) (hr : clR k0 nexts v nexts.length) : v = needL k0 k gs nexts outs :=
  needL_eq hl fun j _ => ⟨hs j, fun h => Nd.least (S := fun j => v.getD j false = true) ho (fun i hi c => hg i hi hi c) (fun i hi c => hr i hi hi c) h⟩
/-! ### From the outputs on -/
/-- What has been met, and what is open. -/
structure Open (k0 k : Nat) (gs : List (Int × Int)) (nexts outs : List Int) (met : List Int) (op : List Int) : Prop where
  sound : ∀ m ∈ met, 0 ≤ m ∧ Nd k0 k gs nexts outs m.toNat
  openS : ∀ l ∈ op, Nd k0 k gs nexts outs (l / 2).toNat
  openR : ∀ l ∈ op, 0 ≤ l ∧ l < 2 * ((k + gs.length : Nat) : Int)
  outs : ∀ l ∈ outs, l / 2 ∈ met ∨ ∃ x ∈ op, x / 2 = l / 2
  g : ∀ (i : Nat) (h : i < gs.length), ((k + i : Nat) : Int) ∈ met → (gs[i].1 / 2 ∈ met ∨ ∃ x ∈ op, x / 2 = gs[i].1 / 2) ∧ (gs[i].2 / 2 ∈ met ∨ ∃ x ∈ op, x / 2 = gs[i].2 / 2)
  r : ∀ (i : Nat) (h : i < nexts.length), ((k0 + i : Nat) : Int) ∈ met → (nexts[i] / 2 ∈ met ∨ ∃ x ∈ op, x / 2 = nexts[i] / 2)
  nodup : met.Nodup
  range : ∀ m ∈ met, 0 ≤ m ∧ m < ((k + gs.length : Nat) : Int)
/-- A literal whose node has been met is done. -/
theorem Open.skip {k0 k : Nat} {gs : List (Int × Int)} {nexts outs met op : List Int} {l : Int} (h : Open k0 k gs nexts outs met (op ++ [l])) (hm : l / 2 ∈ met) : Open k0 k gs nexts outs met op := by
  have key : ∀ x : Int, (x ∈ met ∨ ∃ y ∈ op ++ [l], y / 2 = x) → (x ∈ met ∨ ∃ y ∈ op, y / 2 = x) := fun x hx => by
    rcases hx with hx | ⟨y, hy, e⟩
    · exact .inl hx
    · rcases List.mem_append.1 hy with hy | hy
      · exact .inr ⟨y, hy, e⟩
      · rw [List.mem_singleton.1 hy] at e; exact .inl (by rw [← e]; exact hm)
  exact ⟨h.sound, fun x hx => h.openS x (List.mem_append_left _ hx), fun x hx => h.openR x (List.mem_append_left _ hx), fun x hx => key _ (h.outs x hx), fun i hi c => ⟨key _ (h.g i hi c).1, key _ (h.g i hi c).2⟩, fun i hi c => key _ (h.r i hi c), h.nodup, h.range⟩
/-- A node that is met now: what it depends on is opened. -/
theorem Open.meet {k0 k : Nat} {gs : List (Int × Int)} {nexts outs met op kids : List Int} {l : Int} (h : Open k0 k gs nexts outs met (op ++ [l])) (hm : l / 2 ∉ met)
    (hk : ∀ x ∈ kids, Nd k0 k gs nexts outs (x / 2).toNat ∧ 0 ≤ x ∧ x < 2 * ((k + gs.length : Nat) : Int))
    (hg : ∀ (i : Nat) (h : i < gs.length), ((k + i : Nat) : Int) = l / 2 → gs[i].1 ∈ kids ∧ gs[i].2 ∈ kids)
    (hr : ∀ (i : Nat) (h : i < nexts.length), ((k0 + i : Nat) : Int) = l / 2 → nexts[i] ∈ kids) : Open k0 k gs nexts outs (met ++ [l / 2]) (op ++ kids) := by
  have key : ∀ x : Int, (x ∈ met ∨ ∃ y ∈ op ++ [l], y / 2 = x) → (x ∈ met ++ [l / 2] ∨ ∃ y ∈ op ++ kids, y / 2 = x) := fun x hx => by
    rcases hx with hx | ⟨y, hy, e⟩
    · exact .inl (List.mem_append_left _ hx)
    · rcases List.mem_append.1 hy with hy | hy
      · exact .inr ⟨y, List.mem_append_left _ hy, e⟩
      · rw [List.mem_singleton.1 hy] at e; exact .inl (by rw [← e]; simp)
  have hl := h.openR l (by simp)
  have hlS := h.openS l (by simp)
  refine ⟨fun m hmm => ?_, fun x hx => ?_, fun x hx => ?_, fun x hx => key _ (h.outs x hx), fun i hi c => ?_, fun i hi c => ?_, ?_, fun m hmm => ?_⟩
  · rcases List.mem_append.1 hmm with hmm | hmm
    · exact h.sound m hmm
    · rw [List.mem_singleton.1 hmm]; exact ⟨by omega, hlS⟩
  · rcases List.mem_append.1 hx with hx | hx
    · exact h.openS x (List.mem_append_left _ hx)
    · exact (hk x hx).1
  · rcases List.mem_append.1 hx with hx | hx
    · exact h.openR x (List.mem_append_left _ hx)
    · exact (hk x hx).2
  · rcases List.mem_append.1 c with c | c
    · exact ⟨key _ (h.g i hi c).1, key _ (h.g i hi c).2⟩
    · obtain ⟨q1, q2⟩ := hg i hi (List.mem_singleton.1 c)
      exact ⟨.inr ⟨_, List.mem_append_right _ q1, rfl⟩, .inr ⟨_, List.mem_append_right _ q2, rfl⟩⟩
  · rcases List.mem_append.1 c with c | c
    · exact key _ (h.r i hi c)
    · exact .inr ⟨_, List.mem_append_right _ (hr i hi (List.mem_singleton.1 c)), rfl⟩
  · rw [List.nodup_append]
    refine ⟨h.nodup, by simp, fun a ha b hb => ?_⟩
    rw [List.mem_singleton.1 hb]
    rintro rfl
    exact hm ha
  · rcases List.mem_append.1 hmm with hmm | hmm
    · exact h.range m hmm
    · rw [List.mem_singleton.1 hmm]; omega
/-- Nothing is open: what has been met is what is needed. -/
theorem Open.done {k0 k : Nat} {gs : List (Int × Int)} {nexts outs met : List Int} (h : Open k0 k gs nexts outs met []) (ho : ∀ l ∈ outs, 0 ≤ l) (hg : ∀ g ∈ gs, 0 ≤ g.1 ∧ 0 ≤ g.2) (hr : ∀ l ∈ nexts, 0 ≤ l) (j : Nat) : ((j : Nat) : Int) ∈ met ↔ Nd k0 k gs nexts outs j := by
  constructor
  · intro hj
    have := (h.sound _ hj).2
    simpa using this
  · intro hj
    have key : ∀ x : Int, (x ∈ met ∨ ∃ y ∈ ([] : List Int), y / 2 = x) → x ∈ met := fun x hx => by
      rcases hx with hx | ⟨y, hy, _⟩
      · exact hx
      · cases hy
    refine Nd.least (S := fun j => ((j : Nat) : Int) ∈ met) (fun l hl => ?_) (fun i hi c => ?_) (fun i hi c => ?_) hj
    · have := ho l hl
      rw [show (((l / 2).toNat : Nat) : Int) = l / 2 by omega]
      exact key _ (h.outs l hl)
    · obtain ⟨q1, q2⟩ := hg _ (List.getElem_mem hi)
      obtain ⟨a, b⟩ := h.g i hi c
      refine ⟨?_, ?_⟩
      · rw [show (((gs[i].1 / 2).toNat : Nat) : Int) = gs[i].1 / 2 by omega]; exact key _ a
      · rw [show (((gs[i].2 / 2).toNat : Nat) : Int) = gs[i].2 / 2 by omega]; exact key _ b
    · have := hr _ (List.getElem_mem hi)
      rw [show (((nexts[i] / 2).toNat : Nat) : Int) = nexts[i] / 2 by omega]
      exact key _ (h.r i hi c)
/-- Different nodes, so many at most. -/
theorem met_len : ∀ {T : Nat} {met : List Int}, met.Nodup → (∀ m ∈ met, 0 ≤ m ∧ m < (T : Int)) → met.length ≤ T
  | 0, [], _, _ => Nat.le_refl _
  | 0, m :: _, _, h => by have := h m (by simp); omega
  | T + 1, met, hd, h => by
    have ih := met_len (T := T) (met := met.filter fun m => decide (m ≠ (T : Int))) (hd.filter _) (fun m hm => by
      obtain ⟨h1, h2⟩ := List.mem_filter.1 hm
      have h2 := of_decide_eq_true h2
      have := h m h1
      omega)
    have : met.length ≤ (met.filter fun m => decide (m ≠ (T : Int))).length + 1 := by
      have h1 : (met.filter fun m => decide (m ≠ (T : Int))) = met.erase (T : Int) := by
        rw [hd.erase_eq_filter]
        apply List.filter_congr
        intro m _
        by_cases hm : m = (T : Int) <;> simp [hm]
      rw [h1]
      by_cases hm : (T : Int) ∈ met
      · have := List.length_erase_of_mem hm; omega
      · rw [List.erase_of_not_mem hm]; omega
    omega
end Go.NetM

/- Regions that draw their order, in which a row is written. -/
namespace Go.Abs
open Go.RowKit
theorem SubO.swap {L : List (Nat × AObj)} {p q : Nat × AObj} : SubO (p :: q :: L) (q :: p :: L) := by
  refine ⟨fun k => match k with | 0 => 1 | 1 => 0 | k => k, fun k x hk => ?_, fun k k' h1 h2 h => ?_⟩
  · match k with
    | 0 => exact hk
    | 1 => exact hk
    | k + 2 => exact hk
  · match k, k' with
    | 0, 0 => rfl
    | 0, 1 => simp at h
    | 0, k + 2 => simp at h
    | 1, 0 => simp at h
    | 1, 1 => rfl
    | 1, k + 2 => simp at h
    | k + 2, 0 => simp at h
    | k + 2, 1 => simp at h
    | k + 2, k' + 2 => simpa using h
section
variable {E : Env} {fid N : Nat} {l : List (Nat × AV)} {L X : List (Nat × AObj)} {K Y : List (Nat × Bool)} {Q : AExit → TM → St → Prop}
variable {pol : Nat → Nat} {ops : Array Oper} {o : Oper} {r : List Oper} {i : Nat} {d : Nat} {ty : TypeId} {pos : String} {after : Array Edge} {guard : Option (Nat × Bool)}
variable {k : List (Nat × AV) → List (Nat × AObj) → List (Nat × Bool) → Prop}
/-- A truth is written into a row that is turned. -/
theorem SegY.storeB (kk : Nat) {t : TypeId} {x z : Operand} {y : Ty} {b sz j : Nat} {xs : List AV} {m v : Bool} (hw : wantS ops l { dst := none, op := .store t x z, type := ty, pos := pos, after := after, guard := guard } = some true) (hx : evL l x = some (.ptr b j 0)) (hz : evL l z = some (.bool v)) (ht : E.ty t = some y) (h1 : y.size = 1) (hX : X[kk]? = some (b, .row sz xs)) (hj : xs[j]? = some (.bool m))
    (h : SegY E ops N L K pol r (i + 1) l (X.set kk (b, .row sz (xs.set j (.bool v)))) Y k) : SegY E ops N L K pol ({ dst := none, op := .store t x z, type := ty, pos := pos, after := after, guard := guard } :: r) i l X Y k := by
  intro tm s0 pre hF hp
  have hlt : kk < X.length := by
    rcases Nat.lt_or_ge kk X.length with c | c
    · exact c
    · rw [List.getElem?_eq_none c] at hX; cases hX
  have hX' : (X ++ L)[kk]? = some (b, .row sz xs) := by rw [List.getElem?_append_left hlt]; exact hX
  have hF1 := hF.set hX' (.row sz (xs.set j (.bool v)))
  rw [List.set_append_left _ _ hlt] at hF1
  have q1 : Abs.loud E noCall (pol i) tm s0 { dst := none, op := .store t x z, type := ty, pos := pos, after := after, guard := guard } = some (.junk, s0.put b (.row sz (xs.set j (.bool v)))) := by
    have : Abs.loud E noCall (pol i) tm s0 { dst := none, op := .store t x z, type := ty, pos := pos, after := after, guard := guard } = (match E.ty t with | some ty => if (evalO tm z).cells.length = ty.size then (storeA s0 (evalO tm x) (evalO tm z)).map fun s => (.junk, s) else none | none => none) := rfl
    rw [this, ht, hF.ev hx, hF.ev hz]
    dsimp only
    rw [if_pos (by rw [h1]; rfl)]
    simp [storeA, (hF.obj kk b _ hX').1, hj, AV.ok, AV.cellOk, AV.cells]
  obtain ⟨n, tr, tm', s1, l', X', Y', h1, h2, h3, h4⟩ := h tm (s0.put b (.row sz (xs.set j (.bool v)))) pre hF1 hp
  refine ⟨n, ⟨tm, s0, s0.put b (.row sz (xs.set j (.bool v))), .junk, true⟩ :: tr, tm', s1, l', X', Y', ?_, h2, h3, fun k t o' ht ho => ?_⟩
  · have hs' : stepPre E (callF E n) pre (pol i) i tm s0 { dst := none, op := .store t x z, type := ty, pos := pos, after := after, guard := guard } = some (.junk, s0.put b (.row sz (xs.set j (.bool v)))) := stepPre_loud (fun b hb => ⟨hp b hb, fun _ h => by cases h⟩) rfl rfl q1
    simp only [runOpsT]
    rw [hF.want hw]
    dsimp only
    rw [hs']
    dsimp only [putO]
    rw [h1]
  · cases k with
    | zero =>
      simp only [List.getElem?_cons_zero, Option.some.injEq] at ht ho
      subst ht; subst ho
      exact ⟨hF.baseY.s, hF1.baseY.s, fun _ h => by cases h⟩
    | succ k =>
      simp only [List.getElem?_cons_succ] at ht ho
      exact h4 k t o' ht ho
theorem WS.drawX (m : Nat) (X : List (Nat × AObj)) (Y : List (Nat × Bool)) {id : Nat} {ops : Array Oper} {dy : List (Nat × Nat)} (hd : E.dyn fid id = dy) (ho : hasAlloc ops = false) (hm : Nat.ble m ops.toList.length = true)
    (hc : (dy.all fun p => Nat.blt p.1 m && Nat.blt p.2 m && (match ops.toList[p.2]? with | some o => !isLoud o.op | none => false)) = true)
    (h : SegY E ops N L K (E.pol fid id) (ops.toList.take m) 0 l X Y fun l1 X Y => OS E false (E.pol fid id) ops (ops.toList.drop m) m N l1 (X ++ L) (Y ++ K) Q) (hk : E.mks fid id = false := by rfl) : WS E fid N (.region id ops true) l (X ++ L) (Y ++ K) Q := by
  intro tm st hF
  have hm2 := Nat.le_of_ble_eq_true hm
  have hlA : (ops.toList.take m).length = m := by rw [List.length_take]; omega
  have hF0 := hF.at (m := st.next + ops.size) (by omega)
  generalize hs0 : st.at (st.next + ops.size) = s0 at hF0
  obtain ⟨n1, tr1, tm1, s1, l1, X1, Y1, a1, a2, a3, a4⟩ := h tm s0 (some (st.next, false)) hF0 (fun b hb => by cases hb; rfl)
  obtain ⟨n5, tr4, tm4, st4, c1, _, c3⟩ := a3 (some (st.next, false)) tm1 _ a2 (fun b hb => ⟨ho, by cases hb; rfl⟩)
  have a1 := runOpsT_mono (callF_mono n1 (max n1 n5) (by omega)) _ _ _ _ a1
  have c1 := runOpsT_mono (callF_mono n5 (max n1 n5) (by omega)) _ _ _ _ c1
  have hl1 := runOpsT_len a1
  have hops : ops.toList = ops.toList.take m ++ ops.toList.drop m := (List.take_append_drop m _).symm
  have hrun : runOpsT E (callF E (max n1 n5)) (some (st.next, false)) (E.pol fid id) ops ops.toList 0 tm s0 = some (tr1 ++ tr4, tm4, st4) := by
    have := runOpsT_append _ _ _ _ _ a1 (by rw [Nat.zero_add, hlA]; exact c1)
    rw [← hops] at this
    exact this
  refine ⟨max n1 n5 + 1, .normal, tm4, st4, ?_, c3⟩
  have hpre : preObjs E st.next ops.toList 0 st.objs = some st.objs := preObjs_none _ _ _ ho
  have h1' := runOpsT_mono (callF_mono (max n1 n5) (max n1 n5 + 1) (by omega)) _ _ _ _ hrun
  rw [← hs0] at h1'
  unfold St.at at h1'
  simp only [exec, execReg, if_true, hpre, hd, hk]
  have hdyn := dyn_stays (tr4 := tr4) hlA hl1 hc a4
  cases dy with
  | nil =>
    dsimp only
    rw [(runOps_of_T _ _ _ _ h1').1]
  | cons p0 ps =>
    dsimp only
    rw [h1']
    dsimp only
    rw [if_pos hdyn]
end
end Go.Abs
