/- Own text of this claim: part 13 of an interpreter that is proved sound against the model, and of what it shows of the law. -/
import Derived.Test.YthomnnnhkfjbdaaGreatAbs12
import Derived.Test.YthomnnnhkfjbdaaGreatAbs11
import Derived.Test.YthomnnnhkfjbdaaGreatAbs10
namespace Go.OptEnv
open Go Go.Proofs Go.Abs Go.RowKit Go.NetM
set_option maxRecDepth 10000
def layQ (n : GNet) (s : List Int × List (Int × Int)) : GNet := ⟨GSl.some n.ins.xs, GSl.some (n.regs.xs.map (withNext s.1)), GSl.of s.2, GSl.some (n.outs.xs.map (withLit s.1))⟩
theorem layQ_same (n : GNet) (s : List Int × List (Int × Int)) : SameC (layQ n s) (layN n s) := by
  obtain ⟨b1, b2, b3, b4⟩ := lay_xs (n := n) (s := s)
  exact ⟨b1.symm, b2.symm, by rw [b3]; exact gof_xs _, b4.symm⟩
theorem atL_front {l : List Int} {y x : Int} {n : Nat} (h : (x / 2).toNat < l.length) : atL ((l ++ [y]) ++ List.replicate n 0) x = atL l x := by
  rw [atL_zeros]
  unfold atL
  rw [getD_snocI, if_pos h]
theorem freeze_rr {L : List (Nat × AObj)} {st : St} {i g : AV} {kr ko rb nr ob no : Nat} {R : List GReg} {P : List GPin} (hi : AV.free i = true) (hg : AV.free g = true) (hn : nr = R.length) (hm : no = P.length) (hS : SFa L [] st) (hr : L[kr]? = some (rb, .row 3 (R.map regAV))) (ho : L[ko]? = some (ob, .row 2 (P.map pinAV))) (hne : rb ≠ ob) :
    ∃ t t' st2, freezeA st (.tup [.agg [i, .sl 3 rb 0 nr, g, .sl 2 ob 0 no], .int .i64 0]) = some (.tup [.agg [i, .vs 3 (.tok t) (R.map regAV), g, .vs 2 (.tok t') (P.map pinAV)], .int .i64 0], st2) := by
  subst hn; subst hm
  have hgt := (hS.obj kr rb _ hr).1
  have hgo := (hS.obj ko ob _ ho).1
  have e : freezeC st (.sl 3 rb 0 R.length) = some (.vs 3 (.tok st.next) (R.map regAV), (st.drop rb).newTok) := by
    simp only [freezeC, hgt]
    rw [if_pos ⟨trivial, by simp⟩, if_pos (by simp), List.drop_zero, List.take_of_length_le (by simp)]
  have hgo2 : ((st.drop rb).newTok).get ob = some (.row 2 (P.map pinAV)) := by
    rw [St.get_newTok, St.get_drop, if_neg hne]; exact hgo
  have e2 : freezeC ((st.drop rb).newTok) (.sl 2 ob 0 P.length) = some (.vs 2 (.tok ((st.drop rb).newTok).next) (P.map pinAV), (((st.drop rb).newTok).drop ob).newTok) := by
    simp only [freezeC, hgo2]
    rw [if_pos ⟨trivial, by simp⟩, if_pos (by simp), List.drop_zero, List.take_of_length_le (by simp)]
  refine ⟨st.next, ((st.drop rb).newTok).next, (((st.drop rb).newTok).drop ob).newTok, ?_⟩
  simp only [freezeA, freezeM, freezeB, freezeL, freezeC_free hi, e, freezeC_free hg, e2]
  rfl
def Rel53 : Rel := RelF FitsN (fun n => [netAV n]) fun n => resAV n (layQ n (cleanS n))
def mkQ (n : GNet) (g : Bool × Nat) (rb ob : Nat) : MkR := ⟨growA g.1 g.2 1 (n.ins.xs.map strAV), .sl 3 rb 0 n.regs.xs.length, .sl 2 ob 0 n.outs.xs.length⟩
attribute [local irreducible] WS QS OS OD Abs.Sub SubO SubK CW GSl.av accA growA
section
variable {pr : Prims} {L : List (Nat × AObj)} {K : List (Nat × Bool)} {st : St}
theorem use99s (h : Has pr 99 Rel99) {kl lb N : Nat} {k : Int} {v : List Int} (hL : L[kl]? = some (lb, .row 1 (v.map intAV))) (hN : N = v.length) (hS : SFa L K st) (hk : 0 ≤ k ∧ k < 4611686018427387904 ∧ k / 2 < v.length) (hv : 0 ≤ v.getD (k / 2).toNat 0 ∧ v.getD (k / 2).toNat 0 < 4611686018427387904) : primOf Rel99 [.sl 1 lb 0 N, .int .i64 k] st = some (.int .i64 (atL v k), st) := by
  subst hN
  have hg := (hS.obj kl lb _ hL).1
  have hf2 : AV.free (.sl 1 lb 0 v.length) = false := rfl
  have e1 : viewA st 9 (.sl 1 lb 0 v.length) = some ((GSl.some v).av 1 intAV) := by
    simp only [viewA, hf2, hg, Bool.false_eq_true, if_false]
    rw [if_pos ⟨trivial, by simp⟩, List.drop_zero, List.take_of_length_le (by simp)]
    have : mapO (viewA st 8) (v.map intAV) = some (v.map intAV) := by
      have h := mapO_free (st := st) 7 (xs := v.map intAV) (freeL_map int_free v)
      rw [plainL_map int_plain] at h
      exact h
    simp only [viewA] at this
    rw [this]; unfold GSl.av; rfl
  have e2 : viewA st 9 (.int .i64 k) = some (.int .i64 k) := viewA_free 8 rfl
  exact h.view (a := [(GSl.some v).av 1 intAV, .int .i64 k]) (r := .int .i64 (atL v k)) (by simp only [mapO, e1, e2]) ⟨(GSl.some v, k), ⟨hk, hv⟩, rfl, rfl⟩ rfl
set_option maxHeartbeats 4000000 in
theorem run53 (h1 : pr 53 = none) (h31 : Has pr 31 Rel31) (h46 : pr 46 = none) (h99 : Has pr 99 Rel99) (h100 : Has pr 100 Rel100) (h73 : Has pr 73 Rel73) (n : GNet) (hn : FitsN n) (st : St) :
    CW (En pr) 53 [netAV n] st fun r st' => ∃ r' st2, freezeA st' r = some (r', st2) ∧ AV.plain r' = resAV n (layQ n (cleanS n)) ∧ AV.free r' = true := by
  have u31 := use31 h31 hn
  rcases (Bool.eq_false_or_eq_true (validM n)).symm with hV | hV
  · rw [hV] at u31
    refine CW.start (N := 151) h1 rfl rfl ?_
    repeat' (first | (refine OS.do rfl ?_; first | refine OD.box rfl rfl rfl rfl (net_ok _) rfl (fun b1 => ?_) | refine OD.auto rfl rfl ?_ | refine OD.loadP 1 rfl rfl rfl rfl rfl rfl ?_ | refine OD.alloc rfl rfl rfl rfl (fun _ => ?_) | refine OD.storeW 0 rfl rfl rfl rfl (by first | rfl | exact net_ok _) rfl rfl rfl ?_ | refine OD.call rfl rfl rfl h31.eq u31 (fun _ => rfl) ?_) | refine OS.nil ?_ | refine WS.seq ?_ | refine QS.seqN ?_ | refine WS.region ?_ | refine WS.condT rfl ?_ | refine WS.ret ?_ | refine QS.seqR ?_)
    refine QS.retO (ResO.cell 0 (by rfl) (by rfl) (by rfl) (by rfl) (by rfl) (.tmp (by rfl) .nil)) fun st hs => ⟨_, st, freeze_free rfl, ?_, rfl⟩
    rw [res_no hV]; rfl
  rw [hV] at u31
  obtain ⟨f1, f2, f3, f4⟩ := valid_len hV
  obtain ⟨hgo, hrn, hol⟩ := valid_lits hV
  have hk1 : 1 ≤ n.kN ∧ n.kN ≤ 2001 := by unfold GNet.kN; omega
  have hfst : n.first = (n.kN : Int) := by unfold GNet.first GNet.kN; omega
  have u73 := use73 h73 hn
  rw [hfst] at u73
  have hnl : n.nexts.length = n.regs.xs.length := by simp [GNet.nexts]
  refine CW.start (N := 151) h1 rfl rfl ?_
  repeat' (first | (refine OS.do rfl ?_; first | refine OD.box rfl rfl rfl rfl (net_ok _) rfl (fun b1 => ?_) | refine OD.auto rfl rfl ?_ | refine OD.loadP 1 rfl rfl rfl rfl rfl rfl ?_ | refine OD.len rfl rfl (fun _ => lenTy_av rfl rfl) ?_ | refine OD.alloc rfl rfl rfl rfl (fun _ => ?_) | refine OD.call rfl rfl rfl h31.eq u31 (fun _ => rfl) ?_) | refine OS.nil ?_ | refine WS.seq ?_ | refine QS.seqN ?_ | refine WS.region ?_ | refine WS.condF rfl ?_ | refine WS.skip ?_ | refine WS.block ?_)
  rename_i b2
  refine WS.newK ?_
  refine WS.rangeX (A := Nat × List Int) (n := n.regs.xs.length) ⟨24, _, fun a => [(4, accA a.1 1 (a.2.map intAV))], fun _ => [(b2, .row ty27.size [ty27.zeroV]), (b1, .row ty27.size [netAV n])], fun a => [(a.1, !a.2.isEmpty)], fun i a => a.2 = n.nexts.take i⟩ ((0, [])) [1, 2, 22, 23] (rfl) ?_ ?_ (hm := by (try dsimp only); repeat' (first | exact Sub.nil _ | refine Sub.cons (congrArg some (accA_nil2 _ _).symm) ?_ | refine Sub.cons (congrArg (fun z => some (AV.int .i64 z)) (wrap_succ (by omega))) ?_ | refine Sub.cons rfl ?_))
  · rintro i ⟨t, R⟩ hi hR
    try dsimp only at hR
    have hRl : R.length = i := by rw [hR, List.length_take]; omega
    have hgm : R.map intAV ++ [.int .i64 n.regs.xs[i].next] = (R ++ [n.regs.xs[i].next]).map intAV := by rw [List.map_append]; rfl
    have hnx : n.nexts.take (i + 1) = n.nexts.take i ++ [n.regs.xs[i].next] := by
      rw [List.take_succ_eq_append_getElem (by omega)]; simp [GNet.nexts]
    dsimp only [RSt.at, List.cons_append, List.nil_append]
    repeat' (first | (refine OS.do rfl ?_; first | refine OD.loadP 0 rfl rfl rfl rfl rfl rfl ?_ | refine OD.auto rfl rfl ?_ | refine OD.indexAddr rfl rfl rfl (indexAddrA_nat rfl rfl rfl rfl (by first | assumption | exact List.getElem?_eq_getElem (by omega))) ?_ | refine OD.alloc rfl rfl rfl rfl (fun _ => ?_) | refine OD.storeW 0 rfl rfl rfl rfl (by first | rfl | exact net_ok _) rfl rfl rfl ?_ | refine OD.append 0 (xs := R.map intAV) (ys := [.int .i64 n.regs.xs[i].next]) rfl rfl rfl rfl (by rw [List.isEmpty_map]; rfl) rfl rfl rfl rfl rfl rfl (.inr ⟨⟨_, rfl⟩, rfl⟩) (fun _ => rfl) rfl rfl (roomB rfl (by simp only [List.length_map, List.length_singleton]; omega)) (fun t' => ?_)) | refine OS.nil ?_ | refine WS.seq ?_ | refine QS.seqN ?_ | refine WS.region ?_)
    rw [hgm, List.isEmpty_map]
    exact QS.rangeX ((t', R ++ [n.regs.xs[i].next])) (by (try dsimp only) <;> exact (by rw [hnx, ← hR])) (hL := by (try dsimp only); exact SubO.drop (SubO.refl _))
  rintro ⟨t, R⟩ hR
  try dsimp only at hR
  rw [List.take_of_length_le (by omega)] at hR
  dsimp only [RSt.at, List.cons_append, List.nil_append]
  repeat' (first | (refine OS.do rfl ?_; first | refine OD.auto rfl rfl ?_ | refine OD.loadP 1 rfl rfl rfl rfl rfl rfl ?_ | refine OD.len rfl rfl (fun _ => lenTy_av rfl rfl) ?_) | refine OS.nil ?_ | refine WS.seq ?_ | refine QS.seqN ?_ | refine WS.region ?_ | refine WS.block ?_)
  refine WS.rangeX (A := Nat × List Int) (n := n.outs.xs.length) ⟨37, _, fun a => [(4, accA a.1 1 (a.2.map intAV))], fun _ => [(b2, .row ty27.size [ty27.zeroV]), (b1, .row ty27.size [netAV n])], fun a => [(a.1, !a.2.isEmpty)], fun i a => a.2 = n.nexts ++ (n.outs.xs.take i).map (·.lit)⟩ ((t, R)) [1, 2, 35, 36] (by simp [hR]) ?_ ?_
  · rintro i ⟨t, R⟩ hi hR
    try dsimp only at hR
    have hRl : R.length = n.regs.xs.length + i := by rw [hR, List.length_append, List.length_map, List.length_take]; omega
    have hgm : R.map intAV ++ [.int .i64 n.outs.xs[i].lit] = (R ++ [n.outs.xs[i].lit]).map intAV := by rw [List.map_append]; rfl
    dsimp only [RSt.at, List.cons_append, List.nil_append]
    repeat' (first | (refine OS.do rfl ?_; first | refine OD.loadP 0 rfl rfl rfl rfl rfl rfl ?_ | refine OD.auto rfl rfl ?_ | refine OD.indexAddr rfl rfl rfl (indexAddrA_nat rfl rfl rfl rfl (by first | assumption | exact List.getElem?_eq_getElem (by omega))) ?_ | refine OD.alloc rfl rfl rfl rfl (fun _ => ?_) | refine OD.storeW 0 rfl rfl rfl rfl (by first | rfl | exact net_ok _) rfl rfl rfl ?_ | refine OD.append 0 (xs := R.map intAV) (ys := [.int .i64 n.outs.xs[i].lit]) rfl rfl rfl rfl (by rw [List.isEmpty_map]; rfl) rfl rfl rfl rfl rfl rfl (.inr ⟨⟨_, rfl⟩, rfl⟩) (fun _ => rfl) rfl rfl (roomB rfl (by simp only [List.length_map, List.length_singleton]; omega)) (fun t' => ?_)) | refine OS.nil ?_ | refine WS.seq ?_ | refine QS.seqN ?_ | refine WS.region ?_)
    rw [hgm, List.isEmpty_map]
    exact QS.rangeX ((t', R ++ [n.outs.xs[i].lit])) (by (try dsimp only) <;> exact (by rw [map_take_succ hi, hR, List.append_assoc])) (hL := by (try dsimp only); exact SubO.drop (SubO.refl _))
  rintro ⟨t, R⟩ hR
  try dsimp only at hR
  rw [List.take_of_length_le (Nat.le_refl _)] at hR
  have hR : R = n.roots := hR
  subst hR
  have hrl : n.roots.length ≤ 2000 := by unfold GNet.roots; rw [List.length_append, List.length_map]; omega
  have hro : ∀ l ∈ n.roots, 0 ≤ l ∧ l < 2 * ((n.kN + n.gates.xs.length : Nat) : Int) := fun l hl => by
    rcases List.mem_append.1 hl with h | h
    · obtain ⟨r, hr, rfl⟩ := List.mem_map.1 h; exact hrn r hr
    · obtain ⟨r, hr, rfl⟩ := List.mem_map.1 h; exact hol r hr
  have u100 := use100a h100 hn (t := t) hV (by omega) hro
  have z100 : ∀ st, freezeA st ((GSl.some (coneN n n.roots)).av 1 boolAV) = some ((GSl.some (coneN n n.roots)).av 1 boolAV, st) := fun st => freeze_free (free_av bool_free)
  have hcl : (GSl.some (coneN n n.roots)).xs.length = n.kN + n.gates.xs.length := coneM_len
  dsimp only [RSt.at, List.cons_append, List.nil_append]
  repeat' (first | (refine OS.do rfl ?_; first | refine OD.storeW 0 rfl rfl rfl rfl (ownA_ok n g rb ob) rfl rfl rfl ?_ | refine OD.auto rfl rfl ?_ | refine OD.loadP 1 rfl rfl rfl rfl rfl rfl ?_ | refine OD.len rfl rfl (fun _ => lenTy_av rfl rfl) ?_ | refine OD.alloc rfl rfl rfl rfl (fun _ => ?_) | refine OD.call rfl rfl rfl h100.eq u100 z100 ?_ | (refine OD.callR (D := ((Bool × Nat) × (Bool × Nat)) × Nat × Nat) (fun _ => True) (fun d => ownA n d.1 d.2.1 d.2.2) (fun d => (d.2.2, .row 2 (n.outs.xs.map pinAV)) :: (d.2.1, .row 3 (n.regs.xs.map regAV)) :: _) (fun _ => []) rfl rfl rfl rfl (fun st hS => run46n h46 n (by omega) (by omega) (by omega) (by omega) hS.noK) ?_; rintro ⟨g, rb, ob⟩ _) | refine OD.storeG 0 rfl rfl rfl rfl rfl rfl rfl rfl ?_ | (refine OD.makeSlice (n := n.kN + n.gates.xs.length) rfl (congrArg (fun (z : Nat) => some (AV.int .i64 (z : Int))) hcl) (congrArg (fun (z : Nat) => some (AV.int .i64 (z : Int))) hcl) rfl rfl rfl rfl rfl (roomB rfl (by omega)) (fun lb => ?_))) | refine OS.nil ?_ | refine WS.seq ?_ | refine QS.seqN ?_ | refine WS.region ?_ | refine WS.block ?_)
  rename_i cb
  have hmo : AObj.row ty27.size [AV.agg [growA g.1.1 g.1.2 1 (n.ins.xs.map strAV), .sl 3 rb 0 n.regs.xs.length, .nilsl, .sl 2 ob 0 n.outs.xs.length]] = (mkQ n g.1 rb ob).obj 0 [] := by
    unfold MkR.obj MkR.av mkQ
    rw [List.map_nil, acc_nil]; rfl
  rw [show List.replicate (n.kN + n.gates.xs.length) ty3.zeroV = (idL 0 ++ List.replicate (n.kN + n.gates.xs.length - (idL 0).length) 0).map intAV from rep_int _]
  refine WS.newK ?_
  refine WS.objs (L' := [(lb, .row ty3.size ((idL 0 ++ List.replicate (n.kN + n.gates.xs.length - (idL 0).length) 0).map intAV)), (cb, (mkQ n g.1 rb ob).obj 0 []), (ob, .row 2 (n.outs.xs.map pinAV)), (rb, .row 3 (n.regs.xs.map regAV)), (b2, .row ty27.size [ty27.zeroV]), (b1, .row ty27.size [netAV n])]) (by rw [← hmo]; exact SubO.refl _) ?_
  generalize hkeep : coneN n n.roots = keep at *
  have hzero : ∀ {lits : List Int} {i : Nat}, lits.length = i → i < n.kN + n.gates.xs.length → ((lits ++ List.replicate (n.kN + n.gates.xs.length - lits.length) 0).map intAV)[i]? = some (.int .i64 0) := fun {lits i} hl hi => by
    rw [List.getElem?_map, List.getElem?_append_right (by omega), hl, Nat.sub_self, List.getElem?_replicate, if_pos (by omega)]; rfl
  have hset : ∀ {lits : List Int} {i : Nat} (x : Int), lits.length = i → i < n.kN + n.gates.xs.length → ((lits ++ List.replicate (n.kN + n.gates.xs.length - lits.length) 0).map intAV).set i (.int .i64 x) = ((lits ++ [x]) ++ List.replicate (n.kN + n.gates.xs.length - (lits ++ [x]).length) 0).map intAV := fun {lits i} x hl hi => by
    have hrep : n.kN + n.gates.xs.length - lits.length = (n.kN + n.gates.xs.length - (lits.length + 1)) + 1 := by omega
    have e : ((lits ++ List.replicate (n.kN + n.gates.xs.length - lits.length) 0).map intAV).set i (.int .i64 x) = ((lits ++ List.replicate (n.kN + n.gates.xs.length - lits.length) 0).set lits.length x).map intAV := by rw [List.map_set, hl]; rfl
    rw [e, hrep, set_zeros, List.length_append]; rfl
  refine WS.loopX (D := Nat) [1, 2, 9, 10, 11] (fun j => [(12, .int .i64 (j : Int))]) (fun j => [(lb, .row ty3.size ((idL j ++ List.replicate (n.kN + n.gates.xs.length - (idL j).length) 0).map intAV)), (cb, (mkQ n g.1 rb ob).obj 0 []), (ob, .row 2 (n.outs.xs.map pinAV)), (rb, .row 3 (n.regs.xs.map regAV)), (b2, .row ty27.size [ty27.zeroV]), (b1, .row ty27.size [netAV n])]) (fun _ => [(0, false)]) (fun j => j ≤ n.kN) (fun j => n.kN - j) (0) (Nat.zero_le _) ?_
  rintro j hj
  try dsimp only at hj
  have hw : IntKind.i64.wrap (2 * (j : Int)) = 2 * (j : Int) := wrap64 (by omega) (by omega)
  dsimp only [RSt.at, List.cons_append, List.nil_append]
  repeat' (first | (refine OS.do rfl ?_; first | refine OD.auto rfl rfl ?_ | refine OD.len rfl rfl (fun _ => lenTy_av rfl rfl) ?_ | refine OD.loadP 5 rfl rfl rfl rfl rfl rfl ?_ | refine OD.call rfl rfl rfl h73.eq u73 (fun _ => rfl) ?_ | refine OD.indexAddr rfl rfl rfl (indexAddrA_sl rfl rfl rfl rfl (by omega)) ?_ | (rw [hw]; refine OD.storeI 0 rfl rfl rfl rfl rfl (hzero (idL_len j) (by omega)) ?_)) | refine OS.nil ?_ | refine WS.seq ?_ | refine QS.seqN ?_ | refine WS.region ?_ | refine WS.condD rfl (fun _ => ?_) (fun _ => ?_) | refine WS.skip ?_ | refine WS.block ?_ | refine QS.blockN ?_ | refine WS.exit ?_ | refine QS.seqE ?_ | refine QS.blockH ?_ | refine QS.loopE ?_)
  · rename_i hc
    have hj2 : j < n.kN + n.gates.xs.length := by omega
    dsimp only [List.set_cons_zero]
    rw [hset _ (idL_len j) hj2, ← idL_succ]
    exact QS.loopX (j + 1) (by exact (by show j + 1 ≤ n.kN; omega)) (by exact (by show n.kN - (j + 1) < n.kN - j; omega))
  rename_i hc
  have hjk : j = n.kN := by omega
  subst hjk
  refine WS.rangeX (A := Nat × List Int × List (Int × Int)) (n := n.gates.xs.length) ⟨70, _, fun _ => [], fun a => [(lb, .row ty3.size ((a.2.1 ++ List.replicate (n.kN + n.gates.xs.length - a.2.1.length) 0).map intAV)), (cb, (mkQ n g.1 rb ob).obj a.1 a.2.2), (ob, .row 2 (n.outs.xs.map pinAV)), (rb, .row 3 (n.regs.xs.map regAV)), (b2, .row ty27.size [ty27.zeroV]), (b1, .row ty27.size [netAV n])], fun a => [(a.1, !a.2.2.isEmpty)], fun i a => (a.2.1, a.2.2) = nodeM n keep (n.kN + i)⟩ ((0, idL n.kN, [])) [1, 2, 9, 10, 11, 68, 69] (by unfold nodeM; dsimp only; rw [if_neg (by omega), Nat.add_zero, Nat.sub_self]; rfl) ?_ ?_
  · rintro j ⟨tg, lits, G⟩ hj hA
    try dsimp only at hA
    have hs := nodeM_ok (n := n) (keep := keep) (i := j) (by omega)
    rw [← hA] at hs
    have hl : lits.length = n.kN + j := hs.len
    have hGl := hs.gates
    try dsimp only at hGl
    obtain ⟨⟨g1, g2⟩, g3, g4⟩ := hgo j hj
    have hkl : keep.length = n.kN + n.gates.xs.length := hcl
    have hkx : (GSl.some keep).xs[((n.kN + j : Nat) : Int).toNat]? = some (keep.getD (n.kN + j) false) := by
      show keep[n.kN + j]? = _
      rw [List.getD_eq_getElem?_getD, List.getElem?_eq_getElem (by omega)]; rfl
    have hwk : IntKind.i64.wrap ((n.kN : Int) + (j : Int)) = ((n.kN + j : Nat) : Int) := by rw [wrap64 (by omega) (by omega)]; omega
    have hwv : IntKind.i64.wrap (2 * IntKind.i64.wrap ((n.kN : Int) + (G.length : Int))) = 2 * ((n.kN + G.length : Nat) : Int) := by
      rw [wrap64 (n := (n.kN : Int) + (G.length : Int)) (by omega) (by omega), wrap64 (by omega) (by omega)]; omega
    have hki : indexAddrA (En pr) 38 (.sl ty3.size lb 0 (n.kN + n.gates.xs.length)) (.int .i64 (IntKind.i64.wrap ((n.kN : Int) + (j : Int)))) = some (.ptr lb (n.kN + j) 0) := by
      rw [hwk]; exact indexAddrA_sl rfl rfl rfl rfl (by omega)
    have u99 : ∀ (l v : Int), 0 ≤ l ∧ l < 2 * ((n.kN + j : Nat) : Int) → ∀ {L' : List (Nat × AObj)} {K' : List (Nat × Bool)} (kl : Nat), L'[kl]? = some (lb, .row 1 (((lits ++ [v]) ++ List.replicate (n.kN + n.gates.xs.length - (lits ++ [v]).length) 0).map intAV)) → ∀ st, SFa L' K' st → primOf Rel99 [.sl 1 lb 0 (n.kN + n.gates.xs.length), .int .i64 l] st = some (.int .i64 (atL lits l), st) := fun l v hl2 L' K' kl hL st hS => by
      have hr := hs.range (l / 2).toNat
      dsimp only at hr
      have hgd : ((lits ++ [v]) ++ List.replicate (n.kN + n.gates.xs.length - (lits ++ [v]).length) 0).getD (l / 2).toNat 0 = lits.getD (l / 2).toNat 0 := by rw [getD_zeros, getD_snocI, if_pos (by omega)]
      have hLen : ((lits ++ [v]) ++ List.replicate (n.kN + n.gates.xs.length - (lits ++ [v]).length) 0).length = n.kN + n.gates.xs.length := by simp only [List.length_append, List.length_singleton, List.length_replicate]; omega
      have := use99s h99 (N := n.kN + n.gates.xs.length) (k := l) hL hLen.symm hS ⟨hl2.1, by omega, by omega⟩ (by rw [hgd]; omega)
      rw [atL_front (by omega)] at this
      exact this
    have hgm : G.map gateAV ++ [gateAV (atL lits n.gates.xs[j].1, atL lits n.gates.xs[j].2)] = (G ++ [(atL lits n.gates.xs[j].1, atL lits n.gates.xs[j].2)]).map gateAV := by rw [List.map_append]; rfl
    dsimp only [RSt.at, List.cons_append, List.nil_append]
    repeat' (first | (refine OS.do rfl ?_; first | refine OD.indexAddr rfl rfl rfl (indexAddrA_int rfl rfl rfl rfl (by rw [hwk]; omega) (by rw [hwk]; exact hkx)) ?_ | refine OD.auto rfl rfl ?_ | refine OD.indexAddr rfl rfl rfl (indexAddrA_nat rfl rfl rfl rfl (by first | assumption | exact List.getElem?_eq_getElem (by omega))) ?_ | refine OD.alloc rfl rfl rfl rfl (fun _ => ?_) | refine OD.storeW 0 rfl rfl rfl rfl (by first | rfl | exact net_ok _) rfl rfl rfl ?_ | refine OD.loadP 6 rfl rfl rfl rfl rfl rfl ?_ | refine OD.call rfl rfl rfl h73.eq u73 (fun _ => rfl) ?_) | refine OS.nil ?_ | refine WS.seq ?_ | refine QS.seqN ?_ | refine WS.region ?_ | refine WS.skip ?_ | refine WS.condB rfl (fun _ => ?_) (fun _ => ?_))
    · rename_i hb
      refine WS.drawY 10 [] (K := [(tg, !G.isEmpty)]) rfl rfl rfl rfl ?_; (repeat' (first | refine SegY.nil ?_ | refine SegY.loadP 6 rfl rfl rfl rfl rfl rfl rfl ?_ | refine SegY.len rfl rfl rfl (fun _ => lenTy_accm rfl rfl) ?_ | refine SegY.auto rfl rfl rfl rfl ?_ | refine SegY.loadP 0 rfl rfl rfl rfl rfl rfl rfl ?_ | refine SegY.loadP 1 rfl rfl rfl rfl rfl rfl rfl ?_ | refine SegY.loadP 2 rfl rfl rfl rfl rfl rfl rfl ?_ | refine SegY.indexAddr rfl rfl rfl rfl rfl ?_ | refine SegY.call rfl rfl rfl rfl h73.eq u73 (fun _ => rfl) ?_))
      dsimp only [RSt.at, List.cons_append, List.nil_append]
      repeat' (first | (refine OS.do rfl ?_; first | refine OD.indexAddr rfl rfl rfl hki ?_ | refine OD.auto rfl rfl ?_ | (rw [hwv]; refine OD.storeI 1 rfl rfl rfl rfl rfl (hzero hl (by omega)) ?_)) | refine OS.nil ?_ | refine QS.seqN ?_)
      dsimp only [List.set_cons_zero, List.set_cons_succ]
      rw [hset _ hl (by omega)]
      refine WS.drawY 10 [] (K := [(tg, !G.isEmpty)]) rfl rfl rfl rfl ?_; (repeat' (first | refine SegY.nil ?_ | refine SegY.callW (D := Unit) (fun _ => True) (fun _ => .int .i64 (atL lits n.gates.xs[j].1)) (fun _ => _) (fun _ => _) rfl rfl rfl rfl (fun st hS => CW.prim h99.eq (u99 _ _ ⟨g1, g2⟩ 1 rfl st hS) ⟨(), st, trivial, rfl, hS⟩) (fun _ _ => ?_) | refine SegY.callW (D := Unit) (fun _ => True) (fun _ => .int .i64 (atL lits n.gates.xs[j].2)) (fun _ => _) (fun _ => _) rfl rfl rfl rfl (fun st hS => CW.prim h99.eq (u99 _ _ ⟨g3, g4⟩ 1 rfl st hS) ⟨(), st, trivial, rfl, hS⟩) (fun _ _ => ?_) | refine SegY.auto rfl rfl rfl rfl ?_ | refine SegY.loadP 0 rfl rfl rfl rfl rfl rfl rfl ?_ | refine SegY.loadP 1 rfl rfl rfl rfl rfl rfl rfl ?_ | refine SegY.loadP 2 rfl rfl rfl rfl rfl rfl rfl ?_ | refine SegY.indexAddr rfl rfl rfl rfl rfl ?_))
      dsimp only [RSt.at, List.cons_append, List.nil_append]
      repeat' (first | (refine OS.do rfl ?_; first | refine OD.auto rfl rfl ?_ | (refine OD.append 0 (xs := G.map gateAV) (ys := [gateAV (atL lits n.gates.xs[j].1, atL lits n.gates.xs[j].2)]) rfl rfl rfl rfl (by rw [List.isEmpty_map]; rfl) rfl rfl rfl rfl rfl rfl (.inr ⟨⟨_, rfl⟩, rfl⟩) (fun _ => rfl) rfl rfl (roomB rfl (by simp only [List.length_map, List.length_singleton]; omega)) (fun t' => ?_); rw [hgm]) | (refine OD.storeG 2 rfl rfl rfl rfl rfl acc_ok1 (by rw [acc_cells]; rfl) (by rw [acc_cells]; rfl) ?_; rw [st_gR])) | refine OS.nil ?_)
      have hst := nodeM_gate (n := n) (keep := keep) hj
      rw [← hA] at hst
      unfold keepS at hst
      rw [if_pos (by rw [hl]; exact hb)] at hst
      dsimp only at hst
      rw [List.isEmpty_map]
      exact QS.rangeX ((t', lits ++ [2 * ((n.kN + G.length : Nat) : Int)], G ++ [(atL lits n.gates.xs[j].1, atL lits n.gates.xs[j].2)])) (by (try dsimp only) <;> exact (hst.symm)) (hL := by (try dsimp only); exact SubO.drop (SubO.refl _))
    · rename_i hb
      have hst := nodeM_gate (n := n) (keep := keep) hj
      rw [← hA] at hst
      unfold keepS at hst
      rw [if_neg (by rw [hl, hb]; simp)] at hst
      dsimp only at hst
      have hrep : n.kN + n.gates.xs.length - lits.length = (n.kN + n.gates.xs.length - (lits.length + 1)) + 1 := by omega
      rw [hrep, skip_zeros]
      have hrl : n.kN + n.gates.xs.length - (lits.length + 1) = n.kN + n.gates.xs.length - (lits ++ [0]).length := by simp
      rw [hrl]
      exact QS.rangeX ((tg, lits ++ [0], G)) (by (try dsimp only) <;> exact (hst.symm)) (hL := by (try dsimp only); exact SubO.drop (SubO.refl _))
  rintro ⟨tg, lits, G⟩ hA
  try dsimp only at hA
  have hs := nodeM_ok (n := n) (keep := keep) (Nat.le_refl _)
  rw [← hA] at hs
  rw [nodeM_all] at hA
  have hRl := hs.len
  have hGl := hs.gates
  try dsimp only at hRl hGl
  have hrow : (lits ++ List.replicate (n.kN + n.gates.xs.length - lits.length) 0) = lits := by rw [hRl, Nat.sub_self]; simp
  have u99 : ∀ (l : Int), 0 ≤ l ∧ l < 2 * ((n.kN + n.gates.xs.length : Nat) : Int) → ∀ {L' : List (Nat × AObj)} {K' : List (Nat × Bool)} (kl : Nat), L'[kl]? = some (lb, .row 1 (lits.map intAV)) → ∀ st, SFa L' K' st → primOf Rel99 [.sl 1 lb 0 (n.kN + n.gates.xs.length), .int .i64 l] st = some (.int .i64 (atL lits l), st) := fun l hl2 L' K' kl hL st hS => by
    have hr := hs.range (l / 2).toNat
    dsimp only at hr
    exact use99s h99 (N := n.kN + n.gates.xs.length) (k := l) hL hRl.symm hS ⟨hl2.1, by omega, by omega⟩ (by omega)
  dsimp only [RSt.at, List.cons_append, List.nil_append]
  rw [hrow]
  repeat' (first | (refine OS.do rfl ?_; first | refine OD.auto rfl rfl ?_ | refine OD.loadP 1 rfl rfl rfl rfl rfl rfl ?_ | refine OD.len rfl rfl (fun _ => rfl) ?_) | refine OS.nil ?_ | refine WS.seq ?_ | refine QS.seqN ?_ | refine WS.region ?_ | refine WS.block ?_)
  refine WS.rangeX (A := List GReg) (n := n.regs.xs.length) ⟨113, _, fun _ => [], fun Q => [(lb, .row ty3.size (lits.map intAV)), (cb, (mkQ n g.1 rb ob).obj tg G), (ob, .row 2 (n.outs.xs.map pinAV)), (rb, .row 3 (Q.map regAV)), (b2, .row ty27.size [ty27.zeroV]), (b1, .row ty27.size [netAV n])], fun _ => [], fun i Q => Q = regP lits n.regs.xs i⟩ (n.regs.xs) [1, 2, 10, 11, 112] (regP_zero.symm) ?_ ?_
  · rintro i Q hi hQ
    try dsimp only at hQ
    have hrn' := hrn _ (List.getElem_mem hi)
    have hbr : (Q.map regAV)[i]? = some (regAV n.regs.xs[i]) := by rw [List.getElem?_map, hQ, regP_get hi]; rfl
    have hmr : (Q.map regAV).set i (.agg [.str n.regs.xs[i].name, .int .u8 n.regs.xs[i].init.toNat, .int .i64 (atL lits n.regs.xs[i].next)]) = (Q.set i (withNext lits n.regs.xs[i])).map regAV := by rw [List.map_set]; rfl
    dsimp only [RSt.at, List.cons_append, List.nil_append]
    repeat' (first | (refine OS.do rfl ?_; first | refine OD.auto rfl rfl ?_) | refine OS.nil ?_ | refine WS.seq ?_ | refine QS.seqN ?_ | refine WS.region ?_)
    refine WS.drawY 11 [] (K := []) rfl rfl rfl rfl ?_; (repeat' (first | refine SegY.nil ?_ | refine SegY.loadP 5 rfl rfl rfl rfl rfl rfl rfl ?_ | refine SegY.indexAddr rfl rfl rfl rfl (indexAddrA_nat rfl rfl rfl rfl (List.getElem?_eq_getElem hi)) ?_ | refine SegY.auto rfl rfl rfl rfl ?_ | refine SegY.loadP 0 rfl rfl rfl rfl rfl rfl rfl ?_ | refine SegY.loadP 1 rfl rfl rfl rfl rfl rfl rfl ?_ | refine SegY.loadP 2 rfl rfl rfl rfl rfl rfl rfl ?_ | refine SegY.indexAddr rfl rfl rfl rfl rfl ?_ | refine SegY.callW (D := Unit) (fun _ => True) (fun _ => .int .i64 (atL lits n.regs.xs[i].next)) (fun _ => _) (fun _ => _) rfl rfl rfl rfl (fun st hS => CW.prim h99.eq (u99 _ hrn' 0 rfl st hS) ⟨(), st, trivial, rfl, hS⟩) (fun _ _ => ?_)))
    dsimp only [RSt.at, List.cons_append, List.nil_append]
    repeat' (first | (refine OS.do rfl ?_; first | refine OD.auto rfl rfl ?_ | refine OD.indexAddr rfl rfl rfl (indexAddrA_sl rfl rfl rfl rfl (by omega)) ?_ | refine OD.storeG 3 rfl rfl rfl rfl hbr rfl rfl rfl ?_) | refine OS.nil ?_)
    exact QS.rangeX (Q.set i (withNext lits n.regs.xs[i])) (by (try dsimp only) <;> exact (by rw [regP_succ hi, hQ])) (hL := by (try dsimp only); rw [← hmr]; exact SubO.refl _)
  rintro Q hQ
  try dsimp only at hQ
  rw [regP_all] at hQ
  dsimp only [RSt.at, List.cons_append, List.nil_append]
  repeat' (first | (refine OS.do rfl ?_; first | refine OD.auto rfl rfl ?_ | refine OD.loadP 1 rfl rfl rfl rfl rfl rfl ?_ | refine OD.len rfl rfl (fun _ => rfl) ?_) | refine OS.nil ?_ | refine WS.seq ?_ | refine QS.seqN ?_ | refine WS.region ?_ | refine WS.block ?_)
  refine WS.rangeX (A := List GPin) (n := n.outs.xs.length) ⟨133, _, fun _ => [], fun P => [(lb, .row ty3.size (lits.map intAV)), (cb, (mkQ n g.1 rb ob).obj tg G), (ob, .row 2 (P.map pinAV)), (rb, .row 3 (Q.map regAV)), (b2, .row ty27.size [ty27.zeroV]), (b1, .row ty27.size [netAV n])], fun _ => [], fun i P => P = pinP lits n.outs.xs i⟩ (n.outs.xs) [1, 2, 10, 11, 132] (pinP_zero.symm) ?_ ?_
  · rintro i P hi hP
    try dsimp only at hP
    have hol' := hol _ (List.getElem_mem hi)
    have hbr : (P.map pinAV)[i]? = some (pinAV n.outs.xs[i]) := by rw [List.getElem?_map, hP, pinP_get hi]; rfl
    have hmr : (P.map pinAV).set i (.agg [.str n.outs.xs[i].name, .int .i64 (atL lits n.outs.xs[i].lit)]) = (P.set i (withLit lits n.outs.xs[i])).map pinAV := by rw [List.map_set]; rfl
    dsimp only [RSt.at, List.cons_append, List.nil_append]
    repeat' (first | (refine OS.do rfl ?_; first | refine OD.auto rfl rfl ?_) | refine OS.nil ?_ | refine WS.seq ?_ | refine QS.seqN ?_ | refine WS.region ?_)
    refine WS.drawY 11 [] (K := []) rfl rfl rfl rfl ?_; (repeat' (first | refine SegY.nil ?_ | refine SegY.loadP 5 rfl rfl rfl rfl rfl rfl rfl ?_ | refine SegY.indexAddr rfl rfl rfl rfl (indexAddrA_nat rfl rfl rfl rfl (List.getElem?_eq_getElem hi)) ?_ | refine SegY.auto rfl rfl rfl rfl ?_ | refine SegY.loadP 0 rfl rfl rfl rfl rfl rfl rfl ?_ | refine SegY.loadP 1 rfl rfl rfl rfl rfl rfl rfl ?_ | refine SegY.loadP 2 rfl rfl rfl rfl rfl rfl rfl ?_ | refine SegY.indexAddr rfl rfl rfl rfl rfl ?_ | refine SegY.callW (D := Unit) (fun _ => True) (fun _ => .int .i64 (atL lits n.outs.xs[i].lit)) (fun _ => _) (fun _ => _) rfl rfl rfl rfl (fun st hS => CW.prim h99.eq (u99 _ hol' 0 rfl st hS) ⟨(), st, trivial, rfl, hS⟩) (fun _ _ => ?_)))
    dsimp only [RSt.at, List.cons_append, List.nil_append]
    repeat' (first | (refine OS.do rfl ?_; first | refine OD.auto rfl rfl ?_ | refine OD.indexAddr rfl rfl rfl (indexAddrA_sl rfl rfl rfl rfl (by omega)) ?_ | refine OD.storeG 2 rfl rfl rfl rfl hbr rfl rfl rfl ?_) | refine OS.nil ?_)
    exact QS.rangeX (P.set i (withLit lits n.outs.xs[i])) (by (try dsimp only) <;> exact (by rw [pinP_succ hi, hP])) (hL := by (try dsimp only); rw [← hmr]; exact SubO.refl _)
  rintro P hP
  try dsimp only at hP
  rw [pinP_all] at hP
  dsimp only [RSt.at, List.cons_append, List.nil_append]
  repeat' (first | (refine OS.do rfl ?_; first | refine OD.storeW 4 rfl rfl rfl rfl (ok4 grow_cell rfl acc_cell rfl) rfl rfl rfl ?_ | refine OD.auto rfl rfl ?_ | refine OD.loadP 1 rfl rfl rfl rfl rfl rfl ?_) | refine OS.nil ?_ | refine WS.seq ?_ | refine QS.seqN ?_ | refine WS.region ?_ | refine WS.ret ?_)
  refine QS.retO (ResO.cell 4 (by rfl) (by rfl) (by rfl) (by rfl) (by rfl) (.tmp (by rfl) .nil)) fun st hs => ?_
  have hQl : n.regs.xs.length = Q.length := by rw [hQ, List.length_map]
  have hPl : n.outs.xs.length = P.length := by rw [hP, List.length_map]
  have hne : rb ≠ ob := fun c => by
    have := hs.uniq 3 2 rb _ _ rfl (by rw [c]; rfl)
    omega
  obtain ⟨tk, tk', st2, hz⟩ := freeze_rr (i := growA g.1.1 g.1.2 1 (n.ins.xs.map strAV)) (g := accA tg 2 (G.map gateAV)) (R := Q) (P := P) (free_grow str_free) (free_acc gate_free) hQl hPl hs.noK (kr := 3) (ko := 2) rfl rfl hne
  refine ⟨_, st2, hz, ?_, ?_⟩
  · rw [res_yes hV]
    have e : cleanS n = (lits, G) := by unfold cleanS; rw [hkeep]; exact hA.symm
    simp only [AV.plain, AV.plainL, plain_grow str_plain, plain_acc gate_plain, plainL_map reg_plain, plainL_map pin_plain]
    have hp : AV.vs 3 (Own.tok tk).plain (Q.map regAV) = (GSl.some Q).av 3 regAV := by unfold GSl.av; rfl
    have hp2 : AV.vs 2 (Own.tok tk').plain (P.map pinAV) = (GSl.some P).av 2 pinAV := by unfold GSl.av; rfl
    rw [hp, hp2, e, hQ, hP]; rfl
  · simp only [AV.free, AV.freeL, free_grow str_free, free_acc gate_free, Bool.and_true, Bool.true_and, Bool.and_eq_true]
    exact ⟨freeL_map reg_free Q, freeL_map pin_free P⟩
theorem con53 (h1 : pr 53 = none) (h31 : Has pr 31 Rel31) (h46 : pr 46 = none) (h99 : Has pr 99 Rel99) (h100 : Has pr 100 Rel100) (h73 : Has pr 73 Rel73) : Con2 (En pr) 53 Rel53 :=
  con_ofz (fun d => by simp [AV.freeL, net_free]) fun d hd st => run53 h1 h31 h46 h99 h100 h73 d hd st
theorem use53 (h : Has pr 53 Rel53) {n : GNet} (hn : FitsN n) (st : St) : primOf Rel53 [netAV n] st = some (resAV n (layQ n (cleanS n)), st) := h.use ⟨n, hn, by simp [AV.plainL, net_plain], rfl⟩ st
end
end Go.OptEnv

namespace Go.Abs
open Go.RowKit
def primF (p : List AV → St → Option (AV × St)) (args : List AV) (st : St) : Option (AV × St) :=
  if AV.freeL args = true then p args st else
  match freezeM st args with
  | some (args', st1) => p args' st1
  | none => none
section
variable {P : Program}
theorem PrimDoes.frozen {B : Nat} {w0 : World} {f : FuncId} {p : List AV → St → Option (AV × St)} (h : PrimDoes P B w0 f p) : PrimDoes P B w0 f (primF p) := by
  intro args st r st' hp
  unfold primF at hp
  split at hp
  · exact h args st r st' hp
  · split at hp
    · rename_i args' st1 hz
      obtain ⟨q1, q2⟩ := h args' st1 r st' hp
      refine ⟨q1, fun Γ w vargs hI hR => ?_⟩
      obtain ⟨Γ1, o1, r1⟩ := freezeM_sound args hI hz hR
      refine (q2 Γ1 w vargs o1.inv r1).mono ?_
      rintro e w' ⟨v, Γ', rfl, o2, hr⟩
      exact ⟨v, Γ', rfl, o1.trans o2, hr⟩
    · cases hp
end
theorem primF_free {p : List AV → St → Option (AV × St)} {args : List AV} {st : St} (h : AV.freeL args = true) : primF p args st = p args st := by unfold primF; rw [if_pos h]
theorem primF_row {p : List AV → St → Option (AV × St)} {args args' : List AV} {st st1 : St} (h : AV.freeL args = false) (hz : freezeM st args = some (args', st1)) : primF p args st = p args' st1 := by
  unfold primF
  rw [if_neg (by rw [h]; simp), hz]
theorem SFa.last {L : List (Nat × AObj)} {st : St} {b : Nat} {o : AObj} (h : SFa (L ++ [(b, o)]) [] st) : SFa L [] ((st.drop b).newTok) := by
  have hL : ∀ {k : Nat} {p : Nat × AObj}, L[k]? = some p → (L ++ [(b, o)])[k]? = some p := fun {k p} hk => by
    rw [List.getElem?_append_left (List.getElem?_eq_some_iff.1 hk).1]; exact hk
  refine ⟨fun k b' o' hk => ?_, fun k k' b' o1 o2 h1 h2 => h.uniq k k' b' o1 o2 (hL h1) (hL h2), fun _ _ h => by simp at h, fun _ _ _ h => by simp at h⟩
  have h1 := h.obj k b' o' (hL hk)
  refine ⟨?_, by simp only [St.next_newTok, St.next_drop]; omega⟩
  rw [St.get_newTok, St.get_drop, if_neg]
  · exact h1.1
  · rintro rfl
    have hl := (List.getElem?_eq_some_iff.1 hk).1
    have := h.uniq k L.length _ o' o (hL hk) get_last
    omega
end Go.Abs

namespace Go.OptEnv
open Go Go.Proofs Go.Abs Go.RowKit Go.NetM
set_option maxRecDepth 10000
structure HasF (pr : Prims) (f : FuncId) (Rl : Rel) : Prop where
  eq : pr f = some (primF (primOf Rl))
  uniq : ∀ a r r', Rl a r → Rl a r' → r = r'
theorem Good.addF {pr : Prims} (h : Good pr) {f : FuncId} {Rl : Rel} (hc : Con2 (En pr) f Rl) (he : ∀ (w : World) (vargs : Array Value), (callFunc f vargs).run Tryz.prog w = .ok (.enter f vargs) w) : Good (addP pr f (primF (primOf Rl))) :=
  h.addT fun B w0 => (hc.does (En_ok pr) h.ok he B w0).frozen
theorem HasF.of {pr pr' : Prims} {f : FuncId} {Rl : Rel} (hc : Con2 (En pr) f Rl) (h : pr' f = some (primF (primOf Rl))) : HasF pr' f Rl := ⟨h, hc.uniq⟩
theorem HasF.use {pr : Prims} {f : FuncId} {Rl : Rel} (h : HasF pr f Rl) {args : List AV} {r : AV} (hf : AV.freeL args = true) (hr : Rl (AV.plainL args) r) (st : St) : primF (primOf Rl) args st = some (r, st) := by
  rw [primF_free hf]; exact primOf_eq h.uniq hr st
theorem HasF.row {pr : Prims} {f : FuncId} {Rl : Rel} (h : HasF pr f Rl) {args args' : List AV} {st st1 : St} {r : AV} (hf : AV.freeL args = false) (hz : freezeM st args = some (args', st1)) (hr : Rl (AV.plainL args') r) : primF (primOf Rl) args st = some (r, st1) := by
  rw [primF_row hf hz]; exact primOf_eq h.uniq hr st1
def foldN (n : GNet) : GNet := cleanN (shareN n)
def foldR (n : GNet) : GNet := layQ (layR n (shareS n)) (cleanS (layR n (shareS n)))
theorem SameC.trans {a b c : GNet} (h : SameC a b) (k : SameC b c) : SameC a c := ⟨h.ins.trans k.ins, h.regs.trans k.regs, h.gates.trans k.gates, h.outs.trans k.outs⟩
theorem SameC.symm {a b : GNet} (h : SameC a b) : SameC b a := ⟨h.ins.symm, h.regs.symm, h.gates.symm, h.outs.symm⟩
theorem SameC.refl (a : GNet) : SameC a a := ⟨rfl, rfl, rfl, rfl⟩
theorem SameC.clean {a b : GNet} (h : SameC a b) : cleanS a = cleanS b := by
  unfold cleanS coneN GNet.roots GNet.nexts
  rw [h.k, h.gates, h.regs, h.outs]
theorem fold_same {a b : GNet} (h : SameC a b) : SameC (foldR a) (foldN b) := by
  have h1 : SameC (layR a (shareS a)) (shareN b) := by
    unfold shareN
    rw [← h.share]
    exact (layR_same a _).trans (h.lay _)
  unfold foldR foldN cleanN
  rw [← h1.clean]
  exact (layQ_same _ _).trans (h1.lay _)
theorem share_full (n : GNet) : ShOk n.kN (n.kN + n.gates.xs.length) n.gates.xs.length (shareS n) := by
  have := share_sh n (Nat.le_refl n.gates.xs.length)
  rw [List.take_length] at this
  exact this
theorem clean_full (n : GNet) : ShOk n.kN (n.kN + n.gates.xs.length) n.gates.xs.length (cleanS n) := by
  have := keep_ok (k := n.kN) (by unfold GNet.kN; omega) (keep := coneN n n.roots) n.gates.xs n.gates.xs.length (Nat.le_refl _)
  rw [List.take_length] at this
  exact this
theorem share_valid {n : GNet} (hv : validM n = true) : validM (shareN n) = true := lay_valid hv (share_full n) (valid_len hv).2.2.2
theorem share_fits {n : GNet} (hv : validM n = true) (hn : FitsN n) : FitsN (shareN n) := lay_fits hn ⟨(valid_len hv).1, (valid_len hv).2.1⟩ (share_full n) (valid_len hv).2.2.2
theorem clean_valid {n : GNet} (hv : validM n = true) : validM (cleanN n) = true := lay_valid hv (clean_full n) (valid_len hv).2.2.2
theorem clean_fits {n : GNet} (hv : validM n = true) (hn : FitsN n) : FitsN (cleanN n) := lay_fits hn ⟨(valid_len hv).1, (valid_len hv).2.1⟩ (clean_full n) (valid_len hv).2.2.2
theorem fold_valid {n : GNet} (hv : validM n = true) : validM (foldN n) = true := clean_valid (share_valid hv)
theorem fold_fits {n : GNet} (hv : validM n = true) (hn : FitsN n) : FitsN (foldN n) := clean_fits (share_valid hv) (share_fits hv hn)
def Rel17 : Rel := RelF FitsN (fun n => [netAV n]) fun n => resAV n (foldN n)
def Rel18 : Rel := RelF FitsN (fun n => [netAV n]) fun n => resAV n (foldR n)
def Rel21 : Rel := RelF (fun p : GNet × GNet => SameC p.1 p.2 ∧ FitsN p.1) (fun p => [netAV p.1, netAV p.2]) fun _ => .bool true
theorem neqS {E : Env} {t : TypeId} {xo yo : Operand} {x y : ByteArray} (h : x = y) : binA E .neq t xo yo (.str x) (.str y) = some (.bool false) := by
  subst h
  show strBin .neq x x = _
  simp [strBin]
section
variable {pr : Prims}
theorem neqR {xo yo : Operand} {x y : GReg} (h : x = y) : binA (En pr) .neq 68 xo yo (regAV x) (regAV y) = some (.bool false) := by
  subst h
  have e : binA (En pr) .neq 68 xo yo (regAV x) (regAV x) = (match some (decide (x.name = x.name)) with | some true => (match some ((x.init.toNat : Int) == x.init.toNat) with | some true => (match some (x.next == x.next) with | some true => some true | some false => some false | none => none) | some false => some false | none => none) | some false => some false | none => none).map fun b => .bool (!b) := rfl
  rw [e]; simp
theorem neqP {xo yo : Operand} {x y : GPin} (h : x = y) : binA (En pr) .neq 55 xo yo (pinAV x) (pinAV y) = some (.bool false) := by
  subst h
  have e : binA (En pr) .neq 55 xo yo (pinAV x) (pinAV x) = (match some (decide (x.name = x.name)) with | some true => (match some (x.lit == x.lit) with | some true => some true | some false => some false | none => none) | some false => some false | none => none).map fun b => .bool (!b) := rfl
  rw [e]; simp
theorem neqG {xo yo : Operand} {x y : Int × Int} (h : x = y) : binA (En pr) .neq 53 xo yo (gateAV x) (gateAV y) = some (.bool false) := by
  subst h
  have e : binA (En pr) .neq 53 xo yo (gateAV x) (gateAV x) = (eqA (En pr) 20 53 (gateAV x) (gateAV x)).map fun b => .bool (!b) := rfl
  rw [e, eq_pair]; simp
end
attribute [local irreducible] WS QS OS OD Abs.Sub SubO SubK CW GSl.av accA growA
section
variable {pr : Prims}
theorem run17 (h1 : pr 17 = none) (h50 : Has pr 50 Rel50) (h51 : Has pr 51 Rel51) (n : GNet) (hn : FitsN n) (st : St) : CW (En pr) 17 [netAV n] st fun r _ => AV.free r = true ∧ AV.plain r = resAV n (foldN n) := by
  have u50 := use50 h50 hn
  rcases (Bool.eq_false_or_eq_true (validM n)).symm with hV | hV
  · rw [res_no hV] at u50
    refine CW.start (N := 18) h1 rfl rfl ?_
    repeat' (first | (refine OS.do rfl ?_; first | refine OD.box rfl rfl rfl rfl (net_ok _) rfl (fun b1 => ?_) | refine OD.auto rfl rfl ?_ | refine OD.loadP 1 rfl rfl rfl rfl rfl rfl ?_ | refine OD.alloc rfl rfl rfl rfl (fun _ => ?_) | refine OD.storeW 0 rfl rfl rfl rfl (by first | rfl | exact net_ok _) rfl rfl rfl ?_ | refine OD.storeW 1 rfl rfl rfl rfl (by first | rfl | exact net_ok _) rfl rfl rfl ?_ | refine OD.call rfl rfl rfl h50.eq u50 (fun _ => rfl) ?_) | refine OS.nil ?_ | refine WS.seq ?_ | refine QS.seqN ?_ | refine WS.region ?_ | refine WS.condT rfl ?_ | refine WS.ret ?_ | refine QS.seqR ?_)
    refine QS.retO (ResO.cell 0 (by rfl) (by rfl) (by rfl) (by rfl) (by rfl) (.tmp (by rfl) .nil)) fun st hs => ⟨rfl, ?_⟩
    rw [res_no hV]; rfl
  · rw [res_yes hV] at u50
    have hv2 := share_valid hV
    have u51 := use51 h51 (share_fits hV hn)
    rw [res_yes hv2] at u51
    have z : ∀ (m : GNet) (st : St), freezeA st (.tup [netAV m, .int .i64 0]) = some (.tup [netAV m, .int .i64 0], st) := fun m st => freeze_free (by simp [AV.free, AV.freeL, net_free])
    refine CW.start (N := 18) h1 rfl rfl ?_
    repeat' (first | (refine OS.do rfl ?_; first | refine OD.box rfl rfl rfl rfl (net_ok _) rfl (fun b1 => ?_) | refine OD.auto rfl rfl ?_ | refine OD.loadP 1 rfl rfl rfl rfl rfl rfl ?_ | refine OD.alloc rfl rfl rfl rfl (fun _ => ?_) | refine OD.storeW 0 rfl rfl rfl rfl (by first | rfl | exact net_ok _) rfl rfl rfl ?_ | refine OD.storeW 1 rfl rfl rfl rfl (by first | rfl | exact net_ok _) rfl rfl rfl ?_ | refine OD.call rfl rfl rfl h50.eq u50 (z _) ?_ | refine OD.call rfl rfl rfl h51.eq u51 (z _) ?_) | refine OS.nil ?_ | refine WS.seq ?_ | refine QS.seqN ?_ | refine WS.region ?_ | refine WS.condF rfl ?_ | refine WS.skip ?_ | refine WS.ret ?_)
    refine QS.retO (ResO.cell 0 (by rfl) (by rfl) (by rfl) (by rfl) (by rfl) (.tmp (by rfl) .nil)) fun st hs => ?_
    rw [res_yes hV]
    exact ⟨by show AV.free (.tup [netAV (cleanN (shareN n)), .int .i64 0]) = true; simp [AV.free, AV.freeL, net_free], by show AV.plain (.tup [netAV (cleanN (shareN n)), .int .i64 0]) = _; simp only [AV.plain, AV.plainL, net_plain]; rfl⟩
theorem con17 (h1 : pr 17 = none) (h50 : Has pr 50 Rel50) (h51 : Has pr 51 Rel51) : Con2 (En pr) 17 Rel17 := con_of (fun d => by simp [AV.freeL, net_free]) fun d hd st => run17 h1 h50 h51 d hd st
theorem use17 (h : Has pr 17 Rel17) {n : GNet} (hn : FitsN n) (st : St) : primOf Rel17 [netAV n] st = some (resAV n (foldN n), st) := h.use ⟨n, hn, by simp [AV.plainL, net_plain], rfl⟩ st
theorem run18 (h1 : pr 18 = none) (h52 : Has pr 52 Rel52) (h53 : Has pr 53 Rel53) (n : GNet) (hn : FitsN n) (st : St) : CW (En pr) 18 [netAV n] st fun r _ => AV.free r = true ∧ AV.plain r = resAV n (foldR n) := by
  have u52 := use52 h52 hn
  rcases (Bool.eq_false_or_eq_true (validM n)).symm with hV | hV
  · rw [res_no hV] at u52
    refine CW.start (N := 19) h1 rfl rfl ?_
    repeat' (first | (refine OS.do rfl ?_; first | refine OD.box rfl rfl rfl rfl (net_ok _) rfl (fun b1 => ?_) | refine OD.auto rfl rfl ?_ | refine OD.loadP 1 rfl rfl rfl rfl rfl rfl ?_ | refine OD.alloc rfl rfl rfl rfl (fun _ => ?_) | refine OD.storeW 0 rfl rfl rfl rfl (by first | rfl | exact net_ok _) rfl rfl rfl ?_ | refine OD.storeW 1 rfl rfl rfl rfl (by first | rfl | exact net_ok _) rfl rfl rfl ?_ | refine OD.call rfl rfl rfl h52.eq u52 (fun _ => rfl) ?_) | refine OS.nil ?_ | refine WS.seq ?_ | refine QS.seqN ?_ | refine WS.region ?_ | refine WS.condT rfl ?_ | refine WS.ret ?_ | refine QS.seqR ?_)
    refine QS.retO (ResO.cell 1 (by rfl) (by rfl) (by rfl) (by rfl) (by rfl) (.tmp (by rfl) .nil)) fun st hs => ⟨rfl, ?_⟩
    rw [res_no hV]; rfl
  · rw [res_yes hV] at u52
    have hsc := layR_same n (shareS n)
    have hv2 : validM (layR n (shareS n)) = true := hsc.valid.trans (share_valid hV)
    have u53 := use53 h53 (hsc.fits (share_fits hV hn))
    rw [res_yes hv2] at u53
    have z : ∀ (m : GNet) (st : St), freezeA st (.tup [netAV m, .int .i64 0]) = some (.tup [netAV m, .int .i64 0], st) := fun m st => freeze_free (by simp [AV.free, AV.freeL, net_free])
    refine CW.start (N := 19) h1 rfl rfl ?_
    repeat' (first | (refine OS.do rfl ?_; first | refine OD.box rfl rfl rfl rfl (net_ok _) rfl (fun b1 => ?_) | refine OD.loadP 0 rfl rfl rfl rfl rfl rfl ?_ | refine OD.auto rfl rfl ?_ | refine OD.loadP 1 rfl rfl rfl rfl rfl rfl ?_ | refine OD.alloc rfl rfl rfl rfl (fun _ => ?_) | refine OD.storeW 0 rfl rfl rfl rfl (by first | rfl | exact net_ok _) rfl rfl rfl ?_ | refine OD.storeW 1 rfl rfl rfl rfl (by first | rfl | exact net_ok _) rfl rfl rfl ?_ | refine OD.call rfl rfl rfl h52.eq u52 (z _) ?_ | refine OD.call rfl rfl rfl h53.eq u53 (z _) ?_) | refine OS.nil ?_ | refine WS.seq ?_ | refine QS.seqN ?_ | refine WS.region ?_ | refine WS.condF rfl ?_ | refine WS.skip ?_ | refine WS.ret ?_)
    refine QS.retO (ResO.cell 1 (by rfl) (by rfl) (by rfl) (by rfl) (by rfl) (.tmp (by rfl) .nil)) fun st hs => ?_
    rw [res_yes hV]
    exact ⟨by show AV.free (.tup [netAV (foldR n), .int .i64 0]) = true; simp [AV.free, AV.freeL, net_free], by show AV.plain (.tup [netAV (foldR n), .int .i64 0]) = _; simp only [AV.plain, AV.plainL, net_plain]⟩
theorem con18 (h1 : pr 18 = none) (h52 : Has pr 52 Rel52) (h53 : Has pr 53 Rel53) : Con2 (En pr) 18 Rel18 := con_of (fun d => by simp [AV.freeL, net_free]) fun d hd st => run18 h1 h52 h53 d hd st
theorem use18 (h : HasF pr 18 Rel18) {n : GNet} (hn : FitsN n) (st : St) : primF (primOf Rel18) [netAV n] st = some (resAV n (foldR n), st) := h.use (by simp [AV.freeL, net_free]) ⟨n, hn, by simp [AV.plainL, net_plain], rfl⟩ st
set_option maxHeartbeats 1000000 in
theorem run21 (h1 : pr 21 = none) (a b : GNet) (hs : SameC a b) (hn : FitsN a) (st : St) : CW (En pr) 21 [netAV a, netAV b] st fun r _ => r = .bool true := by
  obtain ⟨e1, e2, e3, e4⟩ := hs
  obtain ⟨f1, f2, f3, f4, _, _, _, _, _, _⟩ := hn
  have l1 : b.ins.xs.length = a.ins.xs.length := by rw [e1]
  have l2 : b.regs.xs.length = a.regs.xs.length := by rw [e2]
  have l3 : b.gates.xs.length = a.gates.xs.length := by rw [e3]
  have l4 : b.outs.xs.length = a.outs.xs.length := by rw [e4]
  refine CW.start (N := 115) h1 rfl rfl ?_
  repeat' (first | (refine OS.do rfl ?_; first | refine OD.box rfl rfl rfl rfl (net_ok _) rfl (fun b1 => ?_) | refine OD.loadP 0 rfl rfl rfl rfl rfl rfl ?_ | refine OD.auto rfl rfl ?_ | refine OD.loadP 1 rfl rfl rfl rfl rfl rfl ?_ | refine OD.len rfl rfl (fun _ => lenTy_av rfl rfl) ?_) | refine OS.nil ?_ | refine OS.skip rfl rfl rfl ?_ | refine WS.seq ?_ | refine QS.seqN ?_ | refine WS.region ?_ | refine WS.condT rfl ?_ | refine WS.skip ?_ | refine WS.block ?_ | refine WS.ret ?_ | refine QS.seqR ?_ | refine WS.condNe rfl (fun _ => ?_) (fun _ => ?_) | ((fail_if_success (refine OS.do rfl ?_)); first | refine OS.splitNe rfl rfl rfl (fun _ => ?_) (fun _ => ?_)))
  all_goals try (exfalso; omega)
  rename_i b1' _ _ _ _
  refine WS.rangeX (A := Unit) (n := a.ins.xs.length) ⟨46, _, fun _ => [], fun _ => [(b1, .row ty27.size [netAV b]), (b1', .row ty27.size [netAV a])], fun _ => [], fun _ _ => True⟩ (()) [2, 3, 45] (trivial) ?_ ?_
  · rintro i _ hi _
    have hib : i < b.ins.xs.length := by omega
    have hxy : a.ins.xs[i] = b.ins.xs[i] := List.getElem_of_eq e1 hi
    dsimp only [RSt.at, List.cons_append, List.nil_append]
    repeat' (first | (refine OS.do rfl ?_; first | refine OD.bin rfl rfl rfl (neqS hxy) ?_ | refine OD.loadP 0 rfl rfl rfl rfl rfl rfl ?_ | refine OD.auto rfl rfl ?_ | refine OD.loadP 1 rfl rfl rfl rfl rfl rfl ?_ | refine OD.indexAddr rfl rfl rfl (indexAddrA_nat rfl rfl rfl rfl (by first | assumption | exact List.getElem?_eq_getElem (by omega))) ?_) | refine OS.nil ?_ | refine WS.seq ?_ | refine QS.seqN ?_ | refine WS.region ?_ | refine WS.condF rfl ?_ | refine WS.skip ?_ | refine WS.draw rfl rfl ?_)
    exact QS.rangeX (()) (by (try dsimp only) <;> exact (trivial)) (hL := by (try dsimp only); exact SubO.refl _)
  rintro _ _
  dsimp only [RSt.at, List.cons_append, List.nil_append]
  repeat' (first | (refine OS.do rfl ?_; first | refine OD.auto rfl rfl ?_ | refine OD.loadP 1 rfl rfl rfl rfl rfl rfl ?_ | refine OD.len rfl rfl (fun _ => lenTy_av rfl rfl) ?_) | refine OS.nil ?_ | refine WS.seq ?_ | refine QS.seqN ?_ | refine WS.region ?_ | refine WS.block ?_)
  refine WS.rangeX (A := Unit) (n := a.regs.xs.length) ⟨64, _, fun _ => [], fun _ => [(b1, .row ty27.size [netAV b]), (b1', .row ty27.size [netAV a])], fun _ => [], fun _ _ => True⟩ (()) [2, 3, 63] (trivial) ?_ ?_
  · rintro i _ hi _
    have hib : i < b.regs.xs.length := by omega
    have hxy : a.regs.xs[i] = b.regs.xs[i] := List.getElem_of_eq e2 hi
    dsimp only [RSt.at, List.cons_append, List.nil_append]
    repeat' (first | (refine OS.do rfl ?_; first | refine OD.bin rfl rfl rfl (neqR hxy) ?_ | refine OD.loadP 0 rfl rfl rfl rfl rfl rfl ?_ | refine OD.auto rfl rfl ?_ | refine OD.loadP 1 rfl rfl rfl rfl rfl rfl ?_ | refine OD.indexAddr rfl rfl rfl (indexAddrA_nat rfl rfl rfl rfl (by first | assumption | exact List.getElem?_eq_getElem (by omega))) ?_) | refine OS.nil ?_ | refine WS.seq ?_ | refine QS.seqN ?_ | refine WS.region ?_ | refine WS.condF rfl ?_ | refine WS.skip ?_ | refine WS.draw rfl rfl ?_)
    exact QS.rangeX (()) (by (try dsimp only) <;> exact (trivial)) (hL := by (try dsimp only); exact SubO.refl _)
  rintro _ _
  dsimp only [RSt.at, List.cons_append, List.nil_append]
  repeat' (first | (refine OS.do rfl ?_; first | refine OD.auto rfl rfl ?_ | refine OD.loadP 1 rfl rfl rfl rfl rfl rfl ?_ | refine OD.len rfl rfl (fun _ => lenTy_av rfl rfl) ?_) | refine OS.nil ?_ | refine WS.seq ?_ | refine QS.seqN ?_ | refine WS.region ?_ | refine WS.block ?_)
  refine WS.rangeX (A := Unit) (n := a.gates.xs.length) ⟨82, _, fun _ => [], fun _ => [(b1, .row ty27.size [netAV b]), (b1', .row ty27.size [netAV a])], fun _ => [], fun _ _ => True⟩ (()) [2, 3, 81] (trivial) ?_ ?_
  · rintro i _ hi _
    have hib : i < b.gates.xs.length := by omega
    have hxy : a.gates.xs[i] = b.gates.xs[i] := List.getElem_of_eq e3 hi
    dsimp only [RSt.at, List.cons_append, List.nil_append]
    repeat' (first | (refine OS.do rfl ?_; first | refine OD.bin rfl rfl rfl (neqG hxy) ?_ | refine OD.loadP 0 rfl rfl rfl rfl rfl rfl ?_ | refine OD.auto rfl rfl ?_ | refine OD.loadP 1 rfl rfl rfl rfl rfl rfl ?_ | refine OD.indexAddr rfl rfl rfl (indexAddrA_nat rfl rfl rfl rfl (by first | assumption | exact List.getElem?_eq_getElem (by omega))) ?_) | refine OS.nil ?_ | refine WS.seq ?_ | refine QS.seqN ?_ | refine WS.region ?_ | refine WS.condF rfl ?_ | refine WS.skip ?_ | refine WS.draw rfl rfl ?_)
    exact QS.rangeX (()) (by (try dsimp only) <;> exact (trivial)) (hL := by (try dsimp only); exact SubO.refl _)
  rintro _ _
  dsimp only [RSt.at, List.cons_append, List.nil_append]
  repeat' (first | (refine OS.do rfl ?_; first | refine OD.auto rfl rfl ?_ | refine OD.loadP 1 rfl rfl rfl rfl rfl rfl ?_ | refine OD.len rfl rfl (fun _ => lenTy_av rfl rfl) ?_) | refine OS.nil ?_ | refine WS.seq ?_ | refine QS.seqN ?_ | refine WS.region ?_ | refine WS.block ?_)
  refine WS.rangeX (A := Unit) (n := a.outs.xs.length) ⟨100, _, fun _ => [], fun _ => [(b1, .row ty27.size [netAV b]), (b1', .row ty27.size [netAV a])], fun _ => [], fun _ _ => True⟩ (()) [2, 3, 99] (trivial) ?_ ?_
  · rintro i _ hi _
    have hib : i < b.outs.xs.length := by omega
    have hxy : a.outs.xs[i] = b.outs.xs[i] := List.getElem_of_eq e4 hi
    dsimp only [RSt.at, List.cons_append, List.nil_append]
    repeat' (first | (refine OS.do rfl ?_; first | refine OD.bin rfl rfl rfl (neqP hxy) ?_ | refine OD.loadP 0 rfl rfl rfl rfl rfl rfl ?_ | refine OD.auto rfl rfl ?_ | refine OD.loadP 1 rfl rfl rfl rfl rfl rfl ?_ | refine OD.indexAddr rfl rfl rfl (indexAddrA_nat rfl rfl rfl rfl (by first | assumption | exact List.getElem?_eq_getElem (by omega))) ?_) | refine OS.nil ?_ | refine WS.seq ?_ | refine QS.seqN ?_ | refine WS.region ?_ | refine WS.condF rfl ?_ | refine WS.skip ?_ | refine WS.draw rfl rfl ?_)
    exact QS.rangeX (()) (by (try dsimp only) <;> exact (trivial)) (hL := by (try dsimp only); exact SubO.refl _)
  rintro _ _
  dsimp only [RSt.at, List.cons_append, List.nil_append]
  repeat' (first | (refine OS.do rfl ?_; first | refine OD.auto rfl rfl ?_) | refine OS.nil ?_ | refine WS.seq ?_ | refine QS.seqN ?_ | refine WS.region ?_ | refine WS.ret ?_)
  exact QS.retRS (by rfl) fun _ _ => rfl
theorem con21 (h1 : pr 21 = none) : Con2 (En pr) 21 Rel21 := con_eq (fun d => by simp [AV.freeL, net_free]) (fun _ => ⟨rfl, rfl⟩) fun d hd st => run21 h1 d.1 d.2 hd.1 hd.2 st
theorem use21 (h : Has pr 21 Rel21) {a b : GNet} (hs : SameC a b) (hn : FitsN a) (st : St) : primOf Rel21 [netAV a, netAV b] st = some (.bool true, st) := h.use ⟨(a, b), ⟨hs, hn⟩, by simp [AV.plainL, net_plain], rfl⟩ st
end
end Go.OptEnv

namespace Go.NetM
inductive Nd (k0 k : Nat) (gs : List (Int × Int)) (nexts outs : List Int) : Nat → Prop
  | out {l : Int} (h : l ∈ outs) : Nd k0 k gs nexts outs (l / 2).toNat
  | g1 {i : Nat} (h : i < gs.length) (p : Nd k0 k gs nexts outs (k + i)) : Nd k0 k gs nexts outs (gs[i].1 / 2).toNat
  | g2 {i : Nat} (h : i < gs.length) (p : Nd k0 k gs nexts outs (k + i)) : Nd k0 k gs nexts outs (gs[i].2 / 2).toNat
  | reg {i : Nat} (h : i < nexts.length) (p : Nd k0 k gs nexts outs (k0 + i)) : Nd k0 k gs nexts outs (nexts[i] / 2).toNat
def offN (v : List Bool) : Nat := (v.filter fun b => !b).length
def pickL {α : Type} (k0 : Nat) (keep : List Bool) (l : List α) (i : Nat) : List α := ((l.take i).zipIdx).filterMap fun p => if keep.getD (k0 + p.2) false = true then some p.1 else none
theorem pickL_succ {α : Type} {k0 : Nat} {keep : List Bool} {l : List α} {i : Nat} (h : i < l.length) : pickL k0 keep l (i + 1) = if keep.getD (k0 + i) false = true then pickL k0 keep l i ++ [l[i]] else pickL k0 keep l i := by
  unfold pickL
  rw [List.take_succ_eq_append_getElem h, List.zipIdx_append, List.filterMap_append]
  have : (l.take i).length = i := by rw [List.length_take]; omega
  simp only [this, Nat.zero_add, List.zipIdx_singleton, List.filterMap_cons, List.filterMap_nil]
  by_cases hk : keep.getD (k0 + i) false = true
  · rw [if_pos hk, if_pos hk]
  · rw [if_neg hk, if_neg hk, List.append_nil]
end Go.NetM

namespace Go.NetM
structure Pass (T : Nat) (S : Nat → Prop) (v0 v : List Bool) (ag : Bool) (cl : Prop) : Prop where
  len : v.length = T
  sound : ∀ j, v.getD j false = true → S j
  mono : ∀ j, v0.getD j false = true → v.getD j false = true
  off : offN v ≤ offN v0
  yes : ag = true → offN v < offN v0
  no : ag = false → v = v0 ∧ cl
structure Open (k0 k : Nat) (gs : List (Int × Int)) (nexts outs : List Int) (met : List Int) (op : List Int) : Prop where
  sound : ∀ m ∈ met, 0 ≤ m ∧ Nd k0 k gs nexts outs m.toNat
  openS : ∀ l ∈ op, Nd k0 k gs nexts outs (l / 2).toNat
  openR : ∀ l ∈ op, 0 ≤ l ∧ l < 2 * ((k + gs.length : Nat) : Int)
  outs : ∀ l ∈ outs, l / 2 ∈ met ∨ ∃ x ∈ op, x / 2 = l / 2
  g : ∀ (i : Nat) (h : i < gs.length), ((k + i : Nat) : Int) ∈ met → (gs[i].1 / 2 ∈ met ∨ ∃ x ∈ op, x / 2 = gs[i].1 / 2) ∧ (gs[i].2 / 2 ∈ met ∨ ∃ x ∈ op, x / 2 = gs[i].2 / 2)
  r : ∀ (i : Nat) (h : i < nexts.length), ((k0 + i : Nat) : Int) ∈ met → (nexts[i] / 2 ∈ met ∨ ∃ x ∈ op, x / 2 = nexts[i] / 2)
  nodup : met.Nodup
  range : ∀ m ∈ met, 0 ≤ m ∧ m < ((k + gs.length : Nat) : Int)
end Go.NetM

namespace Go.Abs
open Go.RowKit
theorem SubO.swap {L : List (Nat × AObj)} {p q : Nat × AObj} : SubO (p :: q :: L) (q :: p :: L) := by
  refine ⟨fun k => match k with | 0 => 1 | 1 => 0 | k => k, fun k x hk => ?_, fun k k' h1 h2 h => ?_⟩
  · match k with
    | 0 => exact hk
    | 1 => exact hk
    | k + 2 => exact hk
  · match k, k' with
    | 0, 0 => rfl
    | 0, 1 => simp at h
    | 0, k + 2 => simp at h
    | 1, 0 => simp at h
    | 1, 1 => rfl
    | 1, k + 2 => simp at h
    | k + 2, 0 => simp at h
    | k + 2, 1 => simp at h
    | k + 2, k' + 2 => simpa using h
section
variable {E : Env} {fid N : Nat} {l : List (Nat × AV)} {L X : List (Nat × AObj)} {K Y : List (Nat × Bool)} {Q : AExit → TM → St → Prop}
variable {pol : Nat → Nat} {ops : Array Oper} {o : Oper} {r : List Oper} {i : Nat} {d : Nat} {ty : TypeId} {pos : String} {after : Array Edge} {guard : Option (Nat × Bool)}
variable {k : List (Nat × AV) → List (Nat × AObj) → List (Nat × Bool) → Prop}
end
end Go.Abs

namespace Go.OptEnv
open Go Go.Proofs Go.Abs Go.RowKit Go.NetM
set_option maxRecDepth 10000
def GNet.k0 (n : GNet) : Nat := 1 + n.ins.xs.length
attribute [local irreducible] WS QS OS OD Abs.Sub SubO SubK CW GSl.av accA growA
section
variable {pr : Prims}
end
end Go.OptEnv

namespace Go.NetM
end Go.NetM

namespace Go.OptEnv
open Go Go.Proofs Go.Abs Go.RowKit Go.NetM
set_option maxRecDepth 10000
def keptO (i r g o : AV) : AObj := .row 4 [.agg [i, r, g, o]]
theorem st_rK {i r g o : AV} {sz b : Nat} {xs : List AV} : AObj.row 4 ([AV.agg [i, r, g, o]].set 0 (.agg ([i, r, g, o].take 1 ++ (slR sz b xs).cells ++ [i, r, g, o].drop (1 + (slR sz b xs).cells.length)))) = keptO i (slR sz b xs) g o := by
  rw [slR_cells]; rfl
theorem st_gK {i r g o : AV} {t sz : Nat} {xs : List AV} : AObj.row 4 ([AV.agg [i, r, g, o]].set 0 (.agg ([i, r, g, o].take 2 ++ (accA t sz xs).cells ++ [i, r, g, o].drop (2 + (accA t sz xs).cells.length)))) = keptO i r (accA t sz xs) o := by
  rw [acc_cells]; rfl
theorem st_oK {i r g o : AV} {t sz : Nat} {xs : List AV} : AObj.row 4 ([AV.agg [i, r, g, o]].set 0 (.agg ([i, r, g, o].take 3 ++ (accA t sz xs).cells ++ [i, r, g, o].drop (3 + (accA t sz xs).cells.length)))) = keptO i r g (accA t sz xs) := by
  rw [acc_cells]; rfl
theorem lenTy_slR {E : Env} {sz b : Nat} {xs : List AV} {t e : TypeId} {y : Ty} {st : St} (h1 : E.ty t = some y) (h2 : y.d = .slice e) : lenTy E st t (slR sz b xs) = some (.int .i64 (xs.length : Int)) := by
  cases xs with
  | nil => unfold lenTy; rw [h1]; dsimp only; rw [h2]; rfl
  | cons x xs => unfold lenTy; rw [h1]; dsimp only; rw [h2]; rfl
theorem bld1 {pr : Prims} {b : Bool} {t sz : Nat} {xs : List AV} : buildA (En pr) 27 [(0, growA b t sz xs)] = some (.agg [growA b t sz xs, .nilsl, .nilsl, .nilsl]) := by
  unfold growA; rfl
theorem lenTy_slRm {α : Type} {f : α → AV} {E : Env} {sz b : Nat} {xs : List α} {t e : TypeId} {y : Ty} {st : St} (h1 : E.ty t = some y) (h2 : y.d = .slice e) : lenTy E st t (slR sz b (xs.map f)) = some (.int .i64 (xs.length : Int)) := by
  rw [lenTy_slR h1 h2, List.length_map]
theorem freeze_arg {L : List (Nat × AObj)} {st : St} {i g o : AV} {kr rb nr : Nat} {R : List GReg} (hi : AV.free i = true) (hg : AV.free g = true) (ho : AV.free o = true) (hn : nr = R.length) (hS : SFa L [] st) (hr : L[kr]? = some (rb, .row 3 (R.map regAV))) :
    ∃ t, freezeM st [.agg [i, .sl 3 rb 0 nr, g, o]] = some ([.agg [i, .vs 3 (.tok t) (R.map regAV), g, o]], (st.drop rb).newTok) := by
  subst hn
  have hgt := (hS.obj kr rb _ hr).1
  have e : freezeC st (.sl 3 rb 0 R.length) = some (.vs 3 (.tok st.next) (R.map regAV), (st.drop rb).newTok) := by
    simp only [freezeC, hgt]
    rw [if_pos ⟨trivial, by simp⟩, if_pos (by simp), List.drop_zero, List.take_of_length_le (by simp)]
  refine ⟨st.next, ?_⟩
  simp only [freezeM, freezeB, freezeL, freezeC_free hi, e, freezeC_free hg, freezeC_free ho]
  rfl
theorem gof_nil {α : Type} {sz : Nat} {f : α → AV} : (GSl.of ([] : List α)).av sz f = .nilsl := rfl
theorem gof_some {α : Type} {sz : Nat} {f : α → AV} {xs : List α} (h : xs ≠ []) : (GSl.of xs).av sz f = .vs sz .any (xs.map f) := by
  cases xs with
  | nil => exact absurd rfl h
  | cons x xs => rfl
attribute [local irreducible] WS QS OS OD Abs.Sub SubO SubK CW GSl.av accA growA
section
variable {pr : Prims}
end
end Go.OptEnv

namespace Go.NetM
def selZ (z : Int) (k0 : Nat) (keep : List Bool) : Nat → List Int × Nat
  | 0 => (idL k0, 0)
  | i + 1 => if keep.getD i false = true then ((selZ z k0 keep i).1 ++ [2 * ((k0 + (selZ z k0 keep i).2 : Nat) : Int)], (selZ z k0 keep i).2 + 1) else ((selZ z k0 keep i).1 ++ [z], (selZ z k0 keep i).2)
theorem selZ_len {z : Int} {k0 : Nat} {keep : List Bool} : ∀ i, (selZ z k0 keep i).1.length = k0 + i
  | 0 => idL_len k0
  | i + 1 => by
    have := selZ_len (z := z) (k0 := k0) (keep := keep) i
    unfold selZ
    split <;> (simp only [List.length_append, List.length_singleton, this]; omega)
theorem selZ_cnt {z z' : Int} {k0 : Nat} {keep : List Bool} : ∀ i, (selZ z k0 keep i).2 = (selZ z' k0 keep i).2
  | 0 => rfl
  | i + 1 => by
    have := selZ_cnt (z := z) (z' := z') (k0 := k0) (keep := keep) i
    unfold selZ
    split
    · show _ + 1 = _ + 1; rw [this]
    · exact this
theorem selZ_le {z : Int} {k0 : Nat} {keep : List Bool} : ∀ i, (selZ z k0 keep i).2 ≤ i
  | 0 => Nat.le_refl _
  | i + 1 => by
    have := selZ_le (z := z) (k0 := k0) (keep := keep) i
    unfold selZ
    split
    · show _ + 1 ≤ _; omega
    · show _ ≤ _; omega
def Stays (k0 : Nat) (keep : List Bool) (j : Nat) : Prop := j < k0 ∨ keep.getD (j - k0) false = true
theorem selZ_same {z z' : Int} {k0 : Nat} {keep : List Bool} : ∀ i j, Stays k0 keep j → (selZ z k0 keep i).1.getD j 0 = (selZ z' k0 keep i).1.getD j 0
  | 0, _, _ => rfl
  | i + 1, j, h => by
    have ih := selZ_same (z := z) (z' := z') (k0 := k0) (keep := keep) i j h
    have hc := selZ_cnt (z := z) (z' := z') (k0 := k0) (keep := keep) i
    have h1 := selZ_len (z := z) (k0 := k0) (keep := keep) i
    have h2 := selZ_len (z := z') (k0 := k0) (keep := keep) i
    unfold selZ
    split
    · simp only [getD_snocI, h1, h2, ih, hc]
    · rename_i hk
      simp only [getD_snocI, h1, h2, ih]
      by_cases e : j = k0 + i
      · exfalso
        rcases h with h | h
        · omega
        · rw [show j - k0 = i by omega] at h; exact hk h
      · rw [if_neg e, if_neg e]
theorem selZ_range {z : Int} {k0 : Nat} (hk : 0 < k0) {keep : List Bool} : ∀ i j, Stays k0 keep j → 0 ≤ (selZ z k0 keep i).1.getD j 0 ∧ (selZ z k0 keep i).1.getD j 0 < 2 * ((k0 + (selZ z k0 keep i).2 : Nat) : Int)
  | 0, j, _ => idL_range hk j
  | i + 1, j, h => by
    have ih := selZ_range (z := z) hk (keep := keep) i j h
    have h1 := selZ_len (z := z) (k0 := k0) (keep := keep) i
    unfold selZ
    split
    · simp only [getD_snocI, h1]
      split
      · omega
      · split <;> omega
    · rename_i hkk
      simp only [getD_snocI, h1]
      split
      · omega
      · split
        · exfalso
          rcases h with h | h
          · omega
          · rw [show j - k0 = i by omega] at h; exact hkk h
        · omega
theorem selZ_yes {z : Int} {k0 : Nat} {keep : List Bool} {i : Nat} {s : List Int × Nat} (h : s = selZ z k0 keep i) (hk : keep.getD i false = true) : selZ z k0 keep (i + 1) = (s.1 ++ [2 * ((k0 + s.2 : Nat) : Int)], s.2 + 1) := by
  subst h
  show (if _ then _ else _) = _
  rw [if_pos hk]
theorem selZ_no {z : Int} {k0 : Nat} {keep : List Bool} {i : Nat} {s : List Int × Nat} (h : s = selZ z k0 keep i) (hk : keep.getD i false = false) : selZ z k0 keep (i + 1) = (s.1 ++ [z], s.2) := by
  subst h
  show (if _ then _ else _) = _
  rw [if_neg (by rw [hk]; simp)]
theorem selZ_zero {z : Int} {k0 : Nat} (hk : 0 < k0) {keep : List Bool} : ∀ i, (selZ z k0 keep i).1.getD 0 0 = 0
  | 0 => by
    show (idL k0).getD 0 0 = 0
    rw [idL_get, if_pos hk]; rfl
  | i + 1 => by
    have ih := selZ_zero (z := z) hk (keep := keep) i
    have h1 := selZ_len (z := z) (k0 := k0) (keep := keep) i
    unfold selZ
    split
    · show (_ ++ [_]).getD 0 0 = 0
      rw [getD_snocI, if_pos (by omega)]; exact ih
    · show (_ ++ [_]).getD 0 0 = 0
      rw [getD_snocI, if_pos (by omega)]; exact ih
theorem atL_const {A : List Int} (h : A.getD 0 0 = 0) {l : Int} (h0 : 0 ≤ l) (h1 : l ≤ 1) : atL A l = l := by
  have : l = 0 ∨ l = 1 := by omega
  rcases this with rfl | rfl
  · unfold atL flipL; rw [show ((0 : Int) / 2).toNat = 0 from rfl, h]; rfl
  · unfold atL flipL; rw [show ((1 : Int) / 2).toNat = 0 from rfl, h]; rfl
def Stand (k0 n : Nat) (keep : List Bool) (lits : List Int) : Prop := ∀ i, i < n → keep.getD i false = false → 0 ≤ lits.getD i 0 ∧ lits.getD i 0 < 2 * ((k0 + n : Nat) : Int) ∧ Stays k0 keep (lits.getD i 0 / 2).toNat
def fillZ (z : Int) (k0 n : Nat) (keep : List Bool) (lits : List Int) : Nat → List Int
  | 0 => (selZ z k0 keep n).1
  | i + 1 => if keep.getD i false = true then fillZ z k0 n keep lits i else (fillZ z k0 n keep lits i).set (k0 + i) (atL (selZ z k0 keep n).1 (lits.getD i 0))
theorem fillZ_len {z : Int} {k0 n : Nat} {keep : List Bool} {lits : List Int} : ∀ i, (fillZ z k0 n keep lits i).length = k0 + n
  | 0 => selZ_len n
  | i + 1 => by
    have := fillZ_len (z := z) (k0 := k0) (n := n) (keep := keep) (lits := lits) i
    unfold fillZ
    split
    · exact this
    · rw [List.length_set]; exact this
theorem getD_setI {l : List Int} {i j : Nat} {x : Int} : (l.set i x).getD j 0 = if i = j ∧ i < l.length then x else l.getD j 0 := by
  simp only [List.getD_eq_getElem?_getD, List.getElem?_set]
  by_cases h : i = j
  · subst h
    by_cases hl : i < l.length
    · simp [hl]
    · simp [hl]
  · simp [h]
theorem fillZ_stays {z : Int} {k0 n : Nat} {keep : List Bool} {lits : List Int} {j : Nat} (h : Stays k0 keep j) : ∀ i, (fillZ z k0 n keep lits i).getD j 0 = (selZ z k0 keep n).1.getD j 0
  | 0 => rfl
  | i + 1 => by
    have ih := fillZ_stays (z := z) (n := n) (lits := lits) h i
    unfold fillZ
    split
    · exact ih
    · rename_i hk
      rw [getD_setI, if_neg, ih]
      rintro ⟨e, _⟩
      rcases h with h | h
      · omega
      · rw [show j - k0 = i by omega] at h; exact hk h
theorem fillZ_gone {z : Int} {k0 n : Nat} {keep : List Bool} {lits : List Int} {g : Nat} (hg : keep.getD g false = false) (hn : g < n) : ∀ i, g < i → (fillZ z k0 n keep lits i).getD (k0 + g) 0 = atL (selZ z k0 keep n).1 (lits.getD g 0)
  | i + 1, hi => by
    have hl := fillZ_len (z := z) (k0 := k0) (n := n) (keep := keep) (lits := lits) i
    unfold fillZ
    by_cases e : g = i
    · subst e
      rw [if_neg (by rw [hg]; simp), getD_setI, if_pos ⟨rfl, by omega⟩]
    · have ih := fillZ_gone (z := z) (k0 := k0) (lits := lits) hg hn i (by omega)
      split
      · exact ih
      · rw [getD_setI, if_neg (by omega), ih]
theorem ext_getDI {a b : List Int} (h : a.length = b.length) (hi : ∀ i, i < a.length → a.getD i 0 = b.getD i 0) : a = b := by
  apply List.ext_getElem h
  intro i h1 h2
  have := hi i h1
  rw [List.getD_eq_getElem?_getD, List.getD_eq_getElem?_getD, List.getElem?_eq_getElem h1, List.getElem?_eq_getElem h2] at this
  exact this
theorem atL_congr {a b : List Int} {l : Int} (h : a.getD (l / 2).toNat 0 = b.getD (l / 2).toNat 0) : atL a l = atL b l := by unfold atL; rw [h]
theorem stays_dec {k0 : Nat} {keep : List Bool} (j : Nat) : Stays k0 keep j ∨ (k0 ≤ j ∧ keep.getD (j - k0) false = false) := by
  unfold Stays
  by_cases h : j < k0
  · exact .inl (.inl h)
  · cases hk : keep.getD (j - k0) false with
    | true => exact .inl (.inr rfl)
    | false => exact .inr ⟨by omega, rfl⟩
theorem fill_eq {z z' : Int} {k0 n : Nat} {keep : List Bool} {lits : List Int} (hs : Stand k0 n keep lits) : fillZ z k0 n keep lits n = fillZ z' k0 n keep lits n := by
  refine ext_getDI (by rw [fillZ_len, fillZ_len]) fun j hj => ?_
  rw [fillZ_len] at hj
  rcases stays_dec (k0 := k0) (keep := keep) j with h | ⟨h1, h2⟩
  · rw [fillZ_stays h, fillZ_stays h]; exact selZ_same n j h
  · have e : j = k0 + (j - k0) := by omega
    rw [e, fillZ_gone h2 (by omega) n (by omega), fillZ_gone h2 (by omega) n (by omega)]
    exact atL_congr (selZ_same n _ (hs _ (by omega) h2).2.2)
theorem fill_range {z : Int} {k0 n : Nat} (hk : 0 < k0) {keep : List Bool} {lits : List Int} (hs : Stand k0 n keep lits) (j : Nat) (hj : j < k0 + n) : 0 ≤ (fillZ z k0 n keep lits n).getD j 0 ∧ (fillZ z k0 n keep lits n).getD j 0 < 2 * ((k0 + (selZ z k0 keep n).2 : Nat) : Int) := by
  rcases stays_dec (k0 := k0) (keep := keep) j with h | ⟨h1, h2⟩
  · rw [fillZ_stays h]; exact selZ_range hk n j h
  · have e : j = k0 + (j - k0) := by omega
    rw [e, fillZ_gone h2 (by omega) n (by omega)]
    exact flip_range (selZ_range hk n _ (hs _ (by omega) h2).2.2)
theorem fill_rangeA {z : Int} {k0 n : Nat} (hk : 0 < k0) {keep : List Bool} {lits : List Int} (hs : Stand k0 n keep lits) (j : Nat) : 0 ≤ (fillZ z k0 n keep lits n).getD j 0 ∧ (fillZ z k0 n keep lits n).getD j 0 < 2 * ((k0 + (selZ z k0 keep n).2 : Nat) : Int) := by
  by_cases hj : j < k0 + n
  · exact fill_range hk hs j hj
  · rw [List.getD_eq_getElem?_getD, List.getElem?_eq_none (by rw [fillZ_len]; omega)]
    exact ⟨Int.le_refl _, by show (0 : Int) < _; omega⟩
theorem fillZ_yes {z : Int} {k0 n : Nat} {keep : List Bool} {lits : List Int} {i : Nat} (h : keep.getD i false = true) : fillZ z k0 n keep lits (i + 1) = fillZ z k0 n keep lits i := by
  show (if _ then _ else _) = _
  rw [if_pos h]
theorem fillZ_no {z : Int} {k0 n : Nat} {keep : List Bool} {lits : List Int} (hs : Stand k0 n keep lits) {i : Nat} (hi : i < n) (h : keep.getD i false = false) : fillZ z k0 n keep lits (i + 1) = (fillZ z k0 n keep lits i).set (k0 + i) (atL (fillZ z k0 n keep lits i) (lits.getD i 0)) := by
  show (if _ then _ else _) = _
  rw [if_neg (by rw [h]; simp), atL_congr (a := fillZ z k0 n keep lits i) (b := (selZ z k0 keep n).1) (fillZ_stays (hs i hi h).2.2 i)]
def rawS (k : Nat) (s : List Int × List (Int × Int)) (g : Int × Int) : List Int × List (Int × Int) := (s.1 ++ [2 * ((k + s.2.length : Nat) : Int)], s.2 ++ [(atL s.1 g.1, atL s.1 g.2)])
def rawM (k : Nat) (all0 : List Int) (gs : List (Int × Int)) : List Int × List (Int × Int) := gs.foldl (rawS k) (all0, [])
theorem rawM_succ {k : Nat} {all0 : List Int} {gs : List (Int × Int)} {i : Nat} (h : i < gs.length) : rawM k all0 (gs.take (i + 1)) = rawS k (rawM k all0 (gs.take i)) gs[i] := by
  unfold rawM
  rw [List.take_succ_eq_append_getElem h, List.foldl_append]; rfl
theorem rawM_lens {k : Nat} {all0 : List Int} {gs : List (Int × Int)} : ∀ i, i ≤ gs.length → (rawM k all0 (gs.take i)).1.length = all0.length + i ∧ (rawM k all0 (gs.take i)).2.length = i
  | 0, _ => ⟨rfl, rfl⟩
  | i + 1, h => by
    obtain ⟨h1, h2⟩ := rawM_lens (k := k) (all0 := all0) (gs := gs) i (by omega)
    rw [rawM_succ (by omega)]
    unfold rawS
    dsimp only
    rw [List.length_append, List.length_append, List.length_singleton, List.length_singleton]
    omega
theorem raw_ok {k : Nat} (hk : 0 < k) {all0 : List Int} (h0 : ∀ j, 0 ≤ all0.getD j 0 ∧ all0.getD j 0 < 2 * (k : Int)) (gs : List (Int × Int)) : ∀ i, i ≤ gs.length → ShOk k (all0.length + i) i (rawM k all0 (gs.take i))
  | 0, _ => ShOk.zero h0
  | i + 1, h => by
    have ih := raw_ok hk h0 gs i (by omega)
    have hl := (rawM_lens (k := k) (all0 := all0) (gs := gs) i (by omega)).2
    have hg := ih.gates
    rw [rawM_succ (by omega)]
    unfold rawS
    refine ⟨by simp [ih.len]; omega, fun j => ?_, by simp; omega, okG_snoc ih.ok (ih.at_ _) (ih.at_ _)⟩
    simp only [getD_snocI, List.length_append, List.length_singleton]
    have := ih.range j
    split
    · omega
    · split <;> omega
theorem flip_flip (b : Int) : flipL (flipL b 1) 1 = b := by
  unfold flipL
  rw [if_pos rfl, if_pos rfl]
  split
  · rw [if_neg (by omega)]; omega
  · rw [if_pos (by omega)]; omega
theorem flip_zero (b : Int) : flipL b 0 = b := by unfold flipL; rw [if_neg (by decide)]
theorem atL_flip (A : List Int) (a : Int) {s : Int} (hs : s = 0 ∨ s = 1) : atL A (flipL a s) = flipL (atL A a) s := by
  rcases hs with rfl | rfl
  · rw [flip_zero, flip_zero]
  · unfold atL
    have e : flipL a 1 = if a % 2 = 0 then a + 1 else a - 1 := by unfold flipL; rw [if_pos rfl]
    by_cases h : a % 2 = 0
    · rw [e, if_pos h, show (a + 1) / 2 = a / 2 by omega, show (a + 1) % 2 = 1 by omega, h, flip_zero]
    · rw [e, if_neg h, show (a - 1) / 2 = a / 2 by omega, show (a - 1) % 2 = 0 by omega, show a % 2 = 1 by omega, flip_zero, flip_flip]
theorem atL_atL (A R : List Int) (l : Int) : atL A (atL R l) = flipL (atL A (R.getD (l / 2).toNat 0)) (l % 2) := by
  show atL A (flipL _ _) = _
  exact atL_flip A _ (by omega)
structure RawSh (k m i : Nat) (r s t : List Int × List (Int × Int)) : Prop where
  g : t.2 = s.2
  at_ : ∀ j, j < m + i → atL t.1 (r.1.getD j 0) = s.1.getD j 0
theorem raw_share {k : Nat} (hk : 0 < k) {all0 : List Int} (h0 : ∀ j, 0 ≤ all0.getD j 0 ∧ all0.getD j 0 < 2 * (k : Int)) {gs : List (Int × Int)} (hg : okG all0.length gs) : ∀ i, i ≤ gs.length → RawSh k all0.length i (rawM k all0 (gs.take i)) (shareM k all0 (gs.take i)) (shareM k (idL k) (rawM k all0 (gs.take i)).2)
  | 0, _ => ⟨rfl, fun j _ => by
    show atL (idL k) (all0.getD j 0) = all0.getD j 0
    have hj := h0 j
    unfold atL
    rw [idL_get, if_pos (by omega)]
    unfold flipL
    split
    · rw [if_pos (by omega)]; omega
    · omega⟩
  | i + 1, h => by
    have hi : i < gs.length := h
    obtain ⟨ihg, iha⟩ := raw_share hk h0 hg i (by omega)
    have hr := raw_ok hk h0 gs i (by omega)
    have hsl := (ShOk.share hk h0 gs i (by omega)).len
    have hrl := rawM_lens (k := k) (all0 := all0) (gs := gs) i (by omega)
    have htl : (shareM k (idL k) (rawM k all0 (gs.take i)).2).1.length = k + i := by
      have := (ShOk.share hk (idL_range hk) (rawM k all0 (gs.take i)).2 _ (Nat.le_refl _)).len
      rw [List.take_of_length_le (Nat.le_refl _), idL_len, hrl.2] at this
      exact this
    obtain ⟨⟨g1, g2⟩, g3, g4⟩ := hg i hi
    rw [rawM_succ hi, shareM_succ hi]
    revert ihg iha hr hsl hrl htl
    generalize rawM k all0 (gs.take i) = r
    generalize shareM k all0 (gs.take i) = s
    intro ihg iha hr hsl hrl htl
    have e : shareM k (idL k) (rawS k r gs[i]).2 = stepM k (shareM k (idL k) r.2) (atL r.1 gs[i].1, atL r.1 gs[i].2) := by
      unfold rawS shareM
      rw [List.foldl_append]; rfl
    rw [e]
    revert ihg iha htl
    generalize shareM k (idL k) r.2 = t
    intro ihg iha htl
    have x1 : atL t.1 (atL r.1 gs[i].1) = atL s.1 gs[i].1 := by rw [atL_atL, iha _ (by omega)]; rfl
    have x2 : atL t.1 (atL r.1 gs[i].2) = atL s.1 gs[i].2 := by rw [atL_atL, iha _ (by omega)]; rfl
    unfold stepM
    dsimp only
    rw [x1, x2, ihg]
    refine ⟨rfl, fun j hj => ?_⟩
    unfold rawS
    dsimp only
    rw [getD_snocI, getD_snocI, hr.len, hsl]
    by_cases hj2 : j < all0.length + i
    · rw [if_pos hj2, if_pos hj2, ← iha j hj2]
      apply atL_congr
      rw [getD_snocI, if_pos]
      have := hr.range j
      rw [htl]
      have hgr := hr.gates
      omega
    · have ej : j = all0.length + i := by omega
      rw [if_neg hj2, if_neg hj2, if_pos ej, if_pos ej]
      unfold atL
      rw [show (2 * ((k + r.2.length : Nat) : Int)) / 2 = ((k + r.2.length : Nat) : Int) by omega, show (2 * ((k + r.2.length : Nat) : Int)) % 2 = 0 by omega, flip_zero, Int.toNat_natCast, getD_snocI, htl, hrl.2, if_neg (by omega), if_pos rfl]
end Go.NetM

namespace Go.OptEnv
open Go Go.Proofs Go.Abs Go.RowKit Go.NetM
set_option maxRecDepth 10000
def keptL (n : GNet) (keep : List Bool) : List GReg := pickL 0 keep n.regs.xs n.regs.xs.length
def GNet.kk (n : GNet) (keep : List Bool) : Nat := n.k0 + (keptL n keep).length
def againL (n : GNet) (keep : List Bool) (lits : List Int) : List Int := fillZ 0 n.k0 n.regs.xs.length keep lits n.regs.xs.length
def againS (n : GNet) (keep : List Bool) (lits : List Int) : List Int × List (Int × Int) := shareM (n.kk keep) (againL n keep lits) n.gates.xs
def rawNS (n : GNet) (keep : List Bool) (lits : List Int) : List Int × List (Int × Int) := rawM (n.kk keep) (againL n keep lits) n.gates.xs
def netOf (ins : GSl ByteArray) (n : GNet) (keep : List Bool) (s : List Int × List (Int × Int)) : GNet := ⟨ins, GSl.of ((keptL n keep).map (withNext s.1)), GSl.of s.2, GSl.of (n.outs.xs.map (withLit s.1))⟩
def withoutN (n : GNet) (keep : List Bool) (lits : List Int) : GNet := netOf (GSl.some n.ins.xs) n keep (rawNS n keep lits)
def againM (n : GNet) (keep : List Bool) (lits : List Int) : GNet := netOf (cloneG n.ins) n keep (againS n keep lits)
def againN (n : GNet) (keep : List Bool) (lits : List Int) : GNet := cleanN (againM n keep lits)
theorem pick_sub {α : Type} {k0 : Nat} {keep : List Bool} {l : List α} : ∀ i, i ≤ l.length → (pickL k0 keep l i).Sublist (l.take i)
  | 0, _ => by simp [pickL]
  | i + 1, h => by
    have ih := pick_sub (k0 := k0) (keep := keep) (l := l) i (by omega)
    rw [pickL_succ (by omega), List.take_succ_eq_append_getElem (by omega)]
    split
    · exact List.Sublist.append ih (List.Sublist.refl _)
    · exact ih.trans (List.sublist_append_left _ _)
theorem keptL_sub (n : GNet) (keep : List Bool) : (keptL n keep).Sublist n.regs.xs := by
  have := pick_sub (k0 := 0) (keep := keep) (l := n.regs.xs) n.regs.xs.length (Nat.le_refl _)
  rwa [List.take_of_length_le (Nat.le_refl _)] at this
theorem pick_cnt {α : Type} {z : Int} {k0 : Nat} {keep : List Bool} {l : List α} : ∀ i, i ≤ l.length → (pickL 0 keep l i).length = (selZ z k0 keep i).2
  | 0, _ => by simp [pickL, selZ]
  | i + 1, h => by
    have ih := pick_cnt (z := z) (k0 := k0) (keep := keep) (l := l) i (by omega)
    rw [pickL_succ (by omega), Nat.zero_add]
    unfold selZ
    split
    · simp [ih]
    · exact ih
theorem kk_sel {z : Int} (n : GNet) (keep : List Bool) : n.kk keep = n.k0 + (selZ z n.k0 keep n.regs.xs.length).2 := by
  unfold GNet.kk keptL
  rw [pick_cnt (z := z) (k0 := n.k0) n.regs.xs.length (Nat.le_refl _)]
theorem names_sub {l l' : List ByteArray} (h : l'.Sublist l) (hl : namesM l = true) : namesM l' = true := by
  simp only [namesM, Bool.and_eq_true, decide_eq_true_eq, List.all_eq_true] at hl ⊢
  obtain ⟨⟨a, b⟩, c⟩ := hl
  exact ⟨⟨Nat.le_trans h.length_le a, fun x hx => b x (h.subset hx)⟩, c.sublist h⟩
theorem k0_pos (n : GNet) : 0 < n.k0 := by unfold GNet.k0; omega
theorem kk_pos (n : GNet) (keep : List Bool) : 0 < n.kk keep := by unfold GNet.kk; have := k0_pos n; omega
theorem againL_len (n : GNet) (keep : List Bool) (lits : List Int) : (againL n keep lits).length = n.kN := by
  unfold againL; rw [fillZ_len]; rfl
theorem againL_range {n : GNet} {keep : List Bool} {lits : List Int} (hs : Stand n.k0 n.regs.xs.length keep lits) (j : Nat) : 0 ≤ (againL n keep lits).getD j 0 ∧ (againL n keep lits).getD j 0 < 2 * (n.kk keep : Int) := by
  rw [kk_sel (z := 0)]
  exact fill_rangeA (k0_pos n) hs j
theorem again_sh {n : GNet} {keep : List Bool} {lits : List Int} (hs : Stand n.k0 n.regs.xs.length keep lits) {i : Nat} (hi : i ≤ n.gates.xs.length) : ShOk (n.kk keep) (n.kN + i) i (shareM (n.kk keep) (againL n keep lits) (n.gates.xs.take i)) := by
  have := ShOk.share (kk_pos n keep) (againL_range hs) n.gates.xs i hi
  rwa [againL_len] at this
theorem raw_sh {n : GNet} {keep : List Bool} {lits : List Int} (hs : Stand n.k0 n.regs.xs.length keep lits) {i : Nat} (hi : i ≤ n.gates.xs.length) : ShOk (n.kk keep) (n.kN + i) i (rawM (n.kk keep) (againL n keep lits) (n.gates.xs.take i)) := by
  have := raw_ok (kk_pos n keep) (againL_range hs) n.gates.xs i hi
  rwa [againL_len] at this
theorem againS_sh {n : GNet} {keep : List Bool} {lits : List Int} (hs : Stand n.k0 n.regs.xs.length keep lits) : ShOk (n.kk keep) (n.kN + n.gates.xs.length) n.gates.xs.length (againS n keep lits) := by
  have := again_sh hs (Nat.le_refl n.gates.xs.length)
  rwa [List.take_length] at this
theorem rawNS_sh {n : GNet} {keep : List Bool} {lits : List Int} (hs : Stand n.k0 n.regs.xs.length keep lits) : ShOk (n.kk keep) (n.kN + n.gates.xs.length) n.gates.xs.length (rawNS n keep lits) := by
  have := raw_sh hs (Nat.le_refl n.gates.xs.length)
  rwa [List.take_length] at this
theorem netOf_kN {ins : GSl ByteArray} {n : GNet} {keep : List Bool} {s : List Int × List (Int × Int)} (hi : ins.xs = n.ins.xs) : (netOf ins n keep s).kN = n.kk keep := by
  unfold GNet.kN GNet.kk GNet.k0 netOf
  rw [gof_xs, List.length_map, hi]
theorem netOf_valid {ins : GSl ByteArray} {n : GNet} (hi : ins.xs = n.ins.xs) (hv : validM n = true) {keep : List Bool} {s : List Int × List (Int × Int)} {N : Nat} (hs : ShOk (n.kk keep) N n.gates.xs.length s) : validM (netOf ins n keep s) = true := by
  have v := validM_iff.1 hv
  have hm := v.gatesN
  have hkN := netOf_kN (keep := keep) (s := s) hi
  have hf : (netOf ins n keep s).first = (n.kk keep : Int) := by rw [← hkN]; unfold GNet.first GNet.kN; omega
  have e3 : (netOf ins n keep s).gates.xs = s.2 := gof_xs _
  have e2 : (netOf ins n keep s).regs.xs = (keptL n keep).map (withNext s.1) := gof_xs _
  have e4 : (netOf ins n keep s).outs.xs = n.outs.xs.map (withLit s.1) := gof_xs _
  have hnd : (netOf ins n keep s).nodes = ((n.kk keep + s.2.length : Nat) : Int) := by unfold GNet.nodes; rw [hf, e3]; omega
  have hg := hs.gates
  have hsub := keptL_sub n keep
  refine validM_iff.2 ⟨by rw [e3]; omega, by show namesM ins.xs = true; rw [hi]; exact v.ins, ?_, ?_, by rw [hf, e3]; exact gatesOk_all hs.ok, ?_, ?_, ?_⟩
  · rw [e2, List.map_map]; exact names_sub (hsub.map _) v.regs
  · rw [e4, List.map_map]; exact v.outs
  · rw [e2, List.all_map, List.all_eq_true]
    intro r hr
    exact List.all_eq_true.1 v.inits r (hsub.subset hr)
  · rw [e2, hnd, List.all_map, List.all_eq_true]
    intro r _
    have := hs.at_ r.next
    exact decide_eq_true this
  · rw [e4, hnd, List.all_map, List.all_eq_true]
    intro r _
    have := hs.at_ r.lit
    exact decide_eq_true this
theorem netOf_fits {ins : GSl ByteArray} {n : GNet} (hi : ins.xs = n.ins.xs) (hv : validM n = true) (hn : FitsN n) {keep : List Bool} {s : List Int × List (Int × Int)} {N : Nat} (hs : ShOk (n.kk keep) N n.gates.xs.length s) : FitsN (netOf ins n keep s) := by
  obtain ⟨f1, f2, f3, f4⟩ := valid_len hv
  have hsub := keptL_sub n keep
  have hg := hs.gates
  have hkl : (keptL n keep).length ≤ n.regs.xs.length := hsub.length_le
  have hkk : n.kk keep ≤ 3000 := by unfold GNet.kk GNet.k0; omega
  have ha : ∀ l, Fit64 (atL s.1 l) := fun l => by
    have := hs.at_ l
    exact ⟨by omega, by omega⟩
  obtain ⟨m1, m2, m3, m4, m5, m6, m7, m8, m9, m10⟩ := hn
  unfold netOf
  refine ⟨by rw [hi]; exact m1, by rw [gof_xs, List.length_map]; omega, by rw [gof_xs]; omega, by rw [gof_xs, List.length_map]; omega, by rw [hi]; exact m5, fun r hr => ?_, fun r hr => ?_, fun a hg' => ?_, fun r hr => ?_, fun r hr => ?_⟩
  · rw [gof_xs] at hr
    obtain ⟨r', h', rfl⟩ := List.mem_map.1 hr
    exact m6 r' (hsub.subset h')
  · rw [gof_xs] at hr
    obtain ⟨r', h', rfl⟩ := List.mem_map.1 hr
    exact m7 r' h'
  · rw [gof_xs] at hg'
    obtain ⟨i, hi, rfl⟩ := List.getElem_of_mem hg'
    obtain ⟨⟨a1, a2⟩, a3, a4⟩ := hs.ok i hi
    exact ⟨⟨by omega, by omega⟩, by omega, by omega⟩
  · rw [gof_xs] at hr
    obtain ⟨r', h', rfl⟩ := List.mem_map.1 hr
    exact ha _
  · rw [gof_xs] at hr
    obtain ⟨r', h', rfl⟩ := List.mem_map.1 hr
    exact ha _
theorem again_same {n : GNet} (hv : validM n = true) {keep : List Bool} {lits : List Int} (hs : Stand n.k0 n.regs.xs.length keep lits) : SameC (againM n keep lits) (shareN (withoutN n keep lits)) := by
  obtain ⟨hgo, hrn, hol⟩ := valid_lits hv
  have hsh := raw_share (kk_pos n keep) (againL_range hs) (gs := n.gates.xs) (by rw [againL_len]; exact hgo) n.gates.xs.length (Nat.le_refl _)
  rw [List.take_length, againL_len] at hsh
  have e : shareS (withoutN n keep lits) = shareM (n.kk keep) (idL (n.kk keep)) (rawNS n keep lits).2 := by
    unfold shareS withoutN
    rw [netOf_kN (ins := GSl.some n.ins.xs) rfl]
    show shareM _ _ (GSl.of (rawNS n keep lits).2).xs = _
    rw [gof_xs]
  obtain ⟨hg, ha⟩ := hsh
  have hat : ∀ l, 0 ≤ l ∧ l < 2 * ((n.kN + n.gates.xs.length : Nat) : Int) → atL (shareS (withoutN n keep lits)).1 (atL (rawNS n keep lits).1 l) = atL (againS n keep lits).1 l := fun l hl => by
    rw [e, atL_atL]
    have := ha (l / 2).toNat (by omega)
    unfold rawNS
    rw [this]; rfl
  obtain ⟨e1, e2, e3, e4⟩ := lay_xs (n := withoutN n keep lits) (s := shareS (withoutN n keep lits))
  refine ⟨?_, ?_, ?_, ?_⟩
  · show (cloneG n.ins).xs = (layN _ _).ins.xs
    rw [clone_xs, e1]; rfl
  · show (GSl.of ((keptL n keep).map (withNext (againS n keep lits).1))).xs = (layN _ _).regs.xs
    rw [e2]
    unfold withoutN netOf
    simp only [gof_xs, List.map_map]
    refine List.map_congr_left fun r hr => ?_
    have := hat _ (hrn r ((keptL_sub n keep).subset hr))
    simp only [Function.comp, withNext]
    unfold withoutN netOf at this
    rw [this]
  · show (GSl.of (againS n keep lits).2).xs = (layN _ _).gates.xs
    rw [e3, gof_xs, e]; exact hg.symm
  · show (GSl.of (n.outs.xs.map (withLit (againS n keep lits).1))).xs = (layN _ _).outs.xs
    rw [e4]
    unfold withoutN netOf
    simp only [gof_xs, List.map_map]
    refine List.map_congr_left fun r hr => ?_
    have := hat _ (hol r hr)
    simp only [Function.comp, withLit]
    unfold withoutN netOf at this
    rw [this]
theorem SameC.cleaned {a b : GNet} (h : SameC a b) : SameC (cleanN a) (cleanN b) := by
  unfold cleanN
  rw [h.clean]
  exact h.lay _
theorem again_fold {n : GNet} (hv : validM n = true) {keep : List Bool} {lits : List Int} (hs : Stand n.k0 n.regs.xs.length keep lits) : SameC (againN n keep lits) (foldR (withoutN n keep lits)) :=
  (again_same hv hs).cleaned.trans (fold_same (SameC.refl _)).symm
theorem again_valid {n : GNet} (hv : validM n = true) {keep : List Bool} {lits : List Int} (hs : Stand n.k0 n.regs.xs.length keep lits) : validM (againM n keep lits) = true := netOf_valid (clone_xs _) hv (againS_sh hs)
theorem again_fits {n : GNet} (hv : validM n = true) (hn : FitsN n) {keep : List Bool} {lits : List Int} (hs : Stand n.k0 n.regs.xs.length keep lits) : FitsN (againM n keep lits) := netOf_fits (clone_xs _) hv hn (againS_sh hs)
theorem without_valid {n : GNet} (hv : validM n = true) {keep : List Bool} {lits : List Int} (hs : Stand n.k0 n.regs.xs.length keep lits) : validM (withoutN n keep lits) = true := netOf_valid (ins := GSl.some n.ins.xs) rfl hv (rawNS_sh hs)
theorem without_fits {n : GNet} (hv : validM n = true) (hn : FitsN n) {keep : List Bool} {lits : List Int} (hs : Stand n.k0 n.regs.xs.length keep lits) : FitsN (withoutN n keep lits) := netOf_fits (ins := GSl.some n.ins.xs) rfl hv hn (rawNS_sh hs)
end Go.OptEnv
