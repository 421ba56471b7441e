/- Own text of this claim: part 15 of an interpreter that is proved sound against the model, and of what it shows of the law. -/
import Derived.Test.YthomnnnhkfjbdaaGreatAbs14
import Derived.Test.YthomnnnhkfjbdaaGreatAbs10
import Derived.Test.YthomnnnhkfjbdaaGreatAbs8
/- The net of what stays, of the program. -/
namespace Go.OptEnv
open Go Go.Proofs Go.Abs Go.RowKit Go.NetM
set_option maxRecDepth 10000
/-- The number of a node, by its literal. -/
def halfAV (x : Int) : AV := .int .i64 (x / 2)
theorem rep_half (k : Nat) : List.replicate k (AV.int .i64 0) = (List.replicate k (0 : Int)).map halfAV := by rw [List.map_replicate]; rfl
theorem bldI {pr : Prims} {s : GSl ByteArray} : buildA (En pr) 27 [(0, s.av 1 strAV)] = some (.agg [s.av 1 strAV, .nilsl, .nilsl, .nilsl]) := by
  unfold GSl.av; split <;> rfl
/-- A net of what stays, with the inputs of before. -/
def onlyN (n : GNet) (keep : List Bool) : GNet := ⟨n.ins, GSl.of ((keptRegs n keep).map (withNext (keptS n keep).1)), GSl.of (keptS n keep).2, GSl.of (n.outs.xs.map (withLit (keptS n keep).1))⟩
theorem only_same (n : GNet) (keep : List Bool) : SameC (onlyN n keep) (keptN n keep) := ⟨rfl, rfl, rfl, rfl⟩
theorem st_rA {i g o : AV} {r : AV} {t sz : Nat} {xs : List AV} : AObj.row 4 ([AV.agg [i, r, g, o]].set 0 (.agg ([i, r, g, o].take 1 ++ (accA t sz xs).cells ++ [i, r, g, o].drop (1 + (accA t sz xs).cells.length)))) = keptO i (accA t sz xs) g o := by
  rw [acc_cells]; rfl
attribute [local irreducible] WS QS OS OD Abs.Sub SubO SubK CW GSl.av accA growA
section
variable {pr : Prims} {L : List (Nat × AObj)} {K : List (Nat × Bool)} {st : St}
theorem run101 (h1 : pr 101 = none) (k8 kl : Nat) {b8 lb : Nat} {lits : List Int} (hx : L[k8]? = some (b8, .row 1 [.sl 1 lb 0 lits.length])) (hL : L[kl]? = some (lb, .row 1 (lits.map halfAV))) {l : Int} (hl : 0 ≤ l ∧ (l / 2).toNat < lits.length) (hl2 : l < 4611686018427387904) (hv : 0 ≤ lits.getD (l / 2).toNat 0 ∧ lits.getD (l / 2).toNat 0 < 4611686018427387904) (he : lits.getD (l / 2).toNat 0 % 2 = 0) (hS : SFa L K st) :
    CW (En pr) 101 [.int .i64 l, .ptr b8 0 0] st fun r st' => r = .int .i64 (atL lits l) ∧ SFa L K st' := by
  have hw : IntKind.i64.wrap (l.tdiv 2) = l / 2 := by
    rw [Int.tdiv_eq_ediv_of_nonneg hl.1]
    exact wrap64 (by omega) (by omega)
  have hw2 : IntKind.i64.wrap (l.tmod 2) = l % 2 := by
    rw [Int.tmod_eq_emod_of_nonneg hl.1]
    exact wrap64 (by omega) (by omega)
  have hidx : indexAddrA (En pr) 38 (.sl 1 lb 0 lits.length) (.int .i64 (IntKind.i64.wrap (l.tdiv 2))) = some (.ptr lb (l / 2).toNat 0) := by
    rw [hw, show l / 2 = (((l / 2).toNat : Nat) : Int) by omega]
    exact indexAddrA_sl rfl rfl rfl rfl (by omega)
  have hg : (lits.map halfAV)[(l / 2).toNat]? = some (halfAV (lits.getD (l / 2).toNat 0)) := by
    rw [List.getElem?_map, List.getD_eq_getElem?_getD, List.getElem?_eq_getElem hl.2]; rfl
  have hres := atL_half he
  refine CW.startS (N := 13) h1 rfl rfl hS ?_
  repeat' (first | (refine OS.do rfl ?_; first | refine OD.loadP k8 rfl rfl hx rfl rfl rfl ?_ | refine OD.indexAddr rfl rfl rfl hidx ?_ | refine OD.loadP kl rfl rfl hL hg rfl rfl ?_ | refine OD.auto rfl rfl ?_) | refine OS.nil ?_ | refine WS.seq ?_ | refine QS.seqN ?_ | refine WS.region ?_ | refine WS.ret ?_)
  have hw3 : IntKind.i64.wrap (IntKind.i64.wrap (2 * (lits.getD (l / 2).toNat 0 / 2)) + l.tmod 2) = atL lits l := by
    rw [← hres, Int.tmod_eq_emod_of_nonneg hl.1, wrap64 (n := 2 * (lits.getD (l / 2).toNat 0 / 2)) (by omega) (by omega), wrap64 (by omega) (by omega)]
  exact QS.retRS (by rfl) fun st hs => ⟨by rw [hw3], hs⟩
set_option maxHeartbeats 4000000 in
theorem run54 (h1 : pr 54 = none) (h101 : pr 101 = none) (kk kp : Nat) {kb mb : Nat} {kr : List Bool} {met : List Int} (hk : L[kk]? = some (kb, .row 1 (kr.map boolAV))) (hm : L[kp]? = some (mb, .map 3 4 (entsI met))) (n : GNet) (hV : validM n = true) (hn : FitsN n) (keep : List Bool) (hkr : kr.length = n.regs.xs.length) (hke : ∀ (i : Nat) (h : i < kr.length), kr[i] = keep.getD (n.k0 + i) false) (hme : ∀ i, i < n.gates.xs.length → decide (((n.kN + i : Nat) : Int) ∈ met) = keep.getD (n.kN + i) false) (hS : SFa L [] st) :
    CW (En pr) 54 [netAV n, .sl 1 kb 0 n.regs.xs.length, .map mb] st fun r st' => (AV.free r = true ∧ AV.plain r = netAV (onlyN n keep)) ∧ SFa L [] st' := by
  obtain ⟨f1, f2, f3, f4⟩ := valid_len hV
  obtain ⟨hgo, hrn, hol⟩ := valid_lits hV
  have hk1 : 1 ≤ n.kN ∧ n.kN ≤ 2001 := by unfold GNet.kN; omega
  have hk0 : (n.k0 : Int) = 1 + n.ins.xs.length := by unfold GNet.k0; omega
  have hk01 : 0 < n.k0 := by unfold GNet.k0; omega
  have hk' : n.kN = n.k0 + n.regs.xs.length := rfl
  have hw : IntKind.i64.wrap (IntKind.i64.wrap (IntKind.i64.wrap (1 + (n.ins.xs.length : Int)) + (n.regs.xs.length : Int)) + (n.gates.xs.length : Int)) = ((n.kN + n.gates.xs.length : Nat) : Int) := by
    rw [wrap64 (n := 1 + (n.ins.xs.length : Int)) (by omega) (by omega), wrap64 (n := 1 + (n.ins.xs.length : Int) + (n.regs.xs.length : Int)) (by omega) (by omega), wrap64 (by omega) (by omega)]
    omega
  have hw0 : IntKind.i64.wrap (1 + (n.ins.xs.length : Int)) = (n.k0 : Int) := by rw [wrap64 (by omega) (by omega)]; omega
  refine CW.startS (N := 158) h1 rfl rfl hS ?_
  repeat' (first | (refine OS.do rfl ?_; first | refine OD.box rfl rfl rfl rfl (net_ok _) rfl (fun b3 => ?_) | refine OD.build rfl rfl bldI ?_ | refine OD.storeW 0 rfl rfl rfl rfl (ok4 (av_cellOk _ _ _) rfl rfl rfl) rfl rfl rfl ?_ | refine OD.auto rfl rfl ?_ | refine OD.loadP 1 rfl rfl rfl rfl rfl rfl ?_ | refine OD.len rfl rfl (fun _ => lenTy_av rfl rfl) ?_ | refine OD.loadP 2 rfl rfl rfl rfl rfl rfl ?_ | refine OD.alloc rfl rfl rfl rfl (fun _ => ?_) | refine OD.storeW 0 rfl rfl rfl rfl (by first | rfl | exact net_ok _) rfl rfl rfl ?_ | refine OD.makeSlice (n := n.kN + n.gates.xs.length) rfl (congrArg (fun z => some (AV.int .i64 z)) hw) (congrArg (fun z => some (AV.int .i64 z)) hw) rfl rfl rfl rfl rfl (roomB rfl (by omega)) (fun lb => ?_) | refine OD.loadP 4 rfl rfl rfl rfl rfl rfl ?_) | refine OS.nil ?_ | refine WS.seq ?_ | refine QS.seqN ?_ | refine WS.region ?_ | refine WS.block ?_)
  rename_i b6 b7 b8
  have hmo : AObj.row ty27.size [AV.agg [n.ins.av 1 strAV, .nilsl, .nilsl, .nilsl]] = keptO (n.ins.av 1 strAV) (accA 0 3 (([] : List GReg).map regAV)) (accA 0 2 (([] : List (Int × Int)).map gateAV)) (accA 0 2 (([] : List GPin).map pinAV)) := by
    simp only [List.map_nil, acc_nil]; rfl
  rw [show List.replicate (n.kN + n.gates.xs.length) ty3.zeroV = (((idL 0) ++ List.replicate ((n.kN + n.gates.xs.length) - (idL 0).length) 0).map halfAV) from rep_half _, hw0]
  refine WS.objs (L' := (b8, .row ty38.size [.sl ty3.size lb 0 (n.kN + n.gates.xs.length)]) :: (lb, .row ty3.size (((idL 0) ++ List.replicate ((n.kN + n.gates.xs.length) - (idL 0).length) 0).map halfAV)) :: (b7, keptO (n.ins.av 1 strAV) (accA 0 3 (([] : List GReg).map regAV)) (accA 0 2 (([] : List (Int × Int)).map gateAV)) (accA 0 2 (([] : List GPin).map pinAV))) :: (b6, .row ty27.size [ty27.zeroV]) :: (b3, .row ty27.size [netAV n]) :: L) (by rw [← hmo]; exact SubO.refl _) ?_
  have hzero : ∀ {lits : List Int} {i : Nat}, lits.length = i → i < (n.kN + n.gates.xs.length) → ((((lits) ++ List.replicate ((n.kN + n.gates.xs.length) - (lits).length) 0).map halfAV))[i]? = some (.int .i64 0) := fun {lits i} hl hi => by
    rw [List.getElem?_map, List.getElem?_append_right (by omega), hl, Nat.sub_self, List.getElem?_replicate, if_pos (by omega)]; rfl
  have hset : ∀ {lits : List Int} {i : Nat} (x : Int), lits.length = i → i < (n.kN + n.gates.xs.length) → ((((lits) ++ List.replicate ((n.kN + n.gates.xs.length) - (lits).length) 0).map halfAV)).set i (.int .i64 x) = (((lits ++ [2 * x]) ++ List.replicate ((n.kN + n.gates.xs.length) - (lits ++ [2 * x]).length) 0).map halfAV) := fun {lits i} x hl hi => by
    have hrep : (n.kN + n.gates.xs.length) - lits.length = ((n.kN + n.gates.xs.length) - (lits.length + 1)) + 1 := by omega
    have e : ((((lits) ++ List.replicate ((n.kN + n.gates.xs.length) - (lits).length) 0).map halfAV)).set i (.int .i64 x) = (((lits) ++ List.replicate ((n.kN + n.gates.xs.length) - (lits).length) 0).set lits.length (2 * x)).map halfAV := by rw [List.map_set, hl]; unfold halfAV; rw [show 2 * x / 2 = x by omega]
    rw [e, hrep, set_zeros, List.length_append]; rfl
  have hskip : ∀ {lits : List Int} {i : Nat}, lits.length = i → i < (n.kN + n.gates.xs.length) → lits ++ List.replicate ((n.kN + n.gates.xs.length) - lits.length) 0 = (lits ++ [0]) ++ List.replicate ((n.kN + n.gates.xs.length) - (lits ++ [0]).length) 0 := fun {lits i} hl hi => by
    rw [show (n.kN + n.gates.xs.length) - lits.length = ((n.kN + n.gates.xs.length) - (lits.length + 1)) + 1 by omega, skip_zeros]
    simp
  refine WS.loopK (D := Nat) [1, 2, 3, 6, 7, 8, 9, 41] (by rfl) (fun j => [(42, .int .i64 (j : Int))]) (fun j => (b8, .row ty38.size [.sl ty3.size lb 0 (n.kN + n.gates.xs.length)]) :: (lb, .row ty3.size (((idL j) ++ List.replicate ((n.kN + n.gates.xs.length) - (idL j).length) 0).map halfAV)) :: (b7, keptO (n.ins.av 1 strAV) (accA 0 3 (([] : List GReg).map regAV)) (accA 0 2 (([] : List (Int × Int)).map gateAV)) (accA 0 2 (([] : List GPin).map pinAV))) :: (b6, .row ty27.size [ty27.zeroV]) :: (b3, .row ty27.size [netAV n]) :: L) (fun _ => []) (fun j => j ≤ n.k0) (fun j => n.k0 - j) (0) (Nat.zero_le _) (by (try dsimp only); repeat' (first | exact Sub.nil _ | refine Sub.cons (congrArg (fun z => some (AV.int .i64 z)) (wrap_succ (by omega))) ?_ | refine Sub.cons rfl ?_)) (by (try dsimp only); repeat' (first | exact SubO.nil _ | exact SubO.refl _ | refine SubO.keep ?_ | refine SubO.drop ?_)) (by (try dsimp only); repeat' (first | exact SubK.nil _ | exact SubK.refl _ | refine SubK.keep (by simp) ?_ | refine SubK.new ?_ | refine SubK.drop ?_)) ?_
  rintro j hj
  try dsimp only at hj
  dsimp only [RSt.at, List.cons_append, List.nil_append]
  repeat' (first | (refine OS.do rfl ?_; first | refine OD.loadP 0 rfl rfl rfl rfl rfl rfl ?_ | refine OD.auto rfl rfl ?_ | refine OD.len rfl rfl (fun _ => rfl) ?_ | refine OD.indexAddr rfl rfl rfl (indexAddrA_sl rfl rfl rfl rfl (by omega)) ?_ | refine OD.storeI 1 rfl rfl rfl rfl rfl (hzero (idL_len j) (by omega)) ?_) | refine OS.nil ?_ | refine WS.seq ?_ | refine QS.seqN ?_ | refine WS.region ?_ | refine WS.condD rfl (fun _ => ?_) (fun _ => ?_) | refine WS.skip ?_ | refine WS.block ?_ | refine QS.blockN ?_ | refine WS.exit ?_ | refine QS.seqE ?_ | refine QS.blockH ?_ | refine QS.loopE ?_)
  · rename_i hc
    have hj2 : j < (n.kN + n.gates.xs.length) := by omega
    dsimp only [List.set_cons_zero, List.set_cons_succ]
    rw [hset _ (idL_len j) hj2, ← idL_succ]
    refine QS.loopN (j + 1) (by exact (by show j + 1 ≤ n.k0; omega)) (by exact (by show n.k0 - (j + 1) < n.k0 - j; omega)) (by (try dsimp only [List.cons_append, List.nil_append]); repeat' (first | exact Sub.nil _ | refine Sub.cons (congrArg (fun z => some (AV.int .i64 z)) (wrap_succ (by omega))) ?_ | refine Sub.cons rfl ?_)) (by (try dsimp only); repeat' (first | exact SubO.nil _ | exact SubO.refl _ | refine SubO.keep ?_ | refine SubO.drop ?_)) (by (try dsimp only); repeat' (first | exact SubK.nil _ | exact SubK.refl _ | refine SubK.keep (by simp) ?_ | refine SubK.new ?_ | refine SubK.drop ?_))
  rename_i hc
  have hjk : j = n.k0 := by omega
  subst hjk
  refine WS.range (A := List Int × Nat) (n := n.regs.xs.length) ⟨53, _, fun a => [(9, .int .i64 ((n.k0 + a.2 : Nat) : Int))], fun a => (b8, .row ty38.size [.sl ty3.size lb 0 (n.kN + n.gates.xs.length)]) :: (lb, .row ty3.size (((a.1) ++ List.replicate ((n.kN + n.gates.xs.length) - (a.1).length) 0).map halfAV)) :: (b7, keptO (n.ins.av 1 strAV) (accA 0 3 (([] : List GReg).map regAV)) (accA 0 2 (([] : List (Int × Int)).map gateAV)) (accA 0 2 (([] : List GPin).map pinAV))) :: (b6, .row ty27.size [ty27.zeroV]) :: (b3, .row ty27.size [netAV n]) :: L, fun _ => [], fun i a => a = selRM n.k0 keep i⟩ ((idL n.k0, 0)) [1, 2, 3, 6, 7, 8, 11, 51, 52] (by rfl) (by omega) (rfl) (by rfl) (by (try dsimp only); repeat' (first | exact Sub.nil _ | refine Sub.cons (congrArg (fun z => some (AV.int .i64 z)) (wrap_succ (by omega))) ?_ | refine Sub.cons rfl ?_)) (by (try dsimp only); repeat' (first | exact SubO.nil _ | exact SubO.refl _ | refine SubO.keep ?_ | refine SubO.drop ?_)) (by (try dsimp only); repeat' (first | exact SubK.nil _ | exact SubK.refl _ | refine SubK.keep (by simp) ?_ | refine SubK.new ?_ | refine SubK.drop ?_)) (by rfl) (by rfl) (by rfl) (by rfl) (by rfl) (by rfl) (fun _ _ => by rfl) (fun _ => by rfl) (fun _ _ => by rfl) (fun _ _ => by rfl) ?_ ?_
  · rintro i ⟨lits, c⟩ hi hA
    try dsimp only at hA
    have hl : lits.length = n.k0 + i := by
      have := selRM_len (k0 := n.k0) (keep := keep) i
      rw [← hA] at this; exact this
    have hRl : c ≤ i := by
      have := selRM_cnt (k0 := n.k0) (keep := keep) i
      rw [← hA] at this; exact this
    have hkb : (kr.map boolAV)[i]? = some (.bool (keep.getD (n.k0 + i) false)) := by
      rw [List.getElem?_map, List.getElem?_eq_getElem (by omega), Option.map_some, hke i (by omega)]; rfl
    have hki : indexAddrA (En pr) 38 (.sl ty3.size lb 0 (n.kN + n.gates.xs.length)) (.int .i64 (IntKind.i64.wrap (IntKind.i64.wrap (1 + (n.ins.xs.length : Int)) + (i : Int)))) = some (.ptr lb (n.k0 + i) 0) := by
      rw [hw0, show IntKind.i64.wrap ((n.k0 : Int) + (i : Int)) = ((n.k0 + i : Nat) : Int) by rw [wrap64 (by omega) (by omega)]; omega]; exact indexAddrA_sl rfl rfl rfl rfl (by omega)
    have hw9 : IntKind.i64.wrap (((n.k0 + c : Nat) : Int) + 1) = ((n.k0 + (c + 1) : Nat) : Int) := by rw [wrap64 (by omega) (by omega)]; omega
    dsimp only [RSt.at, List.cons_append, List.nil_append]
    repeat' (first | (refine OS.do rfl ?_; first | refine OD.indexAddr rfl rfl rfl hki ?_ | refine OD.loadP (kk + 5) rfl rfl hk hkb rfl rfl ?_ | refine OD.loadP 0 rfl rfl rfl rfl rfl rfl ?_ | refine OD.auto rfl rfl ?_ | refine OD.len rfl rfl (fun _ => lenTy_av rfl rfl) ?_ | refine OD.loadP 4 rfl rfl rfl rfl rfl rfl ?_ | refine OD.indexAddr rfl rfl rfl (indexAddrA_sl rfl rfl rfl rfl (by omega)) ?_ | refine OD.storeI 1 rfl rfl rfl rfl rfl (hzero hl (by omega)) ?_) | refine OS.nil ?_ | refine WS.seq ?_ | refine QS.seqN ?_ | refine WS.region ?_ | refine WS.skip ?_ | refine WS.condB rfl (fun _ => ?_) (fun _ => ?_))
    · rename_i hb
      dsimp only [List.set_cons_zero, List.set_cons_succ]
      rw [hset _ hl (by omega), hw9]
      refine QS.rangeN ((lits ++ [2 * ((n.k0 + c : Nat) : Int)], c + 1)) (by (try dsimp only) <;> exact (by rw [selRM_yes hA hb])) (by (try dsimp only [RSt.at, List.cons_append, List.nil_append]); repeat' (first | exact Sub.nil _ | refine Sub.cons (congrArg (fun z => some (AV.int .i64 z)) (wrap_succ (by omega))) ?_ | refine Sub.cons rfl ?_)) (by (try dsimp only); repeat' (first | exact SubO.nil _ | exact SubO.refl _ | refine SubO.keep ?_ | refine SubO.drop ?_)) (by (try dsimp only); repeat' (first | exact SubK.nil _ | exact SubK.refl _ | refine SubK.keep (by simp) ?_ | refine SubK.new ?_ | refine SubK.drop ?_))
    · rename_i hb
      rw [hskip hl (by omega)]
      refine QS.rangeN ((lits ++ [0], c)) (by (try dsimp only) <;> exact (by rw [selRM_no hA hb])) (by (try dsimp only [RSt.at, List.cons_append, List.nil_append]); repeat' (first | exact Sub.nil _ | refine Sub.cons (congrArg (fun z => some (AV.int .i64 z)) (wrap_succ (by omega))) ?_ | refine Sub.cons rfl ?_)) (by (try dsimp only); repeat' (first | exact SubO.nil _ | exact SubO.refl _ | refine SubO.keep ?_ | refine SubO.drop ?_)) (by (try dsimp only); repeat' (first | exact SubK.nil _ | exact SubK.refl _ | refine SubK.keep (by simp) ?_ | refine SubK.new ?_ | refine SubK.drop ?_))
  rintro ⟨lits0, c⟩ hA0
  try dsimp only at hA0
  have hcnt : (selRM n.k0 keep n.regs.xs.length).2 = c := by rw [← hA0]
  have hRl : c ≤ n.regs.xs.length := by rw [← hcnt]; exact selRM_cnt _
  have hsm : ∀ i, i ≤ n.gates.xs.length → ShOk (n.k0 + c) (n.kN + i) i (selM n.k0 n.regs.xs.length keep (n.gates.xs.take i)) := fun i hi => by
    have := sel_ok (nregs := n.regs.xs.length) hk01 (keep := keep) n.gates.xs i hi
    rw [hcnt, ← hk'] at this
    exact this
  dsimp only [RSt.at, List.cons_append, List.nil_append]
  repeat' (first | (refine OS.do rfl ?_; first | refine OD.auto rfl rfl ?_ | refine OD.len rfl rfl (fun _ => lenTy_av rfl rfl) ?_ | refine OD.loadP 4 rfl rfl rfl rfl rfl rfl ?_) | refine OS.nil ?_ | refine WS.seq ?_ | refine QS.seqN ?_ | refine WS.region ?_ | refine WS.block ?_)
  refine WS.newK ?_
  refine WS.range (A := Nat × List Int × List (Int × Int)) (n := n.gates.xs.length) ⟨74, _, fun a => [(9, .int .i64 ((n.k0 + c + a.2.2.length : Nat) : Int))], fun a => (b8, .row ty38.size [.sl ty3.size lb 0 (n.kN + n.gates.xs.length)]) :: (lb, .row ty3.size (((a.2.1) ++ List.replicate ((n.kN + n.gates.xs.length) - (a.2.1).length) 0).map halfAV)) :: (b7, keptO (n.ins.av 1 strAV) (accA 0 3 (([] : List GReg).map regAV)) (accA a.1 2 (a.2.2.map gateAV)) (accA 0 2 (([] : List GPin).map pinAV))) :: (b6, .row ty27.size [ty27.zeroV]) :: (b3, .row ty27.size [netAV n]) :: L, fun a => [(a.1, !a.2.2.isEmpty)], fun i a => (a.2.1, a.2.2) = selM n.k0 n.regs.xs.length keep (n.gates.xs.take i)⟩ ((0, lits0, [])) [1, 2, 3, 6, 7, 8, 11, 72, 73] (by rfl) (by omega) (by show (lits0, ([] : List (Int × Int))) = ((selRM n.k0 keep n.regs.xs.length).1, []); rw [← hA0]) (by rfl) (by (try dsimp only); repeat' (first | exact Sub.nil _ | refine Sub.cons (congrArg (fun z => some (AV.int .i64 z)) (wrap_succ (by omega))) ?_ | refine Sub.cons rfl ?_)) (by (try dsimp only); repeat' (first | exact SubO.nil _ | exact SubO.refl _ | refine SubO.keep ?_ | refine SubO.drop ?_)) (by (try dsimp only); repeat' (first | exact SubK.nil _ | exact SubK.refl _ | refine SubK.keep (by simp) ?_ | refine SubK.new ?_ | refine SubK.drop ?_)) (by rfl) (by rfl) (by rfl) (by rfl) (by rfl) (by rfl) (fun _ _ => by rfl) (fun _ => by rfl) (fun _ _ => by rfl) (fun _ _ => by rfl) ?_ ?_
  · rintro j ⟨tg, lits, G⟩ hj hA
    try dsimp only at hA
    have hs := hsm j (by omega)
    rw [← hA] at hs
    have hev : evL lits := by
      have := selM_ev (k0 := n.k0) (nregs := n.regs.xs.length) (keep := keep) n.gates.xs j (by omega)
      rw [← hA] at this; exact this
    have hl : lits.length = n.kN + j := hs.len
    have hGl := hs.gates
    try dsimp only at hGl
    obtain ⟨⟨g1, g2⟩, g3, g4⟩ := hgo j hj
    have hwk : IntKind.i64.wrap (IntKind.i64.wrap (IntKind.i64.wrap (1 + (n.ins.xs.length : Int)) + (n.regs.xs.length : Int)) + (j : Int)) = ((n.kN + j : Nat) : Int) := by
      rw [hw0, wrap64 (n := (n.k0 : Int) + (n.regs.xs.length : Int)) (by omega) (by omega), wrap64 (by omega) (by omega)]; omega
    have hki : indexAddrA (En pr) 38 (.sl ty3.size lb 0 (n.kN + n.gates.xs.length)) (.int .i64 (IntKind.i64.wrap (IntKind.i64.wrap (IntKind.i64.wrap (1 + (n.ins.xs.length : Int)) + (n.regs.xs.length : Int)) + (j : Int)))) = some (.ptr lb (n.kN + j) 0) := by
      rw [hwk]; exact indexAddrA_sl rfl rfl rfl rfl (by omega)
    have hw9 : IntKind.i64.wrap (((n.k0 + c + G.length : Nat) : Int) + 1) = ((n.k0 + c + (G ++ [(atL lits n.gates.xs[j].1, atL lits n.gates.xs[j].2)]).length : Nat) : Int) := by rw [wrap64 (by omega) (by omega), List.length_append, List.length_singleton]; omega
    have u101 : ∀ (l v : Int), 0 ≤ l ∧ l < 2 * ((n.kN + j : Nat) : Int) → ∀ {L' : List (Nat × AObj)} {K' : List (Nat × Bool)} (k8 kl : Nat), L'[k8]? = some (b8, .row 1 [.sl 1 lb 0 (n.kN + n.gates.xs.length)]) → L'[kl]? = some (lb, .row 1 (((lits ++ [v]) ++ List.replicate ((n.kN + n.gates.xs.length) - (lits ++ [v]).length) 0).map halfAV)) → ∀ st, SFa L' K' st → CW (En pr) 101 [.int .i64 l, .ptr b8 0 0] st fun r st' => r = .int .i64 (atL lits l) ∧ SFa L' K' st' := fun l v hl2 L' K' k8 kl h8 hL st hS => by
      have hr := hs.range (l / 2).toNat
      dsimp only at hr
      have hgd : ((lits ++ [v]) ++ List.replicate ((n.kN + n.gates.xs.length) - (lits ++ [v]).length) 0).getD (l / 2).toNat 0 = lits.getD (l / 2).toNat 0 := by rw [getD_zeros, getD_snocI, if_pos (by omega)]
      have hLen : ((lits ++ [v]) ++ List.replicate ((n.kN + n.gates.xs.length) - (lits ++ [v]).length) 0).length = (n.kN + n.gates.xs.length) := by simp only [List.length_append, List.length_singleton, List.length_replicate]; omega
      have := run101 h101 k8 kl (l := l) (lits := (lits ++ [v]) ++ List.replicate ((n.kN + n.gates.xs.length) - (lits ++ [v]).length) 0) (by rw [hLen]; exact h8) hL ⟨hl2.1, by rw [hLen]; omega⟩ (by omega) (by rw [hgd]; omega) (by rw [hgd]; exact hev _) hS
      rw [atL_front (by omega)] at this
      exact this
    have hgm : G.map gateAV ++ [gateAV (atL lits n.gates.xs[j].1, atL lits n.gates.xs[j].2)] = (G ++ [(atL lits n.gates.xs[j].1, atL lits n.gates.xs[j].2)]).map gateAV := by rw [List.map_append]; rfl
    dsimp only [RSt.at, List.cons_append, List.nil_append]
    repeat' (first | (refine OS.do rfl ?_; first | refine OD.lookup (kp + 6) rfl rfl rfl hm (fun st hst => (lookI hst).trans (by rw [hwk, hme j hj])) ?_ | refine OD.indexAddr rfl rfl rfl hki ?_ | refine OD.auto rfl rfl ?_ | refine OD.loadP 1 rfl rfl rfl rfl rfl rfl ?_ | refine OD.len rfl rfl (fun _ => lenTy_av rfl rfl) ?_ | refine OD.indexAddr rfl rfl rfl (indexAddrA_nat rfl rfl rfl rfl (by first | assumption | exact List.getElem?_eq_getElem (by omega))) ?_ | refine OD.alloc rfl rfl rfl rfl (fun _ => ?_) | refine OD.storeW 0 rfl rfl rfl rfl (by first | rfl | exact net_ok _) rfl rfl rfl ?_ | refine OD.loadP 5 rfl rfl rfl rfl rfl rfl ?_ | refine OD.storeI 2 rfl rfl rfl rfl rfl (hzero hl (by omega)) ?_) | refine OS.nil ?_ | refine WS.seq ?_ | refine QS.seqN ?_ | refine WS.region ?_ | refine WS.skip ?_ | refine WS.condB rfl (fun _ => ?_) (fun _ => ?_))
    · rename_i hb
      try dsimp only [List.set_cons_zero, List.set_cons_succ]
      rw [hset _ hl (by omega), hw9]
      refine WS.drawY 10 [] (K := [(tg, !G.isEmpty)]) rfl rfl rfl rfl ?_; (repeat' (first | refine SegY.nil ?_ | refine SegY.loadP 3 rfl rfl rfl rfl rfl rfl rfl ?_ | refine SegY.callW (D := Unit) (fun _ => True) (fun _ => .int .i64 (atL lits n.gates.xs[j].1)) (fun _ => []) (fun _ => []) rfl rfl rfl rfl (fun st hS => (u101 _ _ ⟨g1, g2⟩ 1 2 rfl rfl st hS).mono fun r st' ⟨e, hs⟩ => ⟨(), st', trivial, by subst e; rfl, hs⟩) (fun _ _ => ?_) | refine SegY.callW (D := Unit) (fun _ => True) (fun _ => .int .i64 (atL lits n.gates.xs[j].2)) (fun _ => []) (fun _ => []) rfl rfl rfl rfl (fun st hS => (u101 _ _ ⟨g3, g4⟩ 1 2 rfl rfl st hS).mono fun r st' ⟨e, hs⟩ => ⟨(), st', trivial, by subst e; rfl, hs⟩) (fun _ _ => ?_) | refine SegY.auto rfl rfl rfl rfl ?_ | refine SegY.loadP 0 rfl rfl rfl rfl rfl rfl rfl ?_ | refine SegY.loadP 1 rfl rfl rfl rfl rfl rfl rfl ?_ | refine SegY.loadP 2 rfl rfl rfl rfl rfl rfl rfl ?_ | refine SegY.indexAddr rfl rfl rfl rfl rfl ?_))
      dsimp only [RSt.at, List.cons_append, List.nil_append]
      repeat' (first | (refine OS.do rfl ?_; first | refine OD.auto rfl rfl ?_ | (refine OD.append 0 (xs := G.map gateAV) (ys := [gateAV (atL lits n.gates.xs[j].1, atL lits n.gates.xs[j].2)]) rfl rfl rfl rfl (by rw [List.isEmpty_map]; rfl) rfl rfl rfl rfl rfl rfl (.inr ⟨⟨_, rfl⟩, rfl⟩) (fun _ => rfl) rfl rfl (roomB rfl (by simp only [List.length_map, List.length_singleton]; omega)) (fun t' => ?_); rw [hgm]) | (refine OD.storeG 3 rfl rfl rfl rfl rfl acc_ok1 (by rw [acc_cells]; rfl) (by rw [acc_cells]; rfl) ?_; rw [st_gK])) | refine OS.nil ?_)
      try dsimp only [List.set_cons_zero, List.set_cons_succ, List.cons_append, List.nil_append]
      rw [List.isEmpty_map]
      refine QS.rangeN ((t', lits ++ [2 * ((n.k0 + c + G.length : Nat) : Int)], G ++ [(atL lits n.gates.xs[j].1, atL lits n.gates.xs[j].2)])) (by (try dsimp only) <;> exact (by rw [selM_yes hj hA (by rw [hl, hk']) (by rw [← hk']; exact hb), hcnt])) (by (try dsimp only [RSt.at, List.cons_append, List.nil_append]); repeat' (first | exact Sub.nil _ | refine Sub.cons (congrArg (fun z => some (AV.int .i64 z)) (wrap_succ (by omega))) ?_ | refine Sub.cons rfl ?_)) (by (try dsimp only); exact SubO.drop (SubO.refl _)) (by (try dsimp only); repeat' (first | exact SubK.nil _ | exact SubK.refl _ | refine SubK.keep (by simp) ?_ | refine SubK.new ?_ | refine SubK.drop ?_))
    · rename_i hb
      rw [hskip hl (by omega)]
      refine QS.rangeN ((tg, lits ++ [0], G)) (by (try dsimp only) <;> exact (by rw [selM_no hj hA (by rw [hl, hk']) (by rw [← hk']; exact hb)])) (by (try dsimp only [RSt.at, List.cons_append, List.nil_append]); repeat' (first | exact Sub.nil _ | refine Sub.cons (congrArg (fun z => some (AV.int .i64 z)) (wrap_succ (by omega))) ?_ | refine Sub.cons rfl ?_)) (by (try dsimp only); exact SubO.drop (SubO.refl _)) (by (try dsimp only); repeat' (first | exact SubK.nil _ | exact SubK.refl _ | refine SubK.keep (by simp) ?_ | refine SubK.new ?_ | refine SubK.drop ?_))
  rintro ⟨tg, lits, G⟩ hA
  try dsimp only at hA
  rw [List.take_of_length_le (Nat.le_refl _)] at hA
  have hA : (lits, G) = keptS n keep := hA
  have hs := hsm n.gates.xs.length (Nat.le_refl _)
  rw [List.take_of_length_le (Nat.le_refl _), show selM n.k0 n.regs.xs.length keep n.gates.xs = (lits, G) from hA.symm] at hs
  have hev : evL lits := by
    have := selM_ev (k0 := n.k0) (nregs := n.regs.xs.length) (keep := keep) n.gates.xs n.gates.xs.length (Nat.le_refl _)
    rw [List.take_of_length_le (Nat.le_refl _), show selM n.k0 n.regs.xs.length keep n.gates.xs = (lits, G) from hA.symm] at this
    exact this
  have hLl := hs.len
  try dsimp only at hLl
  have hGl := hs.gates
  try dsimp only at hGl
  have hrow : (lits ++ List.replicate ((n.kN + n.gates.xs.length) - lits.length) 0) = lits := by rw [hLl, Nat.sub_self]; simp
  have u101 : ∀ (l : Int), 0 ≤ l ∧ l < 2 * (((n.kN + n.gates.xs.length) : Nat) : Int) → ∀ {L' : List (Nat × AObj)} {K' : List (Nat × Bool)} (k8 kl : Nat), L'[k8]? = some (b8, .row 1 [.sl 1 lb 0 (n.kN + n.gates.xs.length)]) → L'[kl]? = some (lb, .row 1 (lits.map halfAV)) → ∀ st, SFa L' K' st → CW (En pr) 101 [.int .i64 l, .ptr b8 0 0] st fun r st' => r = .int .i64 (atL lits l) ∧ SFa L' K' st' := fun l hl2 L' K' k8 kl h8 hL st hS => by
    have hr := hs.range (l / 2).toNat
    dsimp only at hr
    exact run101 h101 k8 kl (by rw [hLl]; exact h8) hL ⟨hl2.1, by omega⟩ (by omega) (by omega) (hev _) hS
  dsimp only [RSt.at, List.cons_append, List.nil_append]
  rw [hrow]
  repeat' (first | (refine OS.do rfl ?_; first | refine OD.auto rfl rfl ?_ | refine OD.len rfl rfl (fun _ => lenTy_av rfl rfl) ?_ | refine OD.loadP 4 rfl rfl rfl rfl rfl rfl ?_) | refine OS.nil ?_ | refine WS.seq ?_ | refine QS.seqN ?_ | refine WS.region ?_ | refine WS.block ?_)
  refine WS.newK ?_
  refine WS.range (A := Nat × List GReg) (n := n.regs.xs.length) ⟨116, _, fun _ => [], fun a => (b8, .row ty38.size [.sl ty3.size lb 0 (n.kN + n.gates.xs.length)]) :: (lb, .row ty3.size ((lits).map halfAV)) :: (b7, keptO (n.ins.av 1 strAV) (accA a.1 3 (a.2.map regAV)) (accA tg 2 (G.map gateAV)) (accA 0 2 (([] : List GPin).map pinAV))) :: (b6, .row ty27.size [ty27.zeroV]) :: (b3, .row ty27.size [netAV n]) :: L, fun a => [(a.1, !a.2.isEmpty)], fun i a => a.2 = (pickL n.k0 keep n.regs.xs i).map (withNext lits)⟩ ((0, [])) [1, 3, 6, 7, 11, 114, 115] (by rfl) (by omega) (by simp [pickL]) (by rfl) (by (try dsimp only); repeat' (first | exact Sub.nil _ | refine Sub.cons (congrArg (fun z => some (AV.int .i64 z)) (wrap_succ (by omega))) ?_ | refine Sub.cons rfl ?_)) (by (try dsimp only); repeat' (first | exact SubO.nil _ | exact SubO.refl _ | refine SubO.keep ?_ | refine SubO.drop ?_)) (by (try dsimp only); repeat' (first | exact SubK.nil _ | exact SubK.refl _ | refine SubK.keep (by simp) ?_ | refine SubK.new ?_ | refine SubK.drop ?_)) (by rfl) (by rfl) (by rfl) (by rfl) (by rfl) (by rfl) (fun _ _ => by rfl) (fun _ => by rfl) (fun _ _ => by rfl) (fun _ _ => by rfl) ?_ ?_
  · rintro i ⟨tr, R⟩ hi hR
    try dsimp only at hR
    have hRl : R.length ≤ i := by
      rw [hR, List.length_map, pickL_len _ (by omega)]; exact selRM_cnt _
    have hrn' := hrn _ (List.getElem_mem hi)
    have hkb : (kr.map boolAV)[i]? = some (.bool (keep.getD (n.k0 + i) false)) := by
      rw [List.getElem?_map, List.getElem?_eq_getElem (by omega), Option.map_some, hke i (by omega)]; rfl
    have hgm : R.map regAV ++ [regAV (withNext lits n.regs.xs[i])] = (R ++ [withNext lits n.regs.xs[i]]).map regAV := by rw [List.map_append]; rfl
    dsimp only [RSt.at, List.cons_append, List.nil_append]
    repeat' (first | (refine OS.do rfl ?_; first | refine OD.loadP (kk + 6) rfl rfl hk hkb rfl rfl ?_ | refine OD.loadP 0 rfl rfl rfl rfl rfl rfl ?_ | refine OD.auto rfl rfl ?_ | refine OD.indexAddr rfl rfl rfl (indexAddrA_nat rfl rfl rfl rfl (by first | assumption | exact List.getElem?_eq_getElem (by omega))) ?_ | refine OD.alloc rfl rfl rfl rfl (fun _ => ?_) | refine OD.storeW 0 rfl rfl rfl rfl (by first | rfl | exact net_ok _) rfl rfl rfl ?_ | refine OD.loadP 3 rfl rfl rfl rfl rfl rfl ?_ | refine OD.indexAddr rfl rfl rfl (indexAddrA_sl rfl rfl rfl rfl (by omega)) ?_ | (refine OD.callP (fun v => v = .int .i64 (atL lits n.regs.xs[i].next)) rfl rfl rfl (fun st hS => u101 _ hrn' 1 2 rfl rfl st hS) (by rintro v st rfl; rfl) ?_; rintro v rfl) | (refine OD.append 0 (xs := R.map regAV) (ys := [regAV (withNext lits n.regs.xs[i])]) rfl rfl rfl rfl (by rw [List.isEmpty_map]; rfl) rfl rfl rfl rfl rfl rfl (.inr ⟨⟨_, rfl⟩, rfl⟩) (fun _ => rfl) rfl rfl (roomB rfl (by simp only [List.length_map, List.length_singleton]; omega)) (fun t' => ?_); rw [hgm]) | (refine OD.storeG 3 rfl rfl rfl rfl rfl acc_ok1 (by rw [acc_cells]; rfl) (by rw [acc_cells]; rfl) ?_; rw [st_rA]) | refine OD.storeG 0 rfl rfl rfl rfl rfl rfl rfl rfl ?_) | refine OS.nil ?_ | refine WS.seq ?_ | refine QS.seqN ?_ | refine WS.region ?_ | refine WS.skip ?_ | refine WS.condB rfl (fun _ => ?_) (fun _ => ?_))
    · rename_i hb
      try dsimp only [List.set_cons_zero, List.set_cons_succ, List.cons_append, List.nil_append]
      rw [List.isEmpty_map]
      refine QS.rangeN ((t', R ++ [withNext lits n.regs.xs[i]])) (by (try dsimp only) <;> exact (by rw [pickL_succ hi, if_pos hb, List.map_append, hR]; rfl)) (by (try dsimp only [RSt.at, List.cons_append, List.nil_append]); repeat' (first | exact Sub.nil _ | refine Sub.cons (congrArg (fun z => some (AV.int .i64 z)) (wrap_succ (by omega))) ?_ | refine Sub.cons rfl ?_)) (by (try dsimp only); exact SubO.drop (SubO.refl _)) (by (try dsimp only); repeat' (first | exact SubK.nil _ | exact SubK.refl _ | refine SubK.keep (by simp) ?_ | refine SubK.new ?_ | refine SubK.drop ?_))
    · rename_i hb
      refine QS.rangeN ((tr, R)) (by (try dsimp only) <;> exact (by rw [pickL_succ hi, if_neg (by rw [hb]; simp), hR])) (by (try dsimp only [RSt.at, List.cons_append, List.nil_append]); repeat' (first | exact Sub.nil _ | refine Sub.cons (congrArg (fun z => some (AV.int .i64 z)) (wrap_succ (by omega))) ?_ | refine Sub.cons rfl ?_)) (by (try dsimp only); exact SubO.drop (SubO.refl _)) (by (try dsimp only); repeat' (first | exact SubK.nil _ | exact SubK.refl _ | refine SubK.keep (by simp) ?_ | refine SubK.new ?_ | refine SubK.drop ?_))
  rintro ⟨tr, R⟩ hR
  try dsimp only at hR
  have hR : R = (keptRegs n keep).map (withNext lits) := hR
  dsimp only [RSt.at, List.cons_append, List.nil_append]
  repeat' (first | (refine OS.do rfl ?_; first | refine OD.auto rfl rfl ?_ | refine OD.len rfl rfl (fun _ => lenTy_av rfl rfl) ?_ | refine OD.loadP 4 rfl rfl rfl rfl rfl rfl ?_) | refine OS.nil ?_ | refine WS.seq ?_ | refine QS.seqN ?_ | refine WS.region ?_ | refine WS.block ?_)
  refine WS.newK ?_
  refine WS.range (A := Nat × List GPin) (n := n.outs.xs.length) ⟨140, _, fun _ => [], fun a => (b8, .row ty38.size [.sl ty3.size lb 0 (n.kN + n.gates.xs.length)]) :: (lb, .row ty3.size ((lits).map halfAV)) :: (b7, keptO (n.ins.av 1 strAV) (accA tr 3 (R.map regAV)) (accA tg 2 (G.map gateAV)) (accA a.1 2 (a.2.map pinAV))) :: (b6, .row ty27.size [ty27.zeroV]) :: (b3, .row ty27.size [netAV n]) :: L, fun a => [(a.1, !a.2.isEmpty)], fun i a => a.2 = (n.outs.xs.take i).map (withLit lits)⟩ ((0, [])) [6, 7, 11, 138, 139] (by rfl) (by omega) (rfl) (by rfl) (by (try dsimp only); repeat' (first | exact Sub.nil _ | refine Sub.cons (congrArg (fun z => some (AV.int .i64 z)) (wrap_succ (by omega))) ?_ | refine Sub.cons rfl ?_)) (by (try dsimp only); repeat' (first | exact SubO.nil _ | exact SubO.refl _ | refine SubO.keep ?_ | refine SubO.drop ?_)) (by (try dsimp only); repeat' (first | exact SubK.nil _ | exact SubK.refl _ | refine SubK.keep (by simp) ?_ | refine SubK.new ?_ | refine SubK.drop ?_)) (by rfl) (by rfl) (by rfl) (by rfl) (by rfl) (by rfl) (fun _ _ => by rfl) (fun _ => by rfl) (fun _ _ => by rfl) (fun _ _ => by rfl) ?_ ?_
  · rintro i ⟨tp, P⟩ hi hP
    try dsimp only at hP
    have hol' := hol _ (List.getElem_mem hi)
    have hPl : P.length = i := by rw [hP, List.length_map, List.length_take]; omega
    have hgm : P.map pinAV ++ [pinAV (withLit lits n.outs.xs[i])] = (P ++ [withLit lits n.outs.xs[i]]).map pinAV := by rw [List.map_append]; rfl
    dsimp only [RSt.at, List.cons_append, List.nil_append]
    repeat' (first | (refine OS.do rfl ?_; first | refine OD.auto rfl rfl ?_ | refine OD.indexAddr rfl rfl rfl (indexAddrA_nat rfl rfl rfl rfl (by first | assumption | exact List.getElem?_eq_getElem (by omega))) ?_ | refine OD.alloc rfl rfl rfl rfl (fun _ => ?_) | refine OD.storeW 0 rfl rfl rfl rfl (by first | rfl | exact net_ok _) rfl rfl rfl ?_) | refine OS.nil ?_ | refine WS.seq ?_ | refine QS.seqN ?_ | refine WS.region ?_)
    refine WS.drawY 8 [] (K := [(tp, !P.isEmpty)]) rfl rfl rfl rfl ?_; (repeat' (first | refine SegY.nil ?_ | refine SegY.loadP 3 rfl rfl rfl rfl rfl rfl rfl ?_ | refine SegY.auto rfl rfl rfl rfl ?_ | refine SegY.loadP 0 rfl rfl rfl rfl rfl rfl rfl ?_ | refine SegY.loadP 1 rfl rfl rfl rfl rfl rfl rfl ?_ | refine SegY.loadP 2 rfl rfl rfl rfl rfl rfl rfl ?_ | refine SegY.indexAddr rfl rfl rfl rfl rfl ?_ | refine SegY.callW (D := Unit) (fun _ => True) (fun _ => .int .i64 (atL lits n.outs.xs[i].lit)) (fun _ => []) (fun _ => []) rfl rfl rfl rfl (fun st hS => (u101 _ hol' 1 2 rfl rfl st hS).mono fun r st' ⟨e, hs⟩ => ⟨(), st', trivial, by subst e; rfl, hs⟩) (fun _ _ => ?_)))
    dsimp only [RSt.at, List.cons_append, List.nil_append]
    repeat' (first | (refine OS.do rfl ?_; first | refine OD.auto rfl rfl ?_ | (refine OD.append 0 (xs := P.map pinAV) (ys := [pinAV (withLit lits n.outs.xs[i])]) rfl rfl rfl rfl (by rw [List.isEmpty_map]; rfl) rfl rfl rfl rfl rfl rfl (.inr ⟨⟨_, rfl⟩, rfl⟩) (fun _ => rfl) rfl rfl (roomB rfl (by simp only [List.length_map, List.length_singleton]; omega)) (fun t' => ?_); rw [hgm]) | (refine OD.storeG 3 rfl rfl rfl rfl rfl acc_ok1 (by rw [acc_cells]; rfl) (by rw [acc_cells]; rfl) ?_; rw [st_oK])) | refine OS.nil ?_)
    try dsimp only [List.set_cons_zero, List.set_cons_succ, List.cons_append, List.nil_append]
    rw [List.isEmpty_map]
    refine QS.rangeN ((t', P ++ [withLit lits n.outs.xs[i]])) (by (try dsimp only) <;> exact (by rw [map_take_succ hi, hP])) (by (try dsimp only [RSt.at, List.cons_append, List.nil_append]); repeat' (first | exact Sub.nil _ | refine Sub.cons (congrArg (fun z => some (AV.int .i64 z)) (wrap_succ (by omega))) ?_ | refine Sub.cons rfl ?_)) (by (try dsimp only); exact SubO.drop (SubO.refl _)) (by (try dsimp only); repeat' (first | exact SubK.nil _ | exact SubK.refl _ | refine SubK.keep (by simp) ?_ | refine SubK.new ?_ | refine SubK.drop ?_))
  rintro ⟨tp, P⟩ hP
  try dsimp only at hP
  rw [List.take_of_length_le (Nat.le_refl _)] at hP
  dsimp only [RSt.at, List.cons_append, List.nil_append]
  have hmN : netAV (onlyN n keep) = .agg [n.ins.av 1 strAV, (GSl.of R).av 3 regAV, (GSl.of G).av 2 gateAV, (GSl.of P).av 2 pinAV] := by
    unfold onlyN; rw [← hA, ← hR, hP]; rfl
  repeat' (first | (refine OS.do rfl ?_; first | refine OD.storeW 3 rfl rfl rfl rfl (ok4 (av_cellOk _ _ _) acc_cell acc_cell acc_cell) rfl rfl rfl ?_ | refine OD.loadP 2 rfl rfl rfl rfl rfl rfl ?_) | refine OS.nil ?_ | refine WS.seq ?_ | refine QS.seqN ?_ | refine WS.region ?_ | refine WS.ret ?_)
  refine QS.retO (ResO.cell 3 (by rfl) (by rfl) (by rfl) (by rfl) (by rfl) .nil) fun st hs => ⟨⟨?_, ?_⟩, hs.noK.subO (.drop (.drop (.drop (.drop (.drop (.refl _))))))⟩
  · show AV.free (.agg [n.ins.av 1 strAV, accA tr 3 (R.map regAV), accA tg 2 (G.map gateAV), accA tp 2 (P.map pinAV)]) = true
    simp only [AV.free, AV.freeL, free_av str_free, free_acc reg_free, free_acc gate_free, free_acc pin_free, Bool.and_true]
  · rw [hmN]
    show AV.plain (.agg [n.ins.av 1 strAV, accA tr 3 (R.map regAV), accA tg 2 (G.map gateAV), accA tp 2 (P.map pinAV)]) = _
    simp only [AV.plain, AV.plainL, plain_av str_plain, plain_acc reg_plain, plain_acc gate_plain, plain_acc pin_plain]
end
end Go.OptEnv

/- Needed, of the program. -/
namespace Go.OptEnv
open Go Go.Proofs Go.Abs Go.RowKit Go.NetM
set_option maxRecDepth 10000
theorem lenTy_cut {E : Env} {sz b len : Nat} {xs : List AV} {t e : TypeId} {y : Ty} {st : St} (h1 : E.ty t = some y) (h2 : y.d = .slice e) (h : len ≤ xs.length) : lenTy E st t (cutV sz b len xs) = some (.int .i64 (len : Int)) := by
  cases xs with
  | nil =>
    have : len = 0 := Nat.le_zero.1 h
    subst this
    unfold lenTy; rw [h1]; dsimp only; rw [h2]; rfl
  | cons x xs => unfold lenTy; rw [h1]; dsimp only; rw [h2]; rfl
theorem slice_cut {pr : Prims} {b len : Nat} {v : Int} (hv : v = ((len - 1 : Nat) : Int)) : sliceA (En pr) 38 (.sl ty3.size b 0 len) none (some (.int .i64 v)) none = some (.sl ty3.size b 0 (len - 1)) := by
  subst hv
  have e : cutA len none (some (.int .i64 ((len - 1 : Nat) : Int))) none = some (0, len - 1, false) := by
    unfold cutA optNat asNat
    dsimp only
    rw [if_pos (by omega)]
    simp
  show (match cutA len none (some (.int .i64 ((len - 1 : Nat) : Int))) none with
    | some (l, h, _) => some (AV.sl ty3.size b (0 + l) (h - l))
    | none => none) = _
  rw [e]
  simp
noncomputable def needP (n : GNet) : GNet := if validM (onlyN (foldN n) (needN (foldN n))) = true then foldN (onlyN (foldN n) (needN (foldN n))) else nilN
/-- What has been done on the way. -/
structure Way (n : GNet) where
  b : Nat
  X : List Int
  len : Nat
  met : List Int
  kr : List Bool
structure WayOk (n : GNet) (w : Way n) : Prop where
  le : w.len ≤ w.X.length
  op : NetM.Open n.k0 n.kN n.gates.xs n.nexts n.olits w.met (w.X.take w.len)
  kl : w.kr.length = n.regs.xs.length
  kr : ∀ (i : Nat) (h : i < w.kr.length), w.kr[i] = decide (((n.k0 + i : Nat) : Int) ∈ w.met)
  few : w.len ≤ n.outs.xs.length + 2 * w.met.length
theorem way_begin {m : GNet} (hV : validM m = true) {b : Nat} {O : List Int} (hO : O = m.olits) : WayOk m ⟨b, O, O.length, [], List.replicate m.regs.xs.length false⟩ := by
  obtain ⟨_, _, hol⟩ := valid_lits hV
  have hl : ∀ l ∈ O, 0 ≤ l ∧ l < 2 * ((m.kN + m.gates.xs.length : Nat) : Int) := fun l hl => by
    rw [hO] at hl
    obtain ⟨p, hp, rfl⟩ := List.mem_map.1 hl
    exact hol p hp
  refine ⟨Nat.le_refl _, ?_, by simp, fun i h => by simp, ?_⟩
  · show NetM.Open _ _ _ _ _ [] (O.take O.length)
    rw [List.take_of_length_le (Nat.le_refl _)]
    refine ⟨(fun _ h => by cases h), fun l h => .out (by rw [← hO]; exact h), hl, fun l h => .inr ⟨l, by rw [hO]; exact h, rfl⟩, (fun _ _ h => by cases h), (fun _ _ h => by cases h), .nil, (fun _ h => by cases h)⟩
  · show O.length ≤ m.outs.xs.length + 2 * 0
    rw [hO]; unfold GNet.olits; simp
theorem way_gate {m : GNet} (hV : validM m = true) {met op : List Int} {x : Int} {i : Nat} (h : NetM.Open m.k0 m.kN m.gates.xs m.nexts m.olits met (op ++ [x])) (hm : x / 2 ∉ met) (hil : i < m.gates.xs.length) (hi : x / 2 = ((m.kN + i : Nat) : Int)) : NetM.Open m.k0 m.kN m.gates.xs m.nexts m.olits (met ++ [x / 2]) (op ++ [m.gates.xs[i].1, m.gates.xs[i].2]) := by
  obtain ⟨hgo, _, _⟩ := valid_lits hV
  obtain ⟨⟨g1, g2⟩, g3, g4⟩ := hgo i hil
  have hN := h.openS x (by simp)
  rw [hi, Int.toNat_natCast] at hN
  have hk' : m.kN = m.k0 + m.regs.xs.length := rfl
  refine h.meet hm (fun y hy => ?_) (fun j hj e => ?_) (fun j hj e => ?_)
  · simp only [List.mem_cons, List.not_mem_nil, or_false] at hy
    rcases hy with rfl | rfl
    · exact ⟨.g1 hil hN, g1, by omega⟩
    · exact ⟨.g2 hil hN, g3, by omega⟩
  · have : j = i := by omega
    subst this
    simp
  · have hj : j < m.regs.xs.length := by unfold GNet.nexts at hj; simpa using hj
    omega
theorem way_reg {m : GNet} (hV : validM m = true) {met op : List Int} {x : Int} {i : Nat} (h : NetM.Open m.k0 m.kN m.gates.xs m.nexts m.olits met (op ++ [x])) (hm : x / 2 ∉ met) (hil : i < m.regs.xs.length) (hi : x / 2 = ((m.k0 + i : Nat) : Int)) : NetM.Open m.k0 m.kN m.gates.xs m.nexts m.olits (met ++ [x / 2]) (op ++ [m.regs.xs[i].next]) := by
  obtain ⟨_, hrn, _⟩ := valid_lits hV
  have hr := hrn _ (List.getElem_mem hil)
  have hN := h.openS x (by simp)
  rw [hi, Int.toNat_natCast] at hN
  have hk' : m.kN = m.k0 + m.regs.xs.length := rfl
  have hl : i < m.nexts.length := by unfold GNet.nexts; simpa using hil
  have e : m.nexts[i] = m.regs.xs[i].next := List.getElem_map _
  refine h.meet hm (fun y hy => ?_) (fun j hj c => ?_) (fun j hj c => ?_)
  · rw [List.mem_singleton.1 hy]
    have := Nd.reg (gs := m.gates.xs) (outs := m.olits) (k := m.kN) hl hN
    rw [e] at this
    exact ⟨this, hr⟩
  · omega
  · have : j = i := by omega
    subst this
    rw [e]; simp
theorem way_none {m : GNet} {met op : List Int} {x : Int} (h : NetM.Open m.k0 m.kN m.gates.xs m.nexts m.olits met (op ++ [x])) (hm : x / 2 ∉ met) (hi : x / 2 < (m.k0 : Int)) : NetM.Open m.k0 m.kN m.gates.xs m.nexts m.olits (met ++ [x / 2]) op := by
  have hk' : m.kN = m.k0 + m.regs.xs.length := rfl
  have := h.meet (kids := []) hm (fun y hy => by cases hy) (fun j hj e => by omega) (fun j hj e => by omega)
  rwa [List.append_nil] at this
theorem way_kr {k0 : Nat} {kr : List Bool} {met : List Int} {y : Int} (w : ∀ (i : Nat) (h : i < kr.length), kr[i] = decide (((k0 + i : Nat) : Int) ∈ met)) (hy : ∀ i, i < kr.length → ((k0 + i : Nat) : Int) ≠ y) : ∀ (i : Nat) (h : i < kr.length), kr[i] = decide (((k0 + i : Nat) : Int) ∈ met ++ [y]) := fun i h => by
  rw [w i h]
  by_cases c : ((k0 + i : Nat) : Int) ∈ met
  · rw [decide_eq_true c, decide_eq_true (List.mem_append_left _ c)]
  · rw [decide_eq_false c, decide_eq_false (fun d => (List.mem_append.1 d).elim c fun d => hy i h (List.mem_singleton.1 d))]
theorem way_krs {k0 : Nat} {kr : List Bool} {met : List Int} {y : Int} {j : Nat} (w : ∀ (i : Nat) (h : i < kr.length), kr[i] = decide (((k0 + i : Nat) : Int) ∈ met)) (hy : y = ((k0 + j : Nat) : Int)) : ∀ (i : Nat) (h : i < (kr.set j true).length), (kr.set j true)[i] = decide (((k0 + i : Nat) : Int) ∈ met ++ [y]) := fun i h => by
  rw [List.length_set] at h
  rw [List.getElem_set]
  by_cases e : j = i
  · subst e
    rw [if_pos rfl, decide_eq_true (by rw [hy]; simp)]
  · rw [if_neg e, w i h]
    by_cases c : ((k0 + i : Nat) : Int) ∈ met
    · rw [decide_eq_true c, decide_eq_true (List.mem_append_left _ c)]
    · rw [decide_eq_false c, decide_eq_false (fun d => (List.mem_append.1 d).elim c fun d => by have := List.mem_singleton.1 d; omega)]
theorem way_end {m : GNet} (hV : validM m = true) {met : List Int} (h : NetM.Open m.k0 m.kN m.gates.xs m.nexts m.olits met []) (j : Nat) (hj : j < m.kN + m.gates.xs.length) : decide (((j : Nat) : Int) ∈ met) = (needN m).getD j false := by
  obtain ⟨hgo, hrn, hol⟩ := valid_lits hV
  have hd := h.done (fun l hl => by
    obtain ⟨p, hp, rfl⟩ := List.mem_map.1 hl
    exact (hol p hp).1) (fun g hg => by
    obtain ⟨i, hi, rfl⟩ := List.getElem_of_mem hg
    obtain ⟨⟨g1, g2⟩, g3, g4⟩ := hgo i hi
    exact ⟨g1, g3⟩) (fun l hl => by
    obtain ⟨r, hr, rfl⟩ := List.mem_map.1 hl
    exact (hrn r hr).1) j
  have hg := needL_get (k0 := m.k0) (k := m.kN) (gs := m.gates.xs) (nexts := m.nexts) (outs := m.olits) hj
  have e := hd.trans hg.symm
  show _ = (needL m.k0 m.kN m.gates.xs m.nexts m.olits).getD j false
  by_cases c : ((j : Nat) : Int) ∈ met
  · rw [decide_eq_true c, e.1 c]
  · rw [decide_eq_false c]
    cases h : (needL m.k0 m.kN m.gates.xs m.nexts m.olits).getD j false with
    | false => rfl
    | true => exact absurd (e.2 h) c
theorem res_split (n x : GNet) : ∃ c, resAV n x = .tup [netAV (if validM n = true then x else nilN), .int .i64 c] := by
  rcases (Bool.eq_false_or_eq_true (validM n)).symm with hV | hV
  · rw [if_neg (by rw [hV]; simp), res_no hV]; exact ⟨_, rfl⟩
  · rw [if_pos hV, res_yes hV]; exact ⟨_, rfl⟩
attribute [local irreducible] WS QS OS OD Abs.Sub SubO SubK CW GSl.av accA growA
section
variable {pr : Prims} {L : List (Nat × AObj)} {K : List (Nat × Bool)} {st : St}
set_option maxHeartbeats 4000000 in
theorem run19 (h1 : pr 19 = none) (h17 : Has pr 17 Rel17) (h54 : pr 54 = none) (h101 : pr 101 = none) (n : GNet) (hn : FitsN n) (st : St) : CW (En pr) 19 [netAV n] st fun r _ => AV.free r = true ∧ AV.plain r = resAV n (needP n) := by
  have u17 := use17 h17 hn
  rcases (Bool.eq_false_or_eq_true (validM n)).symm with hV | hV
  · rw [res_no hV] at u17
    refine CW.start (N := 115) h1 rfl rfl ?_
    repeat' (first | (refine OS.do rfl ?_; first | refine OD.box rfl rfl rfl rfl (net_ok _) rfl (fun b1 => ?_) | refine OD.auto rfl rfl ?_ | refine OD.loadP 1 rfl rfl rfl rfl rfl rfl ?_ | refine OD.alloc rfl rfl rfl rfl (fun _ => ?_) | refine OD.storeW 0 rfl rfl rfl rfl (by first | rfl | exact net_ok _) rfl rfl rfl ?_ | refine OD.storeW 1 rfl rfl rfl rfl (by first | rfl | exact net_ok _) rfl rfl rfl ?_ | refine OD.call rfl rfl rfl h17.eq u17 (fun _ => rfl) ?_) | refine OS.nil ?_ | refine WS.seq ?_ | refine QS.seqN ?_ | refine WS.region ?_ | refine WS.condT rfl ?_ | refine WS.ret ?_ | refine QS.seqR ?_)
    refine QS.retO (ResO.cell 0 (by rfl) (by rfl) (by rfl) (by rfl) (by rfl) (.tmp (by rfl) .nil)) fun st hs => ⟨rfl, ?_⟩
    rw [res_no hV]; rfl
  · have hVm := fold_valid hV
    have hnm := fold_fits hV hn
    rw [res_yes hV] at u17
    obtain ⟨m, hmm⟩ : ∃ m, m = foldN n := ⟨_, rfl⟩
    rw [← hmm] at u17 hVm hnm
    obtain ⟨f1, f2, f3, f4⟩ := valid_len hVm
    obtain ⟨hgo, hrn, hol⟩ := valid_lits hVm
    have hk1 : 1 ≤ m.kN ∧ m.kN ≤ 2001 := by unfold GNet.kN; omega
    have hk0 : (m.k0 : Int) = 1 + m.ins.xs.length := by unfold GNet.k0; omega
    have hk' : m.kN = m.k0 + m.regs.xs.length := rfl
    have hw0 : IntKind.i64.wrap (1 + (m.ins.xs.length : Int)) = (m.k0 : Int) := by rw [wrap64 (by omega) (by omega)]; omega
    have z : ∀ (m : GNet) (st : St), freezeA st (.tup [netAV m, .int .i64 0]) = some (.tup [netAV m, .int .i64 0], st) := fun m st => freeze_free (by simp [AV.free, AV.freeL, net_free])
    refine CW.start (N := 115) h1 rfl rfl ?_
    repeat' (first | (refine OS.do rfl ?_; first | refine OD.box rfl rfl rfl rfl (net_ok _) rfl (fun b1 => ?_) | refine OD.storeW 1 rfl rfl rfl rfl (net_ok _) rfl rfl rfl ?_ | refine OD.auto rfl rfl ?_ | refine OD.loadP 1 rfl rfl rfl rfl rfl rfl ?_ | refine OD.len rfl rfl (fun _ => lenTy_av rfl rfl) ?_ | refine OD.alloc rfl rfl rfl rfl (fun _ => ?_) | refine OD.makeMap rfl rfl rfl (fun _ => ?_) | refine OD.call rfl rfl rfl h17.eq u17 (z _) ?_ | refine OD.makeSlice (n := m.regs.xs.length) rfl rfl rfl rfl rfl rfl rfl rfl (roomB rfl (by omega)) (fun kb => ?_) | refine OD.loadP 3 rfl rfl rfl rfl rfl rfl ?_) | refine OS.nil ?_ | refine WS.seq ?_ | refine QS.seqN ?_ | refine WS.region ?_ | refine WS.condF rfl ?_ | refine WS.skip ?_ | refine WS.block ?_)
    rename_i b2 mb
    rw [hw0]
    refine WS.range (A := Nat × List Int) (n := m.outs.xs.length) ⟨35, _, fun a => [(8, slR 1 a.1 (a.2.map intAV))], fun a => [(mb, .map 3 4 (entsI [])), (kb, .row ty4.size (List.replicate m.regs.xs.length ty4.zeroV)), (b2, .row ty27.size [ty27.zeroV]), (b1, .row ty27.size [netAV m])] ++ slO 1 a.1 (a.2.map intAV), fun _ => [], fun i a => a.2 = (m.outs.xs.take i).map (·.lit)⟩ ((0, [])) [1, 2, 5, 6, 7, 33, 34] (by rfl) (by omega) (rfl) (by rfl) (by (try dsimp only); repeat' (first | exact Sub.nil _ | refine Sub.cons (congrArg (fun z => some (AV.int .i64 z)) (wrap_succ (by omega))) ?_ | refine Sub.cons rfl ?_)) (by (try dsimp only); repeat' (first | exact SubO.nil _ | exact SubO.refl _ | refine SubO.keep ?_ | refine SubO.drop ?_)) (by (try dsimp only); repeat' (first | exact SubK.nil _ | exact SubK.refl _ | refine SubK.keep (by simp) ?_ | refine SubK.new ?_ | refine SubK.drop ?_)) (by rfl) (by rfl) (by rfl) (by rfl) (by rfl) (by rfl) (fun _ _ => by rfl) (fun _ => by rfl) (fun _ _ => by rfl) (fun _ _ => by rfl) ?_ ?_
    · rintro i ⟨b, O⟩ hi hO
      try dsimp only at hO
      have hOl : O.length = i := by rw [hO, List.length_map, List.length_take]; omega
      have hgm : O.map intAV ++ [.int .i64 m.outs.xs[i].lit] = (O ++ [m.outs.xs[i].lit]).map intAV := by rw [List.map_append]; rfl
      dsimp only [RSt.at, List.cons_append, List.nil_append]
      repeat' (first | (refine OS.do rfl ?_; first | refine OD.loadP 0 rfl rfl rfl rfl rfl rfl ?_ | refine OD.auto rfl rfl ?_ | refine OD.indexAddr rfl rfl rfl (indexAddrA_nat rfl rfl rfl rfl (by first | assumption | exact List.getElem?_eq_getElem (by omega))) ?_ | refine OD.alloc rfl rfl rfl rfl (fun _ => ?_) | refine OD.storeW 0 rfl rfl rfl rfl (by first | rfl | exact net_ok _) rfl rfl rfl ?_ | (refine OD.appendR (L := [_, _, _, _, _]) (y := .int .i64 m.outs.xs[i].lit) rfl rfl rfl rfl rfl rfl rfl rfl rfl rfl ⟨⟨_, rfl⟩, rfl⟩ (fun _ => rfl) rfl rfl (roomB rfl (by simp only [List.length_map]; omega)) (fun b' => ?_); rw [hgm])) | refine OS.nil ?_ | refine WS.seq ?_ | refine QS.seqN ?_ | refine WS.region ?_)
      refine QS.rangeN ((b', O ++ [m.outs.xs[i].lit])) (by (try dsimp only) <;> exact (by rw [map_take_succ hi, hO])) (by (try dsimp only [RSt.at, List.cons_append, List.nil_append]); repeat' (first | exact Sub.nil _ | refine Sub.cons (congrArg (fun z => some (AV.int .i64 z)) (wrap_succ (by omega))) ?_ | refine Sub.cons rfl ?_)) (by (try dsimp only); exact SubO.drop (SubO.refl _)) (by (try dsimp only); repeat' (first | exact SubK.nil _ | exact SubK.refl _ | refine SubK.keep (by simp) ?_ | refine SubK.new ?_ | refine SubK.drop ?_))
    rintro ⟨b, O⟩ hO
    try dsimp only at hO
    rw [List.take_of_length_le (Nat.le_refl _)] at hO
    have hO : O = m.olits := hO
    dsimp only [RSt.at, List.cons_append, List.nil_append]
    repeat' (first | refine WS.seq ?_ | refine QS.seqN ?_ | refine WS.block ?_)
    rw [cutV_all, List.length_map, show List.replicate m.regs.xs.length ty4.zeroV = (List.replicate m.regs.xs.length false).map boolAV from rep_bool _]
    refine WS.loopK (D := Way m) [1, 2, 5, 6, 7] (by rfl) (fun w => [(8, cutV 1 w.b w.len (w.X.map intAV))]) (fun w => (mb, .map 3 4 (entsI w.met)) :: (kb, .row ty4.size (w.kr.map boolAV)) :: (b2, .row ty27.size [ty27.zeroV]) :: (b1, .row ty27.size [netAV m]) :: slO 1 w.b (w.X.map intAV)) (fun _ => []) (fun w => WayOk m w) (fun w => 3 * (m.kN + m.gates.xs.length - w.met.length) + w.len) (⟨b, O, O.length, [], List.replicate m.regs.xs.length false⟩) (way_begin hVm hO) (by (try dsimp only); repeat' (first | exact Sub.nil _ | refine Sub.cons (congrArg (fun z => some (AV.int .i64 z)) (wrap_succ (by omega))) ?_ | refine Sub.cons rfl ?_)) (by (try dsimp only); repeat' (first | exact SubO.nil _ | exact SubO.refl _ | refine SubO.keep ?_ | refine SubO.drop ?_)) (by (try dsimp only); repeat' (first | exact SubK.nil _ | exact SubK.refl _ | refine SubK.keep (by simp) ?_ | refine SubK.new ?_ | refine SubK.drop ?_)) ?_
    rintro ⟨b, X, len, met, kr⟩ ⟨w1, w2, w3, w4, w5⟩
    try dsimp only at w1 w2 w3 w4 w5
    have hml : met.length ≤ m.kN + m.gates.xs.length := met_len w2.nodup w2.range
    dsimp only [RSt.at, List.cons_append, List.nil_append]
    by_cases h0 : len = 0
    · subst h0
      have hend := way_end hVm (met := met) w2
      have hke : ∀ (i : Nat) (h : i < kr.length), kr[i] = (needN m).getD (m.k0 + i) false := fun i h => by rw [w4 i h]; exact hend _ (by omega)
      have hme : ∀ i, i < m.gates.xs.length → decide (((m.kN + i : Nat) : Int) ∈ met) = (needN m).getD (m.kN + i) false := fun i h => hend _ (by omega)
      obtain ⟨c, hc⟩ := res_split (onlyN m (needN m)) (foldN (onlyN m (needN m)))
      have hP : (if validM (onlyN m (needN m)) = true then foldN (onlyN m (needN m)) else nilN) = needP n := by rw [hmm]; rfl
      rw [hP] at hc
      have u2 : ∀ {v : AV}, AV.plain v = netAV (onlyN m (needN m)) → ∀ st, primOf Rel17 [v] st = some (.tup [netAV (needP n), .int .i64 c], st) := fun hv st => hc ▸ h17.use ⟨onlyN m (needN m), (only_same m (needN m)).fits (kept_fits hVm hnm), by simp [AV.plainL, hv], rfl⟩ st
      have z2 : ∀ (q : GNet) (st : St), freezeA st (.tup [netAV q, .int .i64 c]) = some (.tup [netAV q, .int .i64 c], st) := fun q st => freeze_free (by simp [AV.free, AV.freeL, net_free])
      repeat' (first | (refine OS.do rfl ?_; first | refine OD.len rfl rfl (fun _ => lenTy_cut rfl rfl (Nat.zero_le _)) ?_ | refine OD.storeW 0 rfl rfl rfl rfl (net_ok _) rfl rfl rfl ?_ | refine OD.loadP 0 rfl rfl rfl rfl rfl rfl ?_ | refine OD.auto rfl rfl ?_ | refine OD.alloc rfl rfl rfl rfl (fun _ => ?_) | refine OD.loadP 3 rfl rfl rfl rfl rfl rfl ?_ | (refine OD.callZ (D := AV) (fun v => AV.free v = true ∧ AV.plain v = netAV (onlyN m (needN m))) (fun v => v) (fun _ => (mb, .map 3 4 (entsI met)) :: (kb, .row ty4.size (kr.map boolAV)) :: (b2, .row ty27.size [ty27.zeroV]) :: (b1, .row ty27.size [netAV m]) :: slO 1 b (X.map intAV)) (fun _ => []) rfl rfl rfl rfl (fun st hS => (run54 h54 h101 1 0 rfl rfl m hVm hnm (needN m) w3 hke hme hS).mono fun r st' ⟨⟨e1, e2⟩, hs⟩ => ⟨r, st', ⟨e1, e2⟩, freeze_free e1, hs⟩) ?_; rintro v ⟨v1, v2⟩) | refine OD.call rfl rfl rfl h17.eq (u2 v2) (z2 _) ?_ | refine OD.storeW 3 rfl rfl rfl rfl (net_ok _) rfl rfl rfl ?_) | refine OS.nil ?_ | refine WS.seq ?_ | refine QS.seqN ?_ | refine WS.region ?_ | refine WS.condF rfl ?_ | refine WS.ret ?_ | refine WS.exit ?_ | refine QS.seqE ?_ | refine QS.blockH ?_ | refine QS.loopE ?_)
      refine QS.retO (ResO.cell 3 (by rfl) (by rfl) (by rfl) (by rfl) (by rfl) (.tmp (by rfl) .nil)) fun st hs => ?_
      rw [res_yes hV]
      exact ⟨by show AV.free (.tup [netAV (needP n), .int .i64 0]) = true; simp [AV.free, AV.freeL, net_free], by show AV.plain (.tup [netAV (needP n), .int .i64 0]) = _; simp only [AV.plain, AV.plainL, net_plain]⟩
    obtain ⟨k, rfl⟩ : ∃ k, len = k + 1 := ⟨len - 1, by omega⟩
    have hX : X.map intAV ≠ [] := fun c => by rw [List.map_eq_nil_iff] at c; rw [c] at w1; exact absurd w1 (by simp)
    rw [(cutV_cons hX).1, (cutV_cons (len := 0) hX).2]
    have hkl : k < X.length := w1
    rw [List.take_succ_eq_append_getElem hkl] at w2
    obtain ⟨x, hxe⟩ : ∃ x, x = X[k] := ⟨_, rfl⟩
    rw [← hxe] at w2
    have hx := w2.openR x (by simp)
    have hq : IntKind.i64.wrap (x.tdiv 2) = x / 2 := by
      rw [Int.tdiv_eq_ediv_of_nonneg hx.1]
      exact wrap64 (by omega) (by omega)
    have hl1 : IntKind.i64.wrap (((k + 1 : Nat) : Int) - 1) = (k : Int) := by rw [wrap64 (by omega) (by omega)]; omega
    have hix : indexAddrA (En pr) 38 (.sl 1 b 0 (k + 1)) (.int .i64 (IntKind.i64.wrap (((k + 1 : Nat) : Int) - 1))) = some (.ptr b k 0) := by
      rw [hl1]; exact indexAddrA_sl rfl rfl rfl rfl (by omega)
    have hxa : (X.map intAV)[k]? = some (.int .i64 x) := by rw [List.getElem?_map, List.getElem?_eq_getElem hkl, hxe]; rfl
    have hsl : sliceA (En pr) 38 (.sl 1 b 0 (k + 1)) none (some (.int .i64 (IntKind.i64.wrap (((k + 1 : Nat) : Int) - 1)))) none = some (.sl 1 b 0 k) := slice_cut hl1
    have hwk : IntKind.i64.wrap ((m.k0 : Int) + (m.regs.xs.length : Int)) = (m.kN : Int) := by rw [wrap64 (by omega) (by omega)]; omega
    repeat' (first | (refine OS.do rfl ?_; first | refine OD.indexAddr rfl rfl rfl hix ?_ | refine OD.loadP 4 rfl rfl rfl hxa rfl rfl ?_ | refine OD.auto rfl rfl ?_ | refine OD.len rfl rfl (fun _ => rfl) ?_ | (refine OD.slice rfl rfl rfl rfl rfl hsl ?_; rw [hq])) | refine OS.nil ?_ | refine WS.seq ?_ | refine QS.seqN ?_ | refine WS.region ?_ | refine WS.condD rfl (fun _ => ?_) (fun _ => ?_) | refine WS.skip ?_ | refine WS.block ?_ | refine WS.exit ?_ | refine QS.seqE ?_ | refine QS.blockH ?_ | refine QS.loopE ?_)
    rotate_left
    · exfalso; omega
    by_cases hmem : x / 2 ∈ met
    · repeat' (first | (refine OS.do rfl ?_; first | refine OD.lookup 0 rfl rfl rfl rfl (fun st hst => (lookI hst).trans (by rw [decide_eq_true hmem])) ?_) | refine OS.nil ?_ | refine QS.seqN ?_ | refine WS.condT rfl ?_ | refine WS.exit ?_ | refine QS.seqE ?_ | refine QS.blockH ?_)
      rw [← (cutV_cons (sz := 1) (b := b) (len := 0) hX).2, ← (cutV_cons (sz := 1) (b := b) (len := k) hX).1]
      refine QS.loopN (⟨b, X, k, met, kr⟩) (by exact (⟨Nat.le_of_lt hkl, w2.skip hmem, w3, w4, Nat.le_of_succ_le w5⟩)) (by exact (by show 3 * (m.kN + m.gates.xs.length - met.length) + k < 3 * (m.kN + m.gates.xs.length - met.length) + (k + 1); omega)) (by (try dsimp only [List.cons_append, List.nil_append]); repeat' (first | exact Sub.nil _ | refine Sub.cons (congrArg (fun z => some (AV.int .i64 z)) (wrap_succ (by omega))) ?_ | refine Sub.cons rfl ?_)) (by (try dsimp only); repeat' (first | exact SubO.nil _ | exact SubO.refl _ | refine SubO.keep ?_ | refine SubO.drop ?_)) (by (try dsimp only); repeat' (first | exact SubK.nil _ | exact SubK.refl _ | refine SubK.keep (by simp) ?_ | refine SubK.new ?_ | refine SubK.drop ?_))
    have hnd : m.kN + m.gates.xs.length > met.length := by
      have := met_len (T := m.kN + m.gates.xs.length) (met := met ++ [x / 2]) (by
        rw [List.nodup_append]
        refine ⟨w2.nodup, by simp, fun a ha c hc => ?_⟩
        rw [List.mem_singleton.1 hc]
        rintro rfl
        exact hmem ha) (fun y hy => by
          rcases List.mem_append.1 hy with hy | hy
          · exact w2.range y hy
          · rw [List.mem_singleton.1 hy]; omega)
      rw [List.length_append, List.length_singleton] at this
      omega
    rcases Int.lt_or_le (x / 2) (m.kN : Int) with hlt | hge
    · rcases Int.lt_or_le (x / 2) (m.k0 : Int) with hlt0 | hge0
      · repeat' (first | (refine OS.do rfl ?_; first | refine OD.lookup 0 rfl rfl rfl rfl (fun st hst => (lookI hst).trans (by rw [decide_eq_false hmem])) ?_ | refine OD.mapUpdate 0 rfl rfl rfl rfl rfl rfl rfl (fun st hst => putI hmem hst) ?_ | refine OD.auto rfl rfl ?_ | refine OD.len rfl rfl (fun _ => lenTy_av rfl rfl) ?_ | refine OD.indexAddr rfl rfl rfl (indexAddrA_int rfl rfl rfl rfl (by first | assumption | omega) (by first | assumption | exact List.getElem?_eq_getElem (by omega))) ?_ | refine OD.slice rfl rfl rfl rfl rfl rfl ?_ | refine OD.loadP 3 rfl rfl rfl rfl rfl rfl ?_) | refine OS.nil ?_ | refine WS.seq ?_ | refine QS.seqN ?_ | refine WS.region ?_ | refine WS.condF rfl ?_ | refine WS.condD rfl (fun _ => ?_) (fun _ => ?_) | refine WS.skip ?_ | refine WS.block ?_ | refine QS.blockN ?_)
        any_goals (exfalso; omega)
        dsimp only [List.set_cons_zero, List.set_cons_succ, List.cons_append, List.nil_append]
        rw [← (cutV_cons (sz := 1) (b := b) (len := 0) hX).2, ← (cutV_cons (sz := 1) (b := b) (len := k) hX).1]
        refine QS.loopN (⟨b, X, k, met ++ [x / 2], kr⟩) (by exact (⟨Nat.le_of_lt hkl, way_none w2 hmem hlt0, w3, way_kr w4 fun j hj => by have hj2 : j < kr.length := hj; omega, by show k ≤ m.outs.xs.length + 2 * (met ++ [x / 2]).length; rw [List.length_append, List.length_singleton]; omega⟩)) (by exact (by show 3 * (m.kN + m.gates.xs.length - (met ++ [x / 2]).length) + k < 3 * (m.kN + m.gates.xs.length - met.length) + (k + 1); rw [List.length_append, List.length_singleton]; omega)) (by (try dsimp only [List.cons_append, List.nil_append]); repeat' (first | exact Sub.nil _ | refine Sub.cons (congrArg (fun z => some (AV.int .i64 z)) (wrap_succ (by omega))) ?_ | refine Sub.cons rfl ?_)) (by (try dsimp only); repeat' (first | exact SubO.nil _ | exact SubO.refl _ | refine SubO.keep ?_ | refine SubO.drop ?_)) (by (try dsimp only); repeat' (first | exact SubK.nil _ | exact SubK.refl _ | refine SubK.keep (by simp) ?_ | refine SubK.new ?_ | refine SubK.drop ?_))
      · obtain ⟨i, hi⟩ : ∃ i : Nat, x / 2 = ((m.k0 + i : Nat) : Int) := ⟨(x / 2 - m.k0).toNat, by omega⟩
        have hil : i < m.regs.xs.length := by omega
        have hwi : IntKind.i64.wrap (x / 2 - (m.k0 : Int)) = (i : Int) := by rw [wrap64 (by omega) (by omega)]; omega
        have hiR : indexAddrA (En pr) 23 (m.regs.av 3 regAV) (.int .i64 (IntKind.i64.wrap (x / 2 - (m.k0 : Int)))) = some (.ip (regAV m.regs.xs[i]).cells) := by
          rw [hwi]; exact indexAddrA_int rfl rfl rfl rfl (by omega) (by rw [Int.toNat_natCast, List.getElem?_eq_getElem hil])
        have hiB : indexAddrA (En pr) 69 (.sl ty4.size kb 0 m.regs.xs.length) (.int .i64 (IntKind.i64.wrap (x / 2 - (m.k0 : Int)))) = some (.ptr kb i 0) := by
          rw [hwi]; exact indexAddrA_sl rfl rfl rfl rfl (by omega)
        have hkb : (kr.map boolAV)[i]? = some (.bool (kr[i]'(by omega))) := by
          rw [List.getElem?_map, List.getElem?_eq_getElem (by omega)]; rfl
        have hgm : (X.map intAV).take k ++ [.int .i64 m.regs.xs[i].next] = (X.take k ++ [m.regs.xs[i].next]).map intAV := by rw [List.map_append, List.map_take]; rfl
        have hkm : (kr.map boolAV).set i (.bool true) = (kr.set i true).map boolAV := by rw [List.map_set]; rfl
        repeat' (first | (refine OS.do rfl ?_; first | refine OD.lookup 0 rfl rfl rfl rfl (fun st hst => (lookI hst).trans (by rw [decide_eq_false hmem])) ?_ | refine OD.mapUpdate 0 rfl rfl rfl rfl rfl rfl rfl (fun st hst => putI hmem hst) ?_ | refine OD.indexAddr rfl rfl rfl hiB ?_ | refine OD.indexAddr rfl rfl rfl hiR ?_ | refine OD.auto rfl rfl ?_ | refine OD.len rfl rfl (fun _ => lenTy_av rfl rfl) ?_ | refine OD.indexAddr rfl rfl rfl (indexAddrA_int rfl rfl rfl rfl (by first | assumption | omega) (by first | assumption | exact List.getElem?_eq_getElem (by omega))) ?_ | refine OD.slice rfl rfl rfl rfl rfl rfl ?_ | refine OD.loadP 3 rfl rfl rfl rfl rfl rfl ?_ | (refine OD.storeB 1 rfl rfl rfl rfl rfl hkb ?_; rw [hkm]) | (refine OD.appendS (L := [_, _, _, _]) (xs := X.map intAV) (len := k) (ys := [.int .i64 m.regs.xs[i].next]) rfl rfl rfl rfl (by rw [List.length_map]; omega) rfl rfl rfl rfl rfl rfl ⟨⟨_, rfl⟩, rfl⟩ (fun _ => rfl) rfl rfl (roomB rfl (by simp only [List.length_cons, List.length_nil]; omega)) (by simp) (fun b' => ?_); rw [hgm])) | refine OS.nil ?_ | refine WS.seq ?_ | refine QS.seqN ?_ | refine WS.region ?_ | refine WS.condF rfl ?_ | refine WS.condD rfl (fun _ => ?_) (fun _ => ?_) | refine WS.skip ?_ | refine WS.block ?_ | refine QS.blockN ?_)
        any_goals (exfalso; omega)
        dsimp only [List.set_cons_zero, List.set_cons_succ, List.cons_append, List.nil_append]
        have hXl : (X.take k ++ [m.regs.xs[i].next]).length = k + 1 := by rw [List.length_append, List.length_take]; simp; omega
        have hop : (X.take k ++ [m.regs.xs[i].next]).take (k + 1) = X.take k ++ [m.regs.xs[i].next] := List.take_of_length_le (by omega)
        refine QS.loopN (⟨b', X.take k ++ [m.regs.xs[i].next], k + 1, met ++ [x / 2], kr.set i true⟩) (by exact (⟨Nat.le_of_eq hXl.symm, hop.symm ▸ way_reg hVm w2 hmem hil hi, by rw [List.length_set]; exact w3, way_krs w4 hi, by show k + 1 ≤ m.outs.xs.length + 2 * (met ++ [x / 2]).length; rw [List.length_append, List.length_singleton]; omega⟩)) (by exact (by show 3 * (m.kN + m.gates.xs.length - (met ++ [x / 2]).length) + (k + 1) < 3 * (m.kN + m.gates.xs.length - met.length) + (k + 1); rw [List.length_append, List.length_singleton]; omega)) (by (try dsimp only [List.cons_append, List.nil_append]); repeat' (first | exact Sub.nil _ | refine Sub.cons (congrArg (fun z => some (AV.int .i64 z)) (wrap_succ (by omega))) ?_ | refine Sub.cons rfl ?_)) (by (try dsimp only); repeat' (first | exact SubO.nil _ | exact SubO.refl _ | refine SubO.keep ?_ | refine SubO.drop ?_)) (by (try dsimp only); repeat' (first | exact SubK.nil _ | exact SubK.refl _ | refine SubK.keep (by simp) ?_ | refine SubK.new ?_ | refine SubK.drop ?_))
    · obtain ⟨i, hi⟩ : ∃ i : Nat, x / 2 = ((m.kN + i : Nat) : Int) := ⟨(x / 2 - m.kN).toNat, by omega⟩
      have hil : i < m.gates.xs.length := by omega
      have hwi : IntKind.i64.wrap (IntKind.i64.wrap (x / 2 - (m.k0 : Int)) - (m.regs.xs.length : Int)) = (i : Int) := by rw [wrap64 (n := x / 2 - (m.k0 : Int)) (by omega) (by omega), wrap64 (by omega) (by omega)]; omega
      have hiG : indexAddrA (En pr) 24 (m.gates.av 2 gateAV) (.int .i64 (IntKind.i64.wrap (IntKind.i64.wrap (x / 2 - (m.k0 : Int)) - (m.regs.xs.length : Int)))) = some (.ip (gateAV m.gates.xs[i]).cells) := by
        rw [hwi]; exact indexAddrA_int rfl rfl rfl rfl (by omega) (by rw [Int.toNat_natCast, List.getElem?_eq_getElem hil])
      have hgm : (X.map intAV).take k ++ [.int .i64 m.gates.xs[i].1, .int .i64 m.gates.xs[i].2] = (X.take k ++ [m.gates.xs[i].1, m.gates.xs[i].2]).map intAV := by rw [List.map_append, List.map_take]; rfl
      repeat' (first | (refine OS.do rfl ?_; first | refine OD.lookup 0 rfl rfl rfl rfl (fun st hst => (lookI hst).trans (by rw [decide_eq_false hmem])) ?_ | refine OD.mapUpdate 0 rfl rfl rfl rfl rfl rfl rfl (fun st hst => putI hmem hst) ?_ | refine OD.indexAddr rfl rfl rfl hiG ?_ | refine OD.auto rfl rfl ?_ | refine OD.len rfl rfl (fun _ => lenTy_av rfl rfl) ?_ | refine OD.slice rfl rfl rfl rfl rfl rfl ?_ | refine OD.loadP 3 rfl rfl rfl rfl rfl rfl ?_ | (refine OD.appendS (L := [_, _, _, _]) (xs := X.map intAV) (len := k) (ys := [.int .i64 m.gates.xs[i].1, .int .i64 m.gates.xs[i].2]) rfl rfl rfl rfl (by rw [List.length_map]; omega) rfl rfl rfl rfl rfl rfl ⟨⟨_, rfl⟩, rfl⟩ (fun _ => rfl) rfl rfl (roomB rfl (by simp only [List.length_cons, List.length_nil]; omega)) (by simp) (fun b' => ?_); rw [hgm])) | refine OS.nil ?_ | refine WS.seq ?_ | refine QS.seqN ?_ | refine WS.region ?_ | refine WS.condF rfl ?_ | refine WS.condD rfl (fun _ => ?_) (fun _ => ?_) | refine WS.skip ?_ | refine WS.block ?_ | refine QS.blockN ?_)
      any_goals (exfalso; omega)
      dsimp only [List.set_cons_zero, List.set_cons_succ, List.cons_append, List.nil_append]
      have hXl : (X.take k ++ [m.gates.xs[i].1, m.gates.xs[i].2]).length = k + 2 := by rw [List.length_append, List.length_take]; simp; omega
      have hop : (X.take k ++ [m.gates.xs[i].1, m.gates.xs[i].2]).take (k + 2) = X.take k ++ [m.gates.xs[i].1, m.gates.xs[i].2] := List.take_of_length_le (by omega)
      refine QS.loopN (⟨b', X.take k ++ [m.gates.xs[i].1, m.gates.xs[i].2], k + 2, met ++ [x / 2], kr⟩) (by exact (⟨Nat.le_of_eq hXl.symm, hop.symm ▸ way_gate hVm w2 hmem hil hi, w3, way_kr w4 fun j hj => by have hj2 : j < kr.length := hj; omega, by show k + 2 ≤ m.outs.xs.length + 2 * (met ++ [x / 2]).length; rw [List.length_append, List.length_singleton]; omega⟩)) (by exact (by show 3 * (m.kN + m.gates.xs.length - (met ++ [x / 2]).length) + (k + 2) < 3 * (m.kN + m.gates.xs.length - met.length) + (k + 1); rw [List.length_append, List.length_singleton]; omega)) (by (try dsimp only [List.cons_append, List.nil_append]); repeat' (first | exact Sub.nil _ | refine Sub.cons (congrArg (fun z => some (AV.int .i64 z)) (wrap_succ (by omega))) ?_ | refine Sub.cons rfl ?_)) (by (try dsimp only); repeat' (first | exact SubO.nil _ | exact SubO.refl _ | refine SubO.keep ?_ | refine SubO.drop ?_)) (by (try dsimp only); repeat' (first | exact SubK.nil _ | exact SubK.refl _ | refine SubK.keep (by simp) ?_ | refine SubK.new ?_ | refine SubK.drop ?_))
def Rel19 : Rel := RelF FitsN (fun n => [netAV n]) fun n => resAV n (needP n)
theorem con19 (h1 : pr 19 = none) (h17 : Has pr 17 Rel17) (h54 : pr 54 = none) (h101 : pr 101 = none) : Con2 (En pr) 19 Rel19 := con_of (fun d => by simp [AV.freeL, net_free]) fun d hd st => run19 h1 h17 h54 h101 d hd st
theorem use19 (h : Has pr 19 Rel19) {n : GNet} (hn : FitsN n) (st : St) : primOf Rel19 [netAV n] st = some (resAV n (needP n), st) := h.use ⟨n, hn, by simp [AV.plainL, net_plain], rfl⟩ st
end
/-! ### Both are the same -/
theorem need_same (n : GNet) : SameC (needP n) (needR n) := by
  have h0 : SameC (foldR n) (foldN n) := fold_same (SameC.refl n)
  have hN : needN (foldR n) = needN (foldN n) := by
    unfold needN GNet.nexts GNet.olits GNet.k0 GNet.kN
    rw [h0.ins, h0.regs, h0.gates, h0.outs]
  have h1 : SameC (onlyN (foldN n) (needN (foldN n))) (keptN (foldR n) (needN (foldR n))) := by
    rw [hN]
    refine ⟨h0.ins.symm, ?_, ?_, ?_⟩
    all_goals (unfold onlyN keptN keptRegs keptS GNet.k0; rw [h0.ins, h0.regs, h0.gates])
    rw [h0.outs]
  unfold needP needR foldV
  by_cases hV : validM (onlyN (foldN n) (needN (foldN n))) = true
  · rw [if_pos hV, if_pos (h1.valid ▸ hV)]
    exact (fold_same h1.symm).symm
  · rw [if_neg hV, if_neg (fun c => hV (h1.valid ▸ c))]
    exact SameC.refl _
end Go.OptEnv

/- Few enough; the law's coverage call. -/
namespace Go.OptEnv
open Go Go.Proofs Go.Abs Go.RowKit Go.NetM
set_option maxRecDepth 10000
def Rel16 : Rel := fun a x => a = [] ∧ x = .bool true
attribute [local irreducible] WS QS OS OD Abs.Sub SubO SubK CW GSl.av accA
section
variable {pr : Prims}
/-- Few enough. -/
def fewM (n : GNet) : Bool := decide (n.ins.xs.length + n.regs.xs.length + n.outs.xs.length ≤ 120) && decide (n.gates.xs.length ≤ 300)
theorem run15 (h1 : pr 15 = none) (n : GNet) (hn : FitsN n) (st : St) : CW (En pr) 15 [netAV n] st fun r _ => r = .bool (fewM n) := by
  obtain ⟨f1, f2, f3, f4, _, _, _, _, _, _⟩ := hn
  have w2 : IntKind.i64.wrap (IntKind.i64.wrap ((n.ins.xs.length : Int) + (n.regs.xs.length : Int)) + (n.outs.xs.length : Int)) = (n.ins.xs.length : Int) + (n.regs.xs.length : Int) + (n.outs.xs.length : Int) := by
    rw [wrap64 (n := (n.ins.xs.length : Int) + (n.regs.xs.length : Int)) (by omega) (by omega)]
    exact wrap64 (by omega) (by omega)
  refine CW.start (N := 21) h1 rfl rfl ?_
  repeat' (first | (refine OS.do rfl ?_; first | refine OD.box rfl rfl rfl rfl (net_ok _) rfl (fun b1 => ?_) | refine OD.loadP 0 rfl rfl rfl rfl rfl rfl ?_ | refine OD.auto rfl rfl ?_ | refine OD.len rfl rfl (fun _ => lenTy_av rfl rfl) ?_) | refine OS.nil ?_ | refine OS.skip rfl rfl rfl ?_ | refine WS.seq ?_ | refine QS.seqN ?_ | refine WS.region ?_ | refine WS.ret ?_ | ((fail_if_success (refine OS.do rfl ?_)); first | refine OS.splitD rfl rfl rfl (fun _ => ?_) (fun _ => ?_)))
  all_goals (refine QS.retR (by rfl) fun _ => ?_; show AV.bool _ = _; congr 1; unfold fewM; rw [Bool.eq_iff_iff]; simp only [Bool.and_eq_true, decide_eq_true_eq, false_iff, reduceCtorEq, not_and]; omega)
def Rel15 : Rel := RelF (fun n : GNet => FitsN n) (fun n => [netAV n]) fun n => .bool (fewM n)
theorem con15 (h1 : pr 15 = none) : Con2 (En pr) 15 Rel15 := con_eq (fun d => by simp [AV.freeL, net_free]) (fun _ => ⟨rfl, rfl⟩) fun d hd st => run15 h1 d hd st
theorem use16 (h : Has pr 16 Rel16) (st : St) : primOf Rel16 [] st = some (.bool true, st) := h.use ⟨rfl, rfl⟩ st
theorem use15 (h : Has pr 15 Rel15) {n : GNet} (hn : FitsN n) (st : St) : primOf Rel15 [netAV n] st = some (.bool (fewM n), st) := h.use ⟨n, hn, by simp [AV.plainL, net_plain], rfl⟩ st
end
end Go.OptEnv

/- The law OptFolds, walked. -/
namespace Go.OptEnv
open Go Go.Proofs Go.Abs Go.RowKit Go.NetM
set_option maxRecDepth 10000
theorem nil_av : netAV nilN = .agg [.nilsl, .nilsl, .nilsl, .nilsl] := rfl
attribute [local irreducible] WS QS OS OD Abs.Sub SubO SubK CW GSl.av accA growA
section
variable {pr : Prims}
theorem nil_fits : FitsN nilN := by
  refine ⟨by unfold nilN; simp only [gof_xs]; simp, by unfold nilN; simp only [gof_xs]; simp, by unfold nilN; simp only [gof_xs]; simp, by unfold nilN; simp only [gof_xs]; simp, ?_, ?_, ?_, ?_, ?_, ?_⟩ <;> (unfold nilN; simp only [gof_xs]; simp)
set_option maxHeartbeats 4000000 in
theorem run3 (h1 : pr 3 = none) (h15 : Has pr 15 Rel15) (h16 : Has pr 16 Rel16) (h17 : Has pr 17 Rel17) (h18 : HasF pr 18 Rel18) (h19 : Has pr 19 Rel19) (h20 : Has pr 20 Rel20) (h21 : Has pr 21 Rel21) (n : GNet) (hn : FitsN n) (st : St) :
    CW (En pr) 3 [netAV n] st fun r _ => r = .bool true := by
  have u15 := use15 h15 hn
  have u16 := use16 h16
  rcases (Bool.eq_false_or_eq_true (fewM n)).symm with hfew | hfew
  · rw [hfew] at u15
    refine CW.start (N := 56) h1 rfl rfl ?_
    repeat' (first | (refine OS.do rfl ?_; first | refine OD.box rfl rfl rfl rfl (net_ok _) rfl (fun b1 => ?_) | refine OD.loadP 0 rfl rfl rfl rfl rfl rfl ?_ | refine OD.auto rfl rfl ?_ | refine OD.call rfl rfl rfl h15.eq u15 (fun _ => rfl) ?_ | refine OD.call rfl rfl rfl h16.eq u16 (fun _ => rfl) ?_) | refine OS.nil ?_ | refine WS.seq ?_ | refine QS.seqN ?_ | refine WS.region ?_ | refine WS.condT rfl ?_ | refine WS.ret ?_ | refine QS.seqR ?_)
    all_goals (exact QS.retR (by rfl) fun _ => rfl)
  rw [hfew] at u15
  have u17 := use17 h17 hn
  have u18 := use18 h18 hn
  have u19 := use19 h19 hn
  have u20 := use20 h20 hn
  rcases (Bool.eq_false_or_eq_true (validM n)).symm with hV | hV
  · rw [res_no hV] at u17 u18 u19 u20
    have u21 := use21 h21 (SameC.refl nilN) nil_fits
    rw [nil_av] at u21
    refine CW.start (N := 56) h1 rfl rfl ?_
    repeat' (first | (refine OS.do rfl ?_; first | refine OD.box rfl rfl rfl rfl (net_ok _) rfl (fun b1 => ?_) | refine OD.loadP 0 rfl rfl rfl rfl rfl rfl ?_ | refine OD.auto rfl rfl ?_ | refine OD.loadP 1 rfl rfl rfl rfl rfl rfl ?_ | refine OD.loadP 2 rfl rfl rfl rfl rfl rfl ?_ | refine OD.alloc rfl rfl rfl rfl (fun _ => ?_) | refine OD.storeW 0 rfl rfl rfl rfl (by first | rfl | exact net_ok _) rfl rfl rfl ?_ | refine OD.call rfl rfl rfl h15.eq u15 (fun _ => rfl) ?_ | refine OD.call rfl rfl rfl h16.eq u16 (fun _ => rfl) ?_ | refine OD.call rfl rfl rfl h17.eq u17 (fun _ => rfl) ?_ | refine OD.call rfl rfl rfl h18.eq u18 (fun _ => rfl) ?_ | refine OD.call rfl rfl rfl h19.eq u19 (fun _ => rfl) ?_ | refine OD.call rfl rfl rfl h20.eq u20 (fun _ => rfl) ?_ | refine OD.call rfl rfl rfl h21.eq u21 (fun _ => rfl) ?_ | refine OD.loadP 3 rfl rfl rfl rfl rfl rfl ?_) | refine OS.nil ?_ | refine WS.seq ?_ | refine QS.seqN ?_ | refine WS.region ?_ | refine WS.condF rfl ?_ | refine WS.skip ?_ | refine WS.ret ?_)
    all_goals (exact QS.retR (by rfl) fun _ => rfl)
  rw [res_yes hV] at u17 u18 u19 u20
  have z : ∀ (m : GNet) (st : St), freezeA st (.tup [netAV m, .int .i64 0]) = some (.tup [netAV m, .int .i64 0], st) := fun m st => freeze_free (by simp [AV.free, AV.freeL, net_free])
  have hF := fold_fits hV hn
  have s1 : SameC (foldN n) (foldR n) := (fold_same (SameC.refl n)).symm
  have s2 : SameC (needP n) (needR n) := need_same n
  have hP : FitsN (needP n) := by
    unfold needP
    by_cases hW : validM (onlyN (foldN n) (needN (foldN n))) = true
    · rw [if_pos hW]
      exact fold_fits hW ((only_same _ _).fits (kept_fits (fold_valid hV) hF))
    · rw [if_neg hW]; exact nil_fits
  have u21 := use21 h21 s1 hF
  have u21' := use21 h21 s2 hP
  refine CW.start (N := 56) h1 rfl rfl ?_
  repeat' (first | (refine OS.do rfl ?_; first | refine OD.box rfl rfl rfl rfl (net_ok _) rfl (fun b1 => ?_) | refine OD.storeW 0 rfl rfl rfl rfl (net_ok _) rfl rfl rfl ?_ | refine OD.loadP 0 rfl rfl rfl rfl rfl rfl ?_ | refine OD.auto rfl rfl ?_ | refine OD.loadP 1 rfl rfl rfl rfl rfl rfl ?_ | refine OD.loadP 2 rfl rfl rfl rfl rfl rfl ?_ | refine OD.alloc rfl rfl rfl rfl (fun _ => ?_) | refine OD.call rfl rfl rfl h15.eq u15 (fun _ => rfl) ?_ | refine OD.call rfl rfl rfl h16.eq u16 (fun _ => rfl) ?_ | refine OD.call rfl rfl rfl h17.eq u17 (z _) ?_ | refine OD.call rfl rfl rfl h18.eq u18 (z _) ?_ | refine OD.call rfl rfl rfl h19.eq u19 (z _) ?_ | refine OD.call rfl rfl rfl h20.eq u20 (z _) ?_ | refine OD.call rfl rfl rfl h21.eq u21 (fun _ => rfl) ?_ | refine OD.call rfl rfl rfl h21.eq u21' (fun _ => rfl) ?_ | refine OD.loadP 3 rfl rfl rfl rfl rfl rfl ?_) | refine OS.nil ?_ | refine WS.seq ?_ | refine QS.seqN ?_ | refine WS.region ?_ | refine WS.condF rfl ?_ | refine WS.skip ?_ | refine WS.ret ?_)
  all_goals (exact QS.retR (by rfl) fun _ => rfl)
end
end Go.OptEnv

/- Closed calls of awake, level 0. -/
namespace Go.OptEnv
open Go Go.Proofs Go.Abs Go.RowKit
set_option maxRecDepth 100000
def ra82_0 : List AV := [.int .i64 0]
def rr82_0 : AV := .agg [.int .u64 12297829382473034410, .int .u64 12297829382473034410, .int .u64 12297829382473034410, .int .u64 12297829382473034410]
theorem rk82_0 : runIs (En ap0) 10000 82 ra82_0 rr82_0 = true := by kernel_rfl
def ra82_1 : List AV := [.int .i64 1]
def rr82_1 : AV := .agg [.int .u64 14757395258967641292, .int .u64 14757395258967641292, .int .u64 14757395258967641292, .int .u64 14757395258967641292]
theorem rk82_1 : runIs (En ap0) 10000 82 ra82_1 rr82_1 = true := by kernel_rfl
def ra82_2 : List AV := [.int .i64 2]
def rr82_2 : AV := .agg [.int .u64 17361641481138401520, .int .u64 17361641481138401520, .int .u64 17361641481138401520, .int .u64 17361641481138401520]
theorem rk82_2 : runIs (En ap0) 10000 82 ra82_2 rr82_2 = true := by kernel_rfl
def tab82 : List (List AV × AV) := [(ra82_0, rr82_0), (ra82_1, rr82_1), (ra82_2, rr82_2)]
theorem tabok82 : TabOk (En ap0) 82 tab82 := (.cons 10000 rk82_0 (.cons 10000 rk82_1 (.cons 10000 rk82_2 .nil)))
def ra27_0 : List AV := [.agg [.vs 1 .any [.str ⟨#[97]⟩], .vs 3 .any [.agg [.str ⟨#[112]⟩, .int .u8 0, .int .i64 2], .agg [.str ⟨#[113]⟩, .int .u8 0, .int .i64 2]], .vs 2 .any [.agg [.int .i64 4, .int .i64 6]], .vs 2 .any [.agg [.str ⟨#[111]⟩, .int .i64 8]]]]
def rr27_0 : AV := .tup [.vs 1 .any [.int .i64 0, .int .i64 0], .int .i64 0]
theorem rk27_0 : runIs (En ap0) 10000 27 ra27_0 rr27_0 = true := by kernel_rfl
def ra27_1 : List AV := [.agg [.vs 1 .any [.str ⟨#[97]⟩], .vs 3 .any [.agg [.str ⟨#[112]⟩, .int .u8 0, .int .i64 2]], .nilsl, .vs 2 .any [.agg [.str ⟨#[111]⟩, .int .i64 4]]]]
def rr27_1 : AV := .tup [.vs 1 .any [.int .i64 0], .int .i64 0]
theorem rk27_1 : runIs (En ap0) 10000 27 ra27_1 rr27_1 = true := by kernel_rfl
def tab27 : List (List AV × AV) := [(ra27_0, rr27_0), (ra27_1, rr27_1)]
theorem tabok27 : TabOk (En ap0) 27 tab27 := (.cons 10000 rk27_0 (.cons 10000 rk27_1 .nil))
def ra22_0 : List AV := [.agg [.vs 1 .any [.str ⟨#[97]⟩], .vs 3 .any [.agg [.str ⟨#[112]⟩, .int .u8 0, .int .i64 6]], .vs 2 .any [.agg [.int .i64 2, .int .i64 4]], .vs 2 .any [.agg [.str ⟨#[111]⟩, .int .i64 4]]]]
def rr22_0 : AV := .tup [.vs 1 .any [.int .u8 0], .int .i64 0]
theorem rk22_0 : runIs (En ap0) 10000 22 ra22_0 rr22_0 = true := by kernel_rfl
def ra22_1 : List AV := [.agg [.vs 1 .any [.str ⟨#[97]⟩], .nilsl, .nilsl, .vs 2 .any [.agg [.str ⟨#[111]⟩, .int .i64 0]]]]
def rr22_1 : AV := .tup [.nilsl, .int .i64 0]
theorem rk22_1 : runIs (En ap0) 10000 22 ra22_1 rr22_1 = true := by kernel_rfl
def ra22_2 : List AV := [.agg [.vs 1 .any [.str ⟨#[97]⟩], .vs 3 .any [.agg [.str ⟨#[112]⟩, .int .u8 0, .int .i64 2], .agg [.str ⟨#[113]⟩, .int .u8 0, .int .i64 2]], .vs 2 .any [.agg [.int .i64 4, .int .i64 6]], .vs 2 .any [.agg [.str ⟨#[111]⟩, .int .i64 8]]]]
def rr22_2 : AV := .tup [.vs 1 .any [.int .u8 2, .int .u8 2], .int .i64 0]
theorem rk22_2 : runIs (En ap0) 10000 22 ra22_2 rr22_2 = true := by kernel_rfl
def ra22_3 : List AV := [.agg [.vs 1 .any [.str ⟨#[97]⟩], .vs 3 .any [.agg [.str ⟨#[112]⟩, .int .u8 0, .int .i64 2]], .nilsl, .vs 2 .any [.agg [.str ⟨#[111]⟩, .int .i64 4]]]]
def rr22_3 : AV := .tup [.vs 1 .any [.int .u8 2], .int .i64 0]
theorem rk22_3 : runIs (En ap0) 10000 22 ra22_3 rr22_3 = true := by kernel_rfl
def tab22 : List (List AV × AV) := [(ra22_0, rr22_0), (ra22_1, rr22_1), (ra22_2, rr22_2), (ra22_3, rr22_3)]
theorem tabok22 : TabOk (En ap0) 22 tab22 := (.cons 10000 rk22_0 (.cons 10000 rk22_1 (.cons 10000 rk22_2 (.cons 10000 rk22_3 .nil))))
def ra50_0 : List AV := [.agg [.vs 1 .any [.str ⟨#[97]⟩], .vs 3 .any [.agg [.str ⟨#[112]⟩, .int .u8 0, .int .i64 6]], .vs 2 .any [.agg [.int .i64 2, .int .i64 4]], .vs 2 .any [.agg [.str ⟨#[111]⟩, .int .i64 4]]]]
def rr50_0 : AV := .tup [.agg [.vs 1 .any [.str ⟨#[97]⟩], .vs 3 .any [.agg [.str ⟨#[112]⟩, .int .u8 0, .int .i64 6]], .vs 2 .any [.agg [.int .i64 2, .int .i64 4]], .vs 2 .any [.agg [.str ⟨#[111]⟩, .int .i64 4]]], .int .i64 0]
theorem rk50_0 : runIs (En ap0) 10000 50 ra50_0 rr50_0 = true := by kernel_rfl
def ra50_1 : List AV := [.agg [.vs 1 .any [.str ⟨#[]⟩], .nilsl, .nilsl, .nilsl]]
def rr50_1 : AV := .tup [.agg [.nilsl, .nilsl, .nilsl, .nilsl], .int .i64 2]
theorem rk50_1 : runIs (En ap0) 10000 50 ra50_1 rr50_1 = true := by kernel_rfl
def ra50_2 : List AV := [.agg [.vs 1 .any [.str ⟨#[97]⟩], .vs 3 .any [.agg [.str ⟨#[112]⟩, .int .u8 0, .int .i64 2], .agg [.str ⟨#[113]⟩, .int .u8 0, .int .i64 2]], .vs 2 .any [.agg [.int .i64 4, .int .i64 6]], .vs 2 .any [.agg [.str ⟨#[111]⟩, .int .i64 8]]]]
def rr50_2 : AV := .tup [.agg [.vs 1 .any [.str ⟨#[97]⟩], .vs 3 .any [.agg [.str ⟨#[112]⟩, .int .u8 0, .int .i64 2], .agg [.str ⟨#[113]⟩, .int .u8 0, .int .i64 2]], .vs 2 .any [.agg [.int .i64 4, .int .i64 6]], .vs 2 .any [.agg [.str ⟨#[111]⟩, .int .i64 8]]], .int .i64 0]
theorem rk50_2 : runIs (En ap0) 10000 50 ra50_2 rr50_2 = true := by kernel_rfl
def ra50_3 : List AV := [.agg [.vs 1 .any [.str ⟨#[97]⟩], .vs 3 .any [.agg [.str ⟨#[112]⟩, .int .u8 0, .int .i64 2]], .nilsl, .vs 2 .any [.agg [.str ⟨#[111]⟩, .int .i64 4]]]]
def rr50_3 : AV := .tup [.agg [.vs 1 .any [.str ⟨#[97]⟩], .vs 3 .any [.agg [.str ⟨#[112]⟩, .int .u8 0, .int .i64 2]], .nilsl, .vs 2 .any [.agg [.str ⟨#[111]⟩, .int .i64 4]]], .int .i64 0]
theorem rk50_3 : runIs (En ap0) 10000 50 ra50_3 rr50_3 = true := by kernel_rfl
def tab50 : List (List AV × AV) := [(ra50_0, rr50_0), (ra50_1, rr50_1), (ra50_2, rr50_2), (ra50_3, rr50_3)]
theorem tabok50 : TabOk (En ap0) 50 tab50 := (.cons 10000 rk50_0 (.cons 10000 rk50_1 (.cons 10000 rk50_2 (.cons 10000 rk50_3 .nil))))
def ra51_0 : List AV := [.agg [.vs 1 .any [.str ⟨#[97]⟩], .vs 3 .any [.agg [.str ⟨#[112]⟩, .int .u8 0, .int .i64 2]], .nilsl, .vs 2 .any [.agg [.str ⟨#[111]⟩, .int .i64 4]]]]
def rr51_0 : AV := .tup [.agg [.vs 1 .any [.str ⟨#[97]⟩], .vs 3 .any [.agg [.str ⟨#[112]⟩, .int .u8 0, .int .i64 2]], .nilsl, .vs 2 .any [.agg [.str ⟨#[111]⟩, .int .i64 4]]], .int .i64 0]
theorem rk51_0 : runIs (En ap0) 10000 51 ra51_0 rr51_0 = true := by kernel_rfl
def ra51_1 : List AV := [.agg [.vs 1 .any [.str ⟨#[97]⟩], .vs 3 .any [.agg [.str ⟨#[112]⟩, .int .u8 0, .int .i64 6]], .vs 2 .any [.agg [.int .i64 2, .int .i64 4]], .vs 2 .any [.agg [.str ⟨#[111]⟩, .int .i64 4]]]]
def rr51_1 : AV := .tup [.agg [.vs 1 .any [.str ⟨#[97]⟩], .vs 3 .any [.agg [.str ⟨#[112]⟩, .int .u8 0, .int .i64 6]], .vs 2 .any [.agg [.int .i64 2, .int .i64 4]], .vs 2 .any [.agg [.str ⟨#[111]⟩, .int .i64 4]]], .int .i64 0]
theorem rk51_1 : runIs (En ap0) 10000 51 ra51_1 rr51_1 = true := by kernel_rfl
def ra51_2 : List AV := [.agg [.vs 1 .any [.str ⟨#[97]⟩], .nilsl, .nilsl, .vs 2 .any [.agg [.str ⟨#[111]⟩, .int .i64 0]]]]
def rr51_2 : AV := .tup [.agg [.vs 1 .any [.str ⟨#[97]⟩], .nilsl, .nilsl, .vs 2 .any [.agg [.str ⟨#[111]⟩, .int .i64 0]]], .int .i64 0]
theorem rk51_2 : runIs (En ap0) 10000 51 ra51_2 rr51_2 = true := by kernel_rfl
def ra51_3 : List AV := [.agg [.vs 1 .any [.str ⟨#[97]⟩], .vs 3 .any [.agg [.str ⟨#[112]⟩, .int .u8 0, .int .i64 2], .agg [.str ⟨#[113]⟩, .int .u8 0, .int .i64 2]], .vs 2 .any [.agg [.int .i64 4, .int .i64 6]], .vs 2 .any [.agg [.str ⟨#[111]⟩, .int .i64 8]]]]
def rr51_3 : AV := .tup [.agg [.vs 1 .any [.str ⟨#[97]⟩], .vs 3 .any [.agg [.str ⟨#[112]⟩, .int .u8 0, .int .i64 2], .agg [.str ⟨#[113]⟩, .int .u8 0, .int .i64 2]], .vs 2 .any [.agg [.int .i64 4, .int .i64 6]], .vs 2 .any [.agg [.str ⟨#[111]⟩, .int .i64 8]]], .int .i64 0]
theorem rk51_3 : runIs (En ap0) 10000 51 ra51_3 rr51_3 = true := by kernel_rfl
def tab51 : List (List AV × AV) := [(ra51_0, rr51_0), (ra51_1, rr51_1), (ra51_2, rr51_2), (ra51_3, rr51_3)]
theorem tabok51 : TabOk (En ap0) 51 tab51 := (.cons 10000 rk51_0 (.cons 10000 rk51_1 (.cons 10000 rk51_2 (.cons 10000 rk51_3 .nil))))
def ap1 : Prims := (addP (addP (addP (addP (addP ap0 82 (tabPrim tab82)) 27 (tabPrim tab27)) 22 (tabPrim tab22)) 50 (tabPrim tab50)) 51 (tabPrim tab51))
theorem good1 : Good ap1 := (Good.addT (Good.addT (Good.addT (Good.addT (Good.addT good0 (tabok82.does (En_ok _) good0.ok (hent Tryz.func82))) (tabok27.does (En_ok _) good0.ok (hent Tryz.func27))) (tabok22.does (En_ok _) good0.ok (hent Tryz.func22))) (tabok50.does (En_ok _) good0.ok (hent Tryz.func50))) (tabok51.does (En_ok _) good0.ok (hent Tryz.func51)))
end Go.OptEnv

/- Closed calls of awake, level 1. -/
namespace Go.OptEnv
open Go Go.Proofs Go.Abs Go.RowKit
set_option maxRecDepth 100000
def ra17_0 : List AV := [.agg [.vs 1 .any [.str ⟨#[97]⟩], .vs 3 .any [.agg [.str ⟨#[112]⟩, .int .u8 0, .int .i64 6]], .vs 2 .any [.agg [.int .i64 2, .int .i64 4]], .vs 2 .any [.agg [.str ⟨#[111]⟩, .int .i64 4]]]]
def rr17_0 : AV := .tup [.agg [.vs 1 .any [.str ⟨#[97]⟩], .vs 3 .any [.agg [.str ⟨#[112]⟩, .int .u8 0, .int .i64 6]], .vs 2 .any [.agg [.int .i64 2, .int .i64 4]], .vs 2 .any [.agg [.str ⟨#[111]⟩, .int .i64 4]]], .int .i64 0]
theorem rk17_0 : runIs (En ap1) 10000 17 ra17_0 rr17_0 = true := by kernel_rfl
def ra17_1 : List AV := [.agg [.vs 1 .any [.str ⟨#[]⟩], .nilsl, .nilsl, .nilsl]]
def rr17_1 : AV := .tup [.agg [.nilsl, .nilsl, .nilsl, .nilsl], .int .i64 2]
theorem rk17_1 : runIs (En ap1) 10000 17 ra17_1 rr17_1 = true := by kernel_rfl
def ra17_2 : List AV := [.agg [.vs 1 .any [.str ⟨#[97]⟩], .vs 3 .any [.agg [.str ⟨#[112]⟩, .int .u8 0, .int .i64 2], .agg [.str ⟨#[113]⟩, .int .u8 0, .int .i64 2]], .vs 2 .any [.agg [.int .i64 4, .int .i64 6]], .vs 2 .any [.agg [.str ⟨#[111]⟩, .int .i64 8]]]]
def rr17_2 : AV := .tup [.agg [.vs 1 .any [.str ⟨#[97]⟩], .vs 3 .any [.agg [.str ⟨#[112]⟩, .int .u8 0, .int .i64 2], .agg [.str ⟨#[113]⟩, .int .u8 0, .int .i64 2]], .vs 2 .any [.agg [.int .i64 4, .int .i64 6]], .vs 2 .any [.agg [.str ⟨#[111]⟩, .int .i64 8]]], .int .i64 0]
theorem rk17_2 : runIs (En ap1) 10000 17 ra17_2 rr17_2 = true := by kernel_rfl
def ra17_3 : List AV := [.agg [.vs 1 .any [.str ⟨#[97]⟩], .vs 3 .any [.agg [.str ⟨#[112]⟩, .int .u8 0, .int .i64 2]], .nilsl, .vs 2 .any [.agg [.str ⟨#[111]⟩, .int .i64 4]]]]
def rr17_3 : AV := .tup [.agg [.vs 1 .any [.str ⟨#[97]⟩], .vs 3 .any [.agg [.str ⟨#[112]⟩, .int .u8 0, .int .i64 2]], .nilsl, .vs 2 .any [.agg [.str ⟨#[111]⟩, .int .i64 4]]], .int .i64 0]
theorem rk17_3 : runIs (En ap1) 10000 17 ra17_3 rr17_3 = true := by kernel_rfl
def tab17 : List (List AV × AV) := [(ra17_0, rr17_0), (ra17_1, rr17_1), (ra17_2, rr17_2), (ra17_3, rr17_3)]
theorem tabok17 : TabOk (En ap1) 17 tab17 := (.cons 10000 rk17_0 (.cons 10000 rk17_1 (.cons 10000 rk17_2 (.cons 10000 rk17_3 .nil))))
def ap2 : Prims := (addP ap1 17 (tabPrim tab17))
theorem good2 : Good ap2 := (Good.addT good1 (tabok17.does (En_ok _) good1.ok (hent Tryz.func17)))
end Go.OptEnv

/- Closed calls of awake, level 2. -/
namespace Go.OptEnv
open Go Go.Proofs Go.Abs Go.RowKit
set_option maxRecDepth 100000
def ra29_0 : List AV := [.agg [.vs 1 .any [.str ⟨#[97]⟩], .vs 3 .any [.agg [.str ⟨#[112]⟩, .int .u8 0, .int .i64 2], .agg [.str ⟨#[113]⟩, .int .u8 0, .int .i64 2]], .vs 2 .any [.agg [.int .i64 4, .int .i64 6]], .vs 2 .any [.agg [.str ⟨#[111]⟩, .int .i64 8]]]]
def rr29_0 : AV := .tup [.agg [.vs 1 .any [.str ⟨#[97]⟩], .vs 3 .any [.agg [.str ⟨#[112]⟩, .int .u8 0, .int .i64 2]], .nilsl, .vs 2 .any [.agg [.str ⟨#[111]⟩, .int .i64 4]]], .int .i64 0]
theorem rk29_0 : runIs (En ap2) 10000 29 ra29_0 rr29_0 = true := by kernel_rfl
def ra29_1 : List AV := [.agg [.vs 1 .any [.str ⟨#[97]⟩], .vs 3 .any [.agg [.str ⟨#[112]⟩, .int .u8 0, .int .i64 2]], .nilsl, .vs 2 .any [.agg [.str ⟨#[111]⟩, .int .i64 4]]]]
def rr29_1 : AV := .tup [.agg [.vs 1 .any [.str ⟨#[97]⟩], .vs 3 .any [.agg [.str ⟨#[112]⟩, .int .u8 0, .int .i64 2]], .nilsl, .vs 2 .any [.agg [.str ⟨#[111]⟩, .int .i64 4]]], .int .i64 0]
theorem rk29_1 : runIs (En ap2) 10000 29 ra29_1 rr29_1 = true := by kernel_rfl
def tab29 : List (List AV × AV) := [(ra29_0, rr29_0), (ra29_1, rr29_1)]
theorem tabok29 : TabOk (En ap2) 29 tab29 := (.cons 10000 rk29_0 (.cons 10000 rk29_1 .nil))
def ra24_0 : List AV := [.agg [.vs 1 .any [.str ⟨#[97]⟩], .vs 3 .any [.agg [.str ⟨#[112]⟩, .int .u8 0, .int .i64 6]], .vs 2 .any [.agg [.int .i64 2, .int .i64 4]], .vs 2 .any [.agg [.str ⟨#[111]⟩, .int .i64 4]]]]
def rr24_0 : AV := .tup [.agg [.vs 1 .any [.str ⟨#[97]⟩], .nilsl, .nilsl, .vs 2 .any [.agg [.str ⟨#[111]⟩, .int .i64 0]]], .int .i64 0]
theorem rk24_0 : runIs (En ap2) 10000 24 ra24_0 rr24_0 = true := by kernel_rfl
def ra24_1 : List AV := [.agg [.vs 1 .any [.str ⟨#[97]⟩], .vs 3 .any [.agg [.str ⟨#[112]⟩, .int .u8 0, .int .i64 2], .agg [.str ⟨#[113]⟩, .int .u8 0, .int .i64 2]], .vs 2 .any [.agg [.int .i64 4, .int .i64 6]], .vs 2 .any [.agg [.str ⟨#[111]⟩, .int .i64 8]]]]
def rr24_1 : AV := .tup [.agg [.vs 1 .any [.str ⟨#[97]⟩], .vs 3 .any [.agg [.str ⟨#[112]⟩, .int .u8 0, .int .i64 2], .agg [.str ⟨#[113]⟩, .int .u8 0, .int .i64 2]], .vs 2 .any [.agg [.int .i64 4, .int .i64 6]], .vs 2 .any [.agg [.str ⟨#[111]⟩, .int .i64 8]]], .int .i64 0]
theorem rk24_1 : runIs (En ap2) 10000 24 ra24_1 rr24_1 = true := by kernel_rfl
def ra24_2 : List AV := [.agg [.vs 1 .any [.str ⟨#[97]⟩], .vs 3 .any [.agg [.str ⟨#[112]⟩, .int .u8 0, .int .i64 2]], .nilsl, .vs 2 .any [.agg [.str ⟨#[111]⟩, .int .i64 4]]]]
def rr24_2 : AV := .tup [.agg [.vs 1 .any [.str ⟨#[97]⟩], .vs 3 .any [.agg [.str ⟨#[112]⟩, .int .u8 0, .int .i64 2]], .nilsl, .vs 2 .any [.agg [.str ⟨#[111]⟩, .int .i64 4]]], .int .i64 0]
theorem rk24_2 : runIs (En ap2) 10000 24 ra24_2 rr24_2 = true := by kernel_rfl
def tab24 : List (List AV × AV) := [(ra24_0, rr24_0), (ra24_1, rr24_1), (ra24_2, rr24_2)]
theorem tabok24 : TabOk (En ap2) 24 tab24 := (.cons 10000 rk24_0 (.cons 10000 rk24_1 (.cons 10000 rk24_2 .nil)))
def ra19_0 : List AV := [.agg [.vs 1 .any [.str ⟨#[97]⟩], .vs 3 .any [.agg [.str ⟨#[112]⟩, .int .u8 0, .int .i64 2], .agg [.str ⟨#[113]⟩, .int .u8 0, .int .i64 2]], .vs 2 .any [.agg [.int .i64 4, .int .i64 6]], .vs 2 .any [.agg [.str ⟨#[111]⟩, .int .i64 8]]]]
def rr19_0 : AV := .tup [.agg [.vs 1 .any [.str ⟨#[97]⟩], .vs 3 .any [.agg [.str ⟨#[112]⟩, .int .u8 0, .int .i64 2], .agg [.str ⟨#[113]⟩, .int .u8 0, .int .i64 2]], .vs 2 .any [.agg [.int .i64 4, .int .i64 6]], .vs 2 .any [.agg [.str ⟨#[111]⟩, .int .i64 8]]], .int .i64 0]
theorem rk19_0 : runIs (En ap2) 10000 19 ra19_0 rr19_0 = true := by kernel_rfl
def ra19_1 : List AV := [.agg [.vs 1 .any [.str ⟨#[97]⟩], .vs 3 .any [.agg [.str ⟨#[112]⟩, .int .u8 0, .int .i64 2]], .nilsl, .vs 2 .any [.agg [.str ⟨#[111]⟩, .int .i64 4]]]]
def rr19_1 : AV := .tup [.agg [.vs 1 .any [.str ⟨#[97]⟩], .vs 3 .any [.agg [.str ⟨#[112]⟩, .int .u8 0, .int .i64 2]], .nilsl, .vs 2 .any [.agg [.str ⟨#[111]⟩, .int .i64 4]]], .int .i64 0]
theorem rk19_1 : runIs (En ap2) 10000 19 ra19_1 rr19_1 = true := by kernel_rfl
def tab19 : List (List AV × AV) := [(ra19_0, rr19_0), (ra19_1, rr19_1)]
theorem tabok19 : TabOk (En ap2) 19 tab19 := (.cons 10000 rk19_0 (.cons 10000 rk19_1 .nil))
def ra38_0 : List AV := [.agg [.vs 1 .any [.str ⟨#[97]⟩], .vs 3 .any [.agg [.str ⟨#[112]⟩, .int .u8 0, .int .i64 2], .agg [.str ⟨#[113]⟩, .int .u8 0, .int .i64 2]], .vs 2 .any [.agg [.int .i64 4, .int .i64 6]], .vs 2 .any [.agg [.str ⟨#[111]⟩, .int .i64 8]]]]
def rr38_0 : AV := .tup [.agg [.vs 1 .any [.str ⟨#[97]⟩], .vs 3 .any [.agg [.str ⟨#[112]⟩, .int .u8 0, .int .i64 2], .agg [.str ⟨#[113]⟩, .int .u8 0, .int .i64 2]], .vs 2 .any [.agg [.int .i64 4, .int .i64 6]], .vs 2 .any [.agg [.str ⟨#[111]⟩, .int .i64 8]]], .int .i64 0]
theorem rk38_0 : runIs (En ap2) 10000 38 ra38_0 rr38_0 = true := by kernel_rfl
def ra38_1 : List AV := [.agg [.vs 1 .any [.str ⟨#[97]⟩], .vs 3 .any [.agg [.str ⟨#[112]⟩, .int .u8 0, .int .i64 2]], .nilsl, .vs 2 .any [.agg [.str ⟨#[111]⟩, .int .i64 4]]]]
def rr38_1 : AV := .tup [.agg [.vs 1 .any [.str ⟨#[97]⟩], .vs 3 .any [.agg [.str ⟨#[112]⟩, .int .u8 0, .int .i64 2]], .nilsl, .vs 2 .any [.agg [.str ⟨#[111]⟩, .int .i64 4]]], .int .i64 0]
theorem rk38_1 : runIs (En ap2) 10000 38 ra38_1 rr38_1 = true := by kernel_rfl
def tab38 : List (List AV × AV) := [(ra38_0, rr38_0), (ra38_1, rr38_1)]
theorem tabok38 : TabOk (En ap2) 38 tab38 := (.cons 10000 rk38_0 (.cons 10000 rk38_1 .nil))
def ra39_0 : List AV := [.agg [.vs 1 .any [.str ⟨#[97]⟩], .vs 3 .any [.agg [.str ⟨#[112]⟩, .int .u8 0, .int .i64 2], .agg [.str ⟨#[113]⟩, .int .u8 0, .int .i64 2]], .vs 2 .any [.agg [.int .i64 4, .int .i64 6]], .vs 2 .any [.agg [.str ⟨#[111]⟩, .int .i64 8]]]]
def rr39_0 : AV := .tup [.agg [.vs 1 .any [.str ⟨#[97]⟩], .vs 3 .any [.agg [.str ⟨#[112]⟩, .int .u8 0, .int .i64 2], .agg [.str ⟨#[113]⟩, .int .u8 0, .int .i64 2]], .vs 2 .any [.agg [.int .i64 4, .int .i64 6]], .vs 2 .any [.agg [.str ⟨#[111]⟩, .int .i64 8]]], .int .i64 0]
theorem rk39_0 : runIs (En ap2) 10000 39 ra39_0 rr39_0 = true := by kernel_rfl
def tab39 : List (List AV × AV) := [(ra39_0, rr39_0)]
theorem tabok39 : TabOk (En ap2) 39 tab39 := (.cons 10000 rk39_0 .nil)
def ra40_0 : List AV := [.agg [.vs 1 .any [.str ⟨#[97]⟩], .vs 3 .any [.agg [.str ⟨#[112]⟩, .int .u8 0, .int .i64 2], .agg [.str ⟨#[113]⟩, .int .u8 0, .int .i64 2]], .vs 2 .any [.agg [.int .i64 4, .int .i64 6]], .vs 2 .any [.agg [.str ⟨#[111]⟩, .int .i64 8]]]]
def rr40_0 : AV := .tup [.agg [.vs 1 .any [.str ⟨#[97]⟩], .vs 3 .any [.agg [.str ⟨#[112]⟩, .int .u8 0, .int .i64 2], .agg [.str ⟨#[113]⟩, .int .u8 0, .int .i64 2]], .vs 2 .any [.agg [.int .i64 4, .int .i64 6]], .vs 2 .any [.agg [.str ⟨#[111]⟩, .int .i64 8]]], .int .i64 0]
theorem rk40_0 : runIs (En ap2) 10000 40 ra40_0 rr40_0 = true := by kernel_rfl
def ra40_1 : List AV := [.agg [.vs 1 .any [.str ⟨#[97]⟩], .vs 3 .any [.agg [.str ⟨#[112]⟩, .int .u8 0, .int .i64 2]], .nilsl, .vs 2 .any [.agg [.str ⟨#[111]⟩, .int .i64 4]]]]
def rr40_1 : AV := .tup [.agg [.vs 1 .any [.str ⟨#[97]⟩], .vs 3 .any [.agg [.str ⟨#[112]⟩, .int .u8 0, .int .i64 2]], .nilsl, .vs 2 .any [.agg [.str ⟨#[111]⟩, .int .i64 4]]], .int .i64 0]
theorem rk40_1 : runIs (En ap2) 10000 40 ra40_1 rr40_1 = true := by kernel_rfl
def tab40 : List (List AV × AV) := [(ra40_0, rr40_0), (ra40_1, rr40_1)]
theorem tabok40 : TabOk (En ap2) 40 tab40 := (.cons 10000 rk40_0 (.cons 10000 rk40_1 .nil))
def ap3 : Prims := (addP (addP (addP (addP (addP (addP ap2 29 (tabPrim tab29)) 24 (tabPrim tab24)) 19 (tabPrim tab19)) 38 (tabPrim tab38)) 39 (tabPrim tab39)) 40 (tabPrim tab40))
theorem good3 : Good ap3 := (Good.addT (Good.addT (Good.addT (Good.addT (Good.addT (Good.addT good2 (tabok29.does (En_ok _) good2.ok (hent Tryz.func29))) (tabok24.does (En_ok _) good2.ok (hent Tryz.func24))) (tabok19.does (En_ok _) good2.ok (hent Tryz.func19))) (tabok38.does (En_ok _) good2.ok (hent Tryz.func38))) (tabok39.does (En_ok _) good2.ok (hent Tryz.func39))) (tabok40.does (En_ok _) good2.ok (hent Tryz.func40)))
end Go.OptEnv

/- Closed calls of awake, level 3. -/
namespace Go.OptEnv
open Go Go.Proofs Go.Abs Go.RowKit
set_option maxRecDepth 100000
def ra45_0 : List AV := [.agg [.vs 1 .any [.str ⟨#[97]⟩], .vs 3 .any [.agg [.str ⟨#[112]⟩, .int .u8 0, .int .i64 2], .agg [.str ⟨#[113]⟩, .int .u8 0, .int .i64 2]], .vs 2 .any [.agg [.int .i64 4, .int .i64 6]], .vs 2 .any [.agg [.str ⟨#[111]⟩, .int .i64 8]]]]
def rr45_0 : AV := .tup [.agg [.vs 1 .any [.str ⟨#[97]⟩], .vs 3 .any [.agg [.str ⟨#[112]⟩, .int .u8 0, .int .i64 2]], .nilsl, .vs 2 .any [.agg [.str ⟨#[111]⟩, .int .i64 4]]], .int .i64 0]
theorem rk45_0 : runIs (En ap3) 10000 45 ra45_0 rr45_0 = true := by kernel_rfl
def tab45 : List (List AV × AV) := [(ra45_0, rr45_0)]
theorem tabok45 : TabOk (En ap3) 45 tab45 := (.cons 10000 rk45_0 .nil)
def ap4 : Prims := (addP ap3 45 (tabPrim tab45))
theorem good4 : Good ap4 := (Good.addT good3 (tabok45.does (En_ok _) good3.ok (hent Tryz.func45)))
end Go.OptEnv

/- awake(), a closed run: opt's functions at the chapter's examples. -/
namespace Go.OptEnv
open Go Go.Proofs Go.Abs Go.RowKit
set_option maxRecDepth 100000
theorem awake_run : isT (callF (En ap4) 10000 16 [] St.empty) = true := by kernel_rfl
/-- awake() says true, and leaves what was there. -/
theorem awake_calls (w : World) : Calls Tryz.prog 16 #[] w fun e w' => e = .returned (.bool true) ∧ Below w.heap.size w w' := by
  obtain ⟨st, h⟩ := isT_spec awake_run
  refine (closed_calls (En_ok _) good4.ok h w).mono ?_
  rintro e w' ⟨v, Γ, rfl, hb, hr⟩
  simp only [R] at hr
  subst hr
  exact ⟨rfl, hb⟩
end Go.OptEnv
