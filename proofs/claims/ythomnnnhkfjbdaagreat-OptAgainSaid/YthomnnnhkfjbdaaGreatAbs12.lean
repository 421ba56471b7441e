/- Own text of this claim: part 12 of an interpreter that is proved sound against the model, and of what it shows of the law. -/
import Derived.Test.YthomnnnhkfjbdaaGreatAbs10
import Derived.Test.YthomnnnhkfjbdaaGreatAbs11
import Derived.Test.YthomnnnhkfjbdaaGreatAbs9
namespace Go.Abs
section
variable {E : Env} {N : Nat} {l : List (Nat × AV)} {L : List (Nat × AObj)} {K : List (Nat × Bool)} {Q : AExit -> TM -> St -> Prop}
variable {pol : Nat -> Nat} {ops : Array Oper} {r : List Oper} {i : Nat} {d : Nat} {ty : TypeId} {pos : String} {after : Array Edge} {guard : Option (Nat × Bool)}
def cutV (sz b len : Nat) : List AV -> AV
 | [] => .nilsl
 | _ :: _ => .sl sz b 0 len
theorem cutV_all {sz b : Nat} {xs : List AV} : slR sz b xs = cutV sz b xs.length xs := by cases xs <;> rfl
theorem cutV_cons {sz b len : Nat} {xs : List AV} (h : xs ≠ []) : cutV sz b len xs = .sl sz b 0 len /\ slO sz b xs = [(b, .row sz xs)] := by
 cases xs with
 | nil => exact absurd rfl h
 | cons x xs => exact ⟨rfl, rfl⟩
theorem OD.appendS {ts tx e : TypeId} {s x : Operand} {sz sz' b len : Nat} {xs ys : List AV} {a : AV} {tys tyx et : Ty} (hn : Nat.blt d N = true) (hpol : Nat.beq (pol i) 1 = true) (hs : evL l s = some (.sl sz b 0 len)) (hx : evL l x = some a) (hlen : len <= xs.length)
  (h1 : E.ty ts = some tys) (h2 : E.ty tx = some tyx) (h3 : tys.d = .slice e) (h4 : E.ty e = some et) (h5 : Nat.blt 0 et.size = true) (h6 : sz = et.size) (h7 : (∃ e', tyx.d = .slice e') /\ isStrA a = false) (h8 : ∀ st, elemsA st a = some (sz', ys)) (h9 : okElems et ys = true) (h10 : (ys.isEmpty || Nat.beq sz' et.size) = true)
  (hroom : roomA et (len + ys.length) = true) (hy : ys ≠ []) (k : ∀ b', OS E false pol ops r (i + 1) N ((d, cutV sz b' (len + ys.length) (xs.take len ++ ys)) :: l) (L ++ slO sz b' (xs.take len ++ ys)) K Q) :
  OD E false pol ops { dst := some d, op := .call { callee := .builtin .append, args := #[s, x], argTypes := #[ts, tx] }, type := ty, pos := pos, after := after, guard := guard } r i N l (L ++ [(b, .row sz xs)]) K Q := by
 subst h6
 have hne : xs.take len ++ ys ≠ [] := fun c => hy (List.append_eq_nil_iff.1 c).2
 have k : ∀ b', OS E false pol ops r (i + 1) N ((d, .sl et.size b' 0 (len + ys.length)) :: l) (L ++ [(b', .row et.size (xs.take len ++ ys))]) K Q := fun b' => by
  have := k b'
  rw [(cutV_cons hne).1, (cutV_cons (len := 0) hne).2] at this
  exact this
 refine .loud rfl rfl (fun _ h => by cases h) fun tm st hF => ?_
 have h0 : Abs.loud E noCall (pol i) tm st { dst := some d, op := .call { callee := .builtin .append, args := #[s, x], argTypes := #[ts, tx] }, type := ty, pos := pos, after := after, guard := guard } = appendOpA E (pol i == 1) st ts tx (evalO tm s) (evalO tm x) := rfl
 have hp : (pol i == 1) = true := by
  have := Nat.eq_of_beq_eq_true hpol
  simp [this]
 rw [h0, hF.ev hs, hF.ev hx, hp, appendOp_key h1 h2 h3 h4 h5 (.inr h7) st (h8 st) h9 h10]
 have hg := (hF.obj L.length b (.row et.size xs) get_last).1
 refine ⟨.sl et.size st.next 0 (len + ys.length), (st.drop b).new (.row et.size (xs.take len ++ ys)), (d, .sl et.size st.next 0 (len + ys.length)) :: l, L ++ [(st.next, .row et.size (xs.take len ++ ys))], K, ?_, ?_, k st.next⟩
 ·simp only [appendA, hg]
  rw [if_pos ⟨trivial, trivial, by omega, hroom⟩]
  simp
 ·have hS := hF.s.swap (kk := L.length) get_last (.row et.size (xs.take len ++ ys))
  rw [set_last] at hS
  exact (hF.withS2 hS).put hn _
end
end Go.Abs
namespace Go.OptEnv
open Go Go.Proofs Go.Abs Go.RowKit Go.NetM
set_option maxRecDepth 10000
def halfAV (x : Int) : AV := .int .i64 (x / 2)
theorem rep_half (k : Nat) : List.replicate k (AV.int .i64 0) = (List.replicate k (0 : Int)).map halfAV := by rw [List.map_replicate]; rfl
theorem bldI {pr : Prims} {s : GSl ByteArray} : buildA (En pr) 27 [(0, s.av 1 strAV)] = some (.agg [s.av 1 strAV, .nilsl, .nilsl, .nilsl]) := by
 unfold GSl.av; split <;> rfl
def onlyN (n : GNet) (keep : List Bool) : GNet := ⟨n.ins, GSl.of ((keptRegs n keep).map (withNext (keptS n keep).1)), GSl.of (keptS n keep).2, GSl.of (n.outs.xs.map (withLit (keptS n keep).1))⟩
theorem only_same (n : GNet) (keep : List Bool) : SameC (onlyN n keep) (keptN n keep) := ⟨rfl, rfl, rfl, rfl⟩
theorem st_rA {i g o : AV} {r : AV} {t sz : Nat} {xs : List AV} : AObj.row 4 ([AV.agg [i, r, g, o]].set 0 (.agg ([i, r, g, o].take 1 ++ (accA t sz xs).cells ++ [i, r, g, o].drop (1 + (accA t sz xs).cells.length)))) = keptO i (accA t sz xs) g o := by
 rw [acc_cells]; rfl
attribute [local irreducible] WS QS OS OD Abs.Sub SubO SubK CW GSl.av accA growA
section
variable {pr : Prims} {L : List (Nat × AObj)} {K : List (Nat × Bool)} {st : St}
theorem run101 (h1 : pr 101 = none) (k8 kl : Nat) {b8 lb : Nat} {lits : List Int} (hx : L[k8]? = some (b8, .row 1 [.sl 1 lb 0 lits.length])) (hL : L[kl]? = some (lb, .row 1 (lits.map halfAV))) {l : Int} (hl : 0 <= l /\ (l / 2).toNat < lits.length) (hl2 : l < 4611686018427387904) (hv : 0 <= lits.getD (l / 2).toNat 0 /\ lits.getD (l / 2).toNat 0 < 4611686018427387904) (he : lits.getD (l / 2).toNat 0 % 2 = 0) (hS : SFa L K st) :
  CW (En pr) 101 [.int .i64 l, .ptr b8 0 0] st fun r st' => r = .int .i64 (atL lits l) /\ SFa L K st' := by
 have hw : IntKind.i64.wrap (l.tdiv 2) = l / 2 := by
  rw [Int.tdiv_eq_ediv_of_nonneg hl.1]
  exact wrap64 (by omega) (by omega)
 have hw2 : IntKind.i64.wrap (l.tmod 2) = l % 2 := by
  rw [Int.tmod_eq_emod_of_nonneg hl.1]
  exact wrap64 (by omega) (by omega)
 have hidx : indexAddrA (En pr) 38 (.sl 1 lb 0 lits.length) (.int .i64 (IntKind.i64.wrap (l.tdiv 2))) = some (.ptr lb (l / 2).toNat 0) := by
  rw [hw, show l / 2 = (((l / 2).toNat : Nat) : Int) by omega]
  exact indexAddrA_sl rfl rfl rfl rfl (by omega)
 have hg : (lits.map halfAV)[(l / 2).toNat]? = some (halfAV (lits.getD (l / 2).toNat 0)) := by
  rw [List.getElem?_map, List.getD_eq_getElem?_getD, List.getElem?_eq_getElem hl.2]; rfl
 have hres := atL_half he
 refine CW.startS (N := 13) h1 rfl rfl hS ?_
 repeat' (first | (refine OS.do rfl ?_; first | refine OD.loadP k8 rfl rfl hx rfl rfl rfl ?_ | refine OD.indexAddr rfl rfl rfl hidx ?_ | refine OD.loadP kl rfl rfl hL hg rfl rfl ?_ | refine OD.auto rfl rfl ?_) | refine OS.nil ?_ | refine WS.seq ?_ | refine QS.seqN ?_ | refine WS.region ?_ | refine WS.ret ?_)
 have hw3 : IntKind.i64.wrap (IntKind.i64.wrap (2 * (lits.getD (l / 2).toNat 0 / 2)) + l.tmod 2) = atL lits l := by
  rw [<- hres, Int.tmod_eq_emod_of_nonneg hl.1, wrap64 (n := 2 * (lits.getD (l / 2).toNat 0 / 2)) (by omega) (by omega), wrap64 (by omega) (by omega)]
 exact QS.retRS (by rfl) fun st hs => ⟨by rw [hw3], hs⟩
set_option maxHeartbeats 4000000 in
theorem run54 (h1 : pr 54 = none) (h101 : pr 101 = none) (kk kp : Nat) {kb mb : Nat} {kr : List Bool} {met : List Int} (hk : L[kk]? = some (kb, .row 1 (kr.map boolAV))) (hm : L[kp]? = some (mb, .map 3 4 (entsI met))) (n : GNet) (hV : validM n = true) (hn : FitsN n) (keep : List Bool) (hkr : kr.length = n.regs.xs.length) (hke : ∀ (i : Nat) (h : i < kr.length), kr[i] = keep.getD (n.k0 + i) false) (hme : ∀ i, i < n.gates.xs.length -> decide (((n.kN + i : Nat) : Int) ∈ met) = keep.getD (n.kN + i) false) (hS : SFa L [] st) :
  CW (En pr) 54 [netAV n, .sl 1 kb 0 n.regs.xs.length, .map mb] st fun r st' => (AV.free r = true /\ AV.plain r = netAV (onlyN n keep)) /\ SFa L [] st' := by
 obtain ⟨f1, f2, f3, f4⟩ := valid_len hV
 obtain ⟨hgo, hrn, hol⟩ := valid_lits hV
 have hk1 : 1 <= n.kN /\ n.kN <= 2001 := by unfold GNet.kN; omega
 have hk0 : (n.k0 : Int) = 1 + n.ins.xs.length := by unfold GNet.k0; omega
 have hk01 : 0 < n.k0 := by unfold GNet.k0; omega
 have hk' : n.kN = n.k0 + n.regs.xs.length := rfl
 have hw : IntKind.i64.wrap (IntKind.i64.wrap (IntKind.i64.wrap (1 + (n.ins.xs.length : Int)) + (n.regs.xs.length : Int)) + (n.gates.xs.length : Int)) = ((n.kN + n.gates.xs.length : Nat) : Int) := by
  rw [wrap64 (n := 1 + (n.ins.xs.length : Int)) (by omega) (by omega), wrap64 (n := 1 + (n.ins.xs.length : Int) + (n.regs.xs.length : Int)) (by omega) (by omega), wrap64 (by omega) (by omega)]
  omega
 have hw0 : IntKind.i64.wrap (1 + (n.ins.xs.length : Int)) = (n.k0 : Int) := by rw [wrap64 (by omega) (by omega)]; omega
 refine CW.startS (N := 158) h1 rfl rfl hS ?_
 repeat' (first | (refine OS.do rfl ?_; first | refine OD.box rfl rfl rfl rfl (net_ok _) rfl (fun b3 => ?_) | refine OD.build rfl rfl bldI ?_ | refine OD.storeW 0 rfl rfl rfl rfl (ok4 (av_cellOk _ _ _) rfl rfl rfl) rfl rfl rfl ?_ | refine OD.auto rfl rfl ?_ | refine OD.loadP 1 rfl rfl rfl rfl rfl rfl ?_ | refine OD.len rfl rfl (fun _ => lenTy_av rfl rfl) ?_ | refine OD.loadP 2 rfl rfl rfl rfl rfl rfl ?_ | refine OD.alloc rfl rfl rfl rfl (fun _ => ?_) | refine OD.storeW 0 rfl rfl rfl rfl (by first | rfl | exact net_ok _) rfl rfl rfl ?_ | refine OD.makeSlice (n := n.kN + n.gates.xs.length) rfl (congrArg (fun z => some (AV.int .i64 z)) hw) (congrArg (fun z => some (AV.int .i64 z)) hw) rfl rfl rfl rfl rfl (roomB rfl (by omega)) (fun lb => ?_) | refine OD.loadP 4 rfl rfl rfl rfl rfl rfl ?_) | refine OS.nil ?_ | refine WS.seq ?_ | refine QS.seqN ?_ | refine WS.region ?_ | refine WS.block ?_)
 rename_i b6 b7 b8
 have hmo : AObj.row ty27.size [AV.agg [n.ins.av 1 strAV, .nilsl, .nilsl, .nilsl]] = keptO (n.ins.av 1 strAV) (accA 0 3 (([] : List GReg).map regAV)) (accA 0 2 (([] : List (Int × Int)).map gateAV)) (accA 0 2 (([] : List GPin).map pinAV)) := by
  simp only [List.map_nil, acc_nil]; rfl
 rw [show List.replicate (n.kN + n.gates.xs.length) ty3.zeroV = (((idL 0) ++ List.replicate ((n.kN + n.gates.xs.length) - (idL 0).length) 0).map halfAV) from rep_half _, hw0]
 refine WS.objs (L' := (b8, .row ty38.size [.sl ty3.size lb 0 (n.kN + n.gates.xs.length)]) :: (lb, .row ty3.size (((idL 0) ++ List.replicate ((n.kN + n.gates.xs.length) - (idL 0).length) 0).map halfAV)) :: (b7, keptO (n.ins.av 1 strAV) (accA 0 3 (([] : List GReg).map regAV)) (accA 0 2 (([] : List (Int × Int)).map gateAV)) (accA 0 2 (([] : List GPin).map pinAV))) :: (b6, .row ty27.size [ty27.zeroV]) :: (b3, .row ty27.size [netAV n]) :: L) (by rw [<- hmo]; exact SubO.refl _) ?_
 have hzero : ∀ {lits : List Int} {i : Nat}, lits.length = i -> i < (n.kN + n.gates.xs.length) -> ((((lits) ++ List.replicate ((n.kN + n.gates.xs.length) - (lits).length) 0).map halfAV))[i]? = some (.int .i64 0) := fun {lits i} hl hi => by
  rw [List.getElem?_map, List.getElem?_append_right (by omega), hl, Nat.sub_self, List.getElem?_replicate, if_pos (by omega)]; rfl
 have hset : ∀ {lits : List Int} {i : Nat} (x : Int), lits.length = i -> i < (n.kN + n.gates.xs.length) -> ((((lits) ++ List.replicate ((n.kN + n.gates.xs.length) - (lits).length) 0).map halfAV)).set i (.int .i64 x) = (((lits ++ [2 * x]) ++ List.replicate ((n.kN + n.gates.xs.length) - (lits ++ [2 * x]).length) 0).map halfAV) := fun {lits i} x hl hi => by
  have hrep : (n.kN + n.gates.xs.length) - lits.length = ((n.kN + n.gates.xs.length) - (lits.length + 1)) + 1 := by omega
  have e : ((((lits) ++ List.replicate ((n.kN + n.gates.xs.length) - (lits).length) 0).map halfAV)).set i (.int .i64 x) = (((lits) ++ List.replicate ((n.kN + n.gates.xs.length) - (lits).length) 0).set lits.length (2 * x)).map halfAV := by rw [List.map_set, hl]; unfold halfAV; rw [show 2 * x / 2 = x by omega]
  rw [e, hrep, set_zeros, List.length_append]; rfl
 have hskip : ∀ {lits : List Int} {i : Nat}, lits.length = i -> i < (n.kN + n.gates.xs.length) -> lits ++ List.replicate ((n.kN + n.gates.xs.length) - lits.length) 0 = (lits ++ [0]) ++ List.replicate ((n.kN + n.gates.xs.length) - (lits ++ [0]).length) 0 := fun {lits i} hl hi => by
  rw [show (n.kN + n.gates.xs.length) - lits.length = ((n.kN + n.gates.xs.length) - (lits.length + 1)) + 1 by omega, skip_zeros]
  simp
 refine WS.loopX (D := Nat) [1, 2, 3, 6, 7, 8, 9, 41] (fun j => [(42, .int .i64 (j : Int))]) (fun j => (b8, .row ty38.size [.sl ty3.size lb 0 (n.kN + n.gates.xs.length)]) :: (lb, .row ty3.size (((idL j) ++ List.replicate ((n.kN + n.gates.xs.length) - (idL j).length) 0).map halfAV)) :: (b7, keptO (n.ins.av 1 strAV) (accA 0 3 (([] : List GReg).map regAV)) (accA 0 2 (([] : List (Int × Int)).map gateAV)) (accA 0 2 (([] : List GPin).map pinAV))) :: (b6, .row ty27.size [ty27.zeroV]) :: (b3, .row ty27.size [netAV n]) :: L) (fun _ => []) (fun j => j <= n.k0) (fun j => n.k0 - j) (0) (Nat.zero_le _) ?_
 rintro j hj
 try dsimp only at hj
 dsimp only [RSt.at, List.cons_append, List.nil_append]
 repeat' (first | (refine OS.do rfl ?_; first | refine OD.loadP 0 rfl rfl rfl rfl rfl rfl ?_ | refine OD.auto rfl rfl ?_ | refine OD.len rfl rfl (fun _ => rfl) ?_ | refine OD.indexAddr rfl rfl rfl (indexAddrA_sl rfl rfl rfl rfl (by omega)) ?_ | refine OD.storeI 1 rfl rfl rfl rfl rfl (hzero (idL_len j) (by omega)) ?_) | refine OS.nil ?_ | refine WS.seq ?_ | refine QS.seqN ?_ | refine WS.region ?_ | refine WS.condD rfl (fun _ => ?_) (fun _ => ?_) | refine WS.skip ?_ | refine WS.block ?_ | refine QS.blockN ?_ | refine WS.exit ?_ | refine QS.seqE ?_ | refine QS.blockH ?_ | refine QS.loopE ?_)
 ·rename_i hc
  have hj2 : j < (n.kN + n.gates.xs.length) := by omega
  dsimp only [List.set_cons_zero, List.set_cons_succ]
  rw [hset _ (idL_len j) hj2, <- idL_succ]
  exact QS.loopX (j + 1) (by exact (by show j + 1 <= n.k0; omega)) (by exact (by show n.k0 - (j + 1) < n.k0 - j; omega))
 rename_i hc
 have hjk : j = n.k0 := by omega
 subst hjk
 refine WS.rangeX (A := List Int × Nat) (n := n.regs.xs.length) ⟨53, _, fun a => [(9, .int .i64 ((n.k0 + a.2 : Nat) : Int))], fun a => (b8, .row ty38.size [.sl ty3.size lb 0 (n.kN + n.gates.xs.length)]) :: (lb, .row ty3.size (((a.1) ++ List.replicate ((n.kN + n.gates.xs.length) - (a.1).length) 0).map halfAV)) :: (b7, keptO (n.ins.av 1 strAV) (accA 0 3 (([] : List GReg).map regAV)) (accA 0 2 (([] : List (Int × Int)).map gateAV)) (accA 0 2 (([] : List GPin).map pinAV))) :: (b6, .row ty27.size [ty27.zeroV]) :: (b3, .row ty27.size [netAV n]) :: L, fun _ => [], fun i a => a = selRM n.k0 keep i⟩ ((idL n.k0, 0)) [1, 2, 3, 6, 7, 8, 11, 51, 52] (rfl) ?_ ?_
 ·rintro i ⟨lits, c⟩ hi hA
  try dsimp only at hA
  have hl : lits.length = n.k0 + i := by
   have := selRM_len (k0 := n.k0) (keep := keep) i
   rw [<- hA] at this; exact this
  have hRl : c <= i := by
   have := selRM_cnt (k0 := n.k0) (keep := keep) i
   rw [<- hA] at this; exact this
  have hkb : (kr.map boolAV)[i]? = some (.bool (keep.getD (n.k0 + i) false)) := by
   rw [List.getElem?_map, List.getElem?_eq_getElem (by omega), Option.map_some, hke i (by omega)]; rfl
  have hki : indexAddrA (En pr) 38 (.sl ty3.size lb 0 (n.kN + n.gates.xs.length)) (.int .i64 (IntKind.i64.wrap (IntKind.i64.wrap (1 + (n.ins.xs.length : Int)) + (i : Int)))) = some (.ptr lb (n.k0 + i) 0) := by
   rw [hw0, show IntKind.i64.wrap ((n.k0 : Int) + (i : Int)) = ((n.k0 + i : Nat) : Int) by rw [wrap64 (by omega) (by omega)]; omega]; exact indexAddrA_sl rfl rfl rfl rfl (by omega)
  have hw9 : IntKind.i64.wrap (((n.k0 + c : Nat) : Int) + 1) = ((n.k0 + (c + 1) : Nat) : Int) := by rw [wrap64 (by omega) (by omega)]; omega
  dsimp only [RSt.at, List.cons_append, List.nil_append]
  repeat' (first | (refine OS.do rfl ?_; first | refine OD.indexAddr rfl rfl rfl hki ?_ | refine OD.loadP (kk + 5) rfl rfl hk hkb rfl rfl ?_ | refine OD.loadP 0 rfl rfl rfl rfl rfl rfl ?_ | refine OD.auto rfl rfl ?_ | refine OD.len rfl rfl (fun _ => lenTy_av rfl rfl) ?_ | refine OD.loadP 4 rfl rfl rfl rfl rfl rfl ?_ | refine OD.indexAddr rfl rfl rfl (indexAddrA_sl rfl rfl rfl rfl (by omega)) ?_ | refine OD.storeI 1 rfl rfl rfl rfl rfl (hzero hl (by omega)) ?_) | refine OS.nil ?_ | refine WS.seq ?_ | refine QS.seqN ?_ | refine WS.region ?_ | refine WS.skip ?_ | refine WS.condB rfl (fun _ => ?_) (fun _ => ?_))
  ·rename_i hb
   dsimp only [List.set_cons_zero, List.set_cons_succ]
   rw [hset _ hl (by omega), hw9]
   exact QS.rangeX ((lits ++ [2 * ((n.k0 + c : Nat) : Int)], c + 1)) (by (try dsimp only) <;> exact (by rw [selRM_yes hA hb]))
  ·rename_i hb
   rw [hskip hl (by omega)]
   exact QS.rangeX ((lits ++ [0], c)) (by (try dsimp only) <;> exact (by rw [selRM_no hA hb]))
 rintro ⟨lits0, c⟩ hA0
 try dsimp only at hA0
 have hcnt : (selRM n.k0 keep n.regs.xs.length).2 = c := by rw [<- hA0]
 have hRl : c <= n.regs.xs.length := by rw [<- hcnt]; exact selRM_cnt _
 have hsm : ∀ i, i <= n.gates.xs.length -> ShOk (n.k0 + c) (n.kN + i) i (selM n.k0 n.regs.xs.length keep (n.gates.xs.take i)) := fun i hi => by
  have := sel_ok (nregs := n.regs.xs.length) hk01 (keep := keep) n.gates.xs i hi
  rw [hcnt, <- hk'] at this
  exact this
 dsimp only [RSt.at, List.cons_append, List.nil_append]
 repeat' (first | (refine OS.do rfl ?_; first | refine OD.auto rfl rfl ?_ | refine OD.len rfl rfl (fun _ => lenTy_av rfl rfl) ?_ | refine OD.loadP 4 rfl rfl rfl rfl rfl rfl ?_) | refine OS.nil ?_ | refine WS.seq ?_ | refine QS.seqN ?_ | refine WS.region ?_ | refine WS.block ?_)
 refine WS.newK ?_
 refine WS.rangeX (A := Nat × List Int × List (Int × Int)) (n := n.gates.xs.length) ⟨74, _, fun a => [(9, .int .i64 ((n.k0 + c + a.2.2.length : Nat) : Int))], fun a => (b8, .row ty38.size [.sl ty3.size lb 0 (n.kN + n.gates.xs.length)]) :: (lb, .row ty3.size (((a.2.1) ++ List.replicate ((n.kN + n.gates.xs.length) - (a.2.1).length) 0).map halfAV)) :: (b7, keptO (n.ins.av 1 strAV) (accA 0 3 (([] : List GReg).map regAV)) (accA a.1 2 (a.2.2.map gateAV)) (accA 0 2 (([] : List GPin).map pinAV))) :: (b6, .row ty27.size [ty27.zeroV]) :: (b3, .row ty27.size [netAV n]) :: L, fun a => [(a.1, !a.2.2.isEmpty)], fun i a => (a.2.1, a.2.2) = selM n.k0 n.regs.xs.length keep (n.gates.xs.take i)⟩ ((0, lits0, [])) [1, 2, 3, 6, 7, 8, 11, 72, 73] (by show (lits0, ([] : List (Int × Int))) = ((selRM n.k0 keep n.regs.xs.length).1, []); rw [<- hA0]) ?_ ?_
 ·rintro j ⟨tg, lits, G⟩ hj hA
  try dsimp only at hA
  have hs := hsm j (by omega)
  rw [<- hA] at hs
  have hev : evL lits := by
   have := selM_ev (k0 := n.k0) (nregs := n.regs.xs.length) (keep := keep) n.gates.xs j (by omega)
   rw [<- hA] at this; exact this
  have hl : lits.length = n.kN + j := hs.len
  have hGl := hs.gates
  try dsimp only at hGl
  obtain ⟨⟨g1, g2⟩, g3, g4⟩ := hgo j hj
  have hwk : IntKind.i64.wrap (IntKind.i64.wrap (IntKind.i64.wrap (1 + (n.ins.xs.length : Int)) + (n.regs.xs.length : Int)) + (j : Int)) = ((n.kN + j : Nat) : Int) := by
   rw [hw0, wrap64 (n := (n.k0 : Int) + (n.regs.xs.length : Int)) (by omega) (by omega), wrap64 (by omega) (by omega)]; omega
  have hki : indexAddrA (En pr) 38 (.sl ty3.size lb 0 (n.kN + n.gates.xs.length)) (.int .i64 (IntKind.i64.wrap (IntKind.i64.wrap (IntKind.i64.wrap (1 + (n.ins.xs.length : Int)) + (n.regs.xs.length : Int)) + (j : Int)))) = some (.ptr lb (n.kN + j) 0) := by
   rw [hwk]; exact indexAddrA_sl rfl rfl rfl rfl (by omega)
  have hw9 : IntKind.i64.wrap (((n.k0 + c + G.length : Nat) : Int) + 1) = ((n.k0 + c + (G ++ [(atL lits n.gates.xs[j].1, atL lits n.gates.xs[j].2)]).length : Nat) : Int) := by rw [wrap64 (by omega) (by omega), List.length_append, List.length_singleton]; omega
  have u101 : ∀ (l v : Int), 0 <= l /\ l < 2 * ((n.kN + j : Nat) : Int) -> ∀ {L' : List (Nat × AObj)} {K' : List (Nat × Bool)} (k8 kl : Nat), L'[k8]? = some (b8, .row 1 [.sl 1 lb 0 (n.kN + n.gates.xs.length)]) -> L'[kl]? = some (lb, .row 1 (((lits ++ [v]) ++ List.replicate ((n.kN + n.gates.xs.length) - (lits ++ [v]).length) 0).map halfAV)) -> ∀ st, SFa L' K' st -> CW (En pr) 101 [.int .i64 l, .ptr b8 0 0] st fun r st' => r = .int .i64 (atL lits l) /\ SFa L' K' st' := fun l v hl2 L' K' k8 kl h8 hL st hS => by
   have hr := hs.range (l / 2).toNat
   dsimp only at hr
   have hgd : ((lits ++ [v]) ++ List.replicate ((n.kN + n.gates.xs.length) - (lits ++ [v]).length) 0).getD (l / 2).toNat 0 = lits.getD (l / 2).toNat 0 := by rw [getD_zeros, getD_snocI, if_pos (by omega)]
   have hLen : ((lits ++ [v]) ++ List.replicate ((n.kN + n.gates.xs.length) - (lits ++ [v]).length) 0).length = (n.kN + n.gates.xs.length) := by simp only [List.length_append, List.length_singleton, List.length_replicate]; omega
   have := run101 h101 k8 kl (l := l) (lits := (lits ++ [v]) ++ List.replicate ((n.kN + n.gates.xs.length) - (lits ++ [v]).length) 0) (by rw [hLen]; exact h8) hL ⟨hl2.1, by rw [hLen]; omega⟩ (by omega) (by rw [hgd]; omega) (by rw [hgd]; exact hev _) hS
   rw [atL_front (by omega)] at this
   exact this
  have hgm : G.map gateAV ++ [gateAV (atL lits n.gates.xs[j].1, atL lits n.gates.xs[j].2)] = (G ++ [(atL lits n.gates.xs[j].1, atL lits n.gates.xs[j].2)]).map gateAV := by rw [List.map_append]; rfl
  dsimp only [RSt.at, List.cons_append, List.nil_append]
  repeat' (first | (refine OS.do rfl ?_; first | refine OD.lookup (kp + 6) rfl rfl rfl hm (fun st hst => (lookI hst).trans (by rw [hwk, hme j hj])) ?_ | refine OD.indexAddr rfl rfl rfl hki ?_ | refine OD.auto rfl rfl ?_ | refine OD.loadP 1 rfl rfl rfl rfl rfl rfl ?_ | refine OD.len rfl rfl (fun _ => lenTy_av rfl rfl) ?_ | refine OD.indexAddr rfl rfl rfl (indexAddrA_nat rfl rfl rfl rfl (by first | assumption | exact List.getElem?_eq_getElem (by omega))) ?_ | refine OD.alloc rfl rfl rfl rfl (fun _ => ?_) | refine OD.storeW 0 rfl rfl rfl rfl (by first | rfl | exact net_ok _) rfl rfl rfl ?_ | refine OD.loadP 5 rfl rfl rfl rfl rfl rfl ?_ | refine OD.storeI 2 rfl rfl rfl rfl rfl (hzero hl (by omega)) ?_) | refine OS.nil ?_ | refine WS.seq ?_ | refine QS.seqN ?_ | refine WS.region ?_ | refine WS.skip ?_ | refine WS.condB rfl (fun _ => ?_) (fun _ => ?_))
  ·rename_i hb
   try dsimp only [List.set_cons_zero, List.set_cons_succ]
   rw [hset _ hl (by omega), hw9]
   refine WS.drawY 10 [] (K := [(tg, !G.isEmpty)]) rfl rfl rfl rfl ?_; (repeat' (first | refine SegY.nil ?_ | refine SegY.loadP 3 rfl rfl rfl rfl rfl rfl rfl ?_ | refine SegY.callW (D := Unit) (fun _ => True) (fun _ => .int .i64 (atL lits n.gates.xs[j].1)) (fun _ => []) (fun _ => []) rfl rfl rfl rfl (fun st hS => (u101 _ _ ⟨g1, g2⟩ 1 2 rfl rfl st hS).mono fun r st' ⟨e, hs⟩ => ⟨(), st', trivial, by subst e; rfl, hs⟩) (fun _ _ => ?_) | refine SegY.callW (D := Unit) (fun _ => True) (fun _ => .int .i64 (atL lits n.gates.xs[j].2)) (fun _ => []) (fun _ => []) rfl rfl rfl rfl (fun st hS => (u101 _ _ ⟨g3, g4⟩ 1 2 rfl rfl st hS).mono fun r st' ⟨e, hs⟩ => ⟨(), st', trivial, by subst e; rfl, hs⟩) (fun _ _ => ?_) | refine SegY.auto rfl rfl rfl rfl ?_ | refine SegY.loadP 0 rfl rfl rfl rfl rfl rfl rfl ?_ | refine SegY.loadP 1 rfl rfl rfl rfl rfl rfl rfl ?_ | refine SegY.loadP 2 rfl rfl rfl rfl rfl rfl rfl ?_ | refine SegY.indexAddr rfl rfl rfl rfl rfl ?_))
   dsimp only [RSt.at, List.cons_append, List.nil_append]
   repeat' (first | (refine OS.do rfl ?_; first | refine OD.auto rfl rfl ?_ | (refine OD.append 0 (xs := G.map gateAV) (ys := [gateAV (atL lits n.gates.xs[j].1, atL lits n.gates.xs[j].2)]) rfl rfl rfl rfl (by rw [List.isEmpty_map]; rfl) rfl rfl rfl rfl rfl rfl (.inr ⟨⟨_, rfl⟩, rfl⟩) (fun _ => rfl) rfl rfl (roomB rfl (by simp only [List.length_map, List.length_singleton]; omega)) (fun t' => ?_); rw [hgm]) | (refine OD.storeG 3 rfl rfl rfl rfl rfl acc_ok1 (by rw [acc_cells]; rfl) (by rw [acc_cells]; rfl) ?_; rw [st_gK])) | refine OS.nil ?_)
   try dsimp only [List.set_cons_zero, List.set_cons_succ, List.cons_append, List.nil_append]
   rw [List.isEmpty_map]
   exact QS.rangeX ((t', lits ++ [2 * ((n.k0 + c + G.length : Nat) : Int)], G ++ [(atL lits n.gates.xs[j].1, atL lits n.gates.xs[j].2)])) (by (try dsimp only) <;> exact (by rw [selM_yes hj hA (by rw [hl, hk']) (by rw [<- hk']; exact hb), hcnt])) (hL := by (try dsimp only); exact SubO.drop (SubO.refl _))
  ·rename_i hb
   rw [hskip hl (by omega)]
   exact QS.rangeX ((tg, lits ++ [0], G)) (by (try dsimp only) <;> exact (by rw [selM_no hj hA (by rw [hl, hk']) (by rw [<- hk']; exact hb)])) (hL := by (try dsimp only); exact SubO.drop (SubO.refl _))
 rintro ⟨tg, lits, G⟩ hA
 try dsimp only at hA
 rw [List.take_of_length_le (Nat.le_refl _)] at hA
 have hA : (lits, G) = keptS n keep := hA
 have hs := hsm n.gates.xs.length (Nat.le_refl _)
 rw [List.take_of_length_le (Nat.le_refl _), show selM n.k0 n.regs.xs.length keep n.gates.xs = (lits, G) from hA.symm] at hs
 have hev : evL lits := by
  have := selM_ev (k0 := n.k0) (nregs := n.regs.xs.length) (keep := keep) n.gates.xs n.gates.xs.length (Nat.le_refl _)
  rw [List.take_of_length_le (Nat.le_refl _), show selM n.k0 n.regs.xs.length keep n.gates.xs = (lits, G) from hA.symm] at this
  exact this
 have hLl := hs.len
 try dsimp only at hLl
 have hGl := hs.gates
 try dsimp only at hGl
 have hrow : (lits ++ List.replicate ((n.kN + n.gates.xs.length) - lits.length) 0) = lits := by rw [hLl, Nat.sub_self]; simp
 have u101 : ∀ (l : Int), 0 <= l /\ l < 2 * (((n.kN + n.gates.xs.length) : Nat) : Int) -> ∀ {L' : List (Nat × AObj)} {K' : List (Nat × Bool)} (k8 kl : Nat), L'[k8]? = some (b8, .row 1 [.sl 1 lb 0 (n.kN + n.gates.xs.length)]) -> L'[kl]? = some (lb, .row 1 (lits.map halfAV)) -> ∀ st, SFa L' K' st -> CW (En pr) 101 [.int .i64 l, .ptr b8 0 0] st fun r st' => r = .int .i64 (atL lits l) /\ SFa L' K' st' := fun l hl2 L' K' k8 kl h8 hL st hS => by
  have hr := hs.range (l / 2).toNat
  dsimp only at hr
  exact run101 h101 k8 kl (by rw [hLl]; exact h8) hL ⟨hl2.1, by omega⟩ (by omega) (by omega) (hev _) hS
 dsimp only [RSt.at, List.cons_append, List.nil_append]
 rw [hrow]
 repeat' (first | (refine OS.do rfl ?_; first | refine OD.auto rfl rfl ?_ | refine OD.len rfl rfl (fun _ => lenTy_av rfl rfl) ?_ | refine OD.loadP 4 rfl rfl rfl rfl rfl rfl ?_) | refine OS.nil ?_ | refine WS.seq ?_ | refine QS.seqN ?_ | refine WS.region ?_ | refine WS.block ?_)
 refine WS.newK ?_
 refine WS.rangeX (A := Nat × List GReg) (n := n.regs.xs.length) ⟨116, _, fun _ => [], fun a => (b8, .row ty38.size [.sl ty3.size lb 0 (n.kN + n.gates.xs.length)]) :: (lb, .row ty3.size ((lits).map halfAV)) :: (b7, keptO (n.ins.av 1 strAV) (accA a.1 3 (a.2.map regAV)) (accA tg 2 (G.map gateAV)) (accA 0 2 (([] : List GPin).map pinAV))) :: (b6, .row ty27.size [ty27.zeroV]) :: (b3, .row ty27.size [netAV n]) :: L, fun a => [(a.1, !a.2.isEmpty)], fun i a => a.2 = (pickL n.k0 keep n.regs.xs i).map (withNext lits)⟩ ((0, [])) [1, 3, 6, 7, 11, 114, 115] (by simp [pickL]) ?_ ?_
 ·rintro i ⟨tr, R⟩ hi hR
  try dsimp only at hR
  have hRl : R.length <= i := by
   rw [hR, List.length_map, pickL_len _ (by omega)]; exact selRM_cnt _
  have hrn' := hrn _ (List.getElem_mem hi)
  have hkb : (kr.map boolAV)[i]? = some (.bool (keep.getD (n.k0 + i) false)) := by
   rw [List.getElem?_map, List.getElem?_eq_getElem (by omega), Option.map_some, hke i (by omega)]; rfl
  have hgm : R.map regAV ++ [regAV (withNext lits n.regs.xs[i])] = (R ++ [withNext lits n.regs.xs[i]]).map regAV := by rw [List.map_append]; rfl
  dsimp only [RSt.at, List.cons_append, List.nil_append]
  repeat' (first | (refine OS.do rfl ?_; first | refine OD.loadP (kk + 6) rfl rfl hk hkb rfl rfl ?_ | refine OD.loadP 0 rfl rfl rfl rfl rfl rfl ?_ | refine OD.auto rfl rfl ?_ | refine OD.indexAddr rfl rfl rfl (indexAddrA_nat rfl rfl rfl rfl (by first | assumption | exact List.getElem?_eq_getElem (by omega))) ?_ | refine OD.alloc rfl rfl rfl rfl (fun _ => ?_) | refine OD.storeW 0 rfl rfl rfl rfl (by first | rfl | exact net_ok _) rfl rfl rfl ?_ | refine OD.loadP 3 rfl rfl rfl rfl rfl rfl ?_ | refine OD.indexAddr rfl rfl rfl (indexAddrA_sl rfl rfl rfl rfl (by omega)) ?_ | (refine OD.callP (fun v => v = .int .i64 (atL lits n.regs.xs[i].next)) rfl rfl rfl (fun st hS => u101 _ hrn' 1 2 rfl rfl st hS) (by rintro v st rfl; rfl) ?_; rintro v rfl) | (refine OD.append 0 (xs := R.map regAV) (ys := [regAV (withNext lits n.regs.xs[i])]) rfl rfl rfl rfl (by rw [List.isEmpty_map]; rfl) rfl rfl rfl rfl rfl rfl (.inr ⟨⟨_, rfl⟩, rfl⟩) (fun _ => rfl) rfl rfl (roomB rfl (by simp only [List.length_map, List.length_singleton]; omega)) (fun t' => ?_); rw [hgm]) | (refine OD.storeG 3 rfl rfl rfl rfl rfl acc_ok1 (by rw [acc_cells]; rfl) (by rw [acc_cells]; rfl) ?_; rw [st_rA]) | refine OD.storeG 0 rfl rfl rfl rfl rfl rfl rfl rfl ?_) | refine OS.nil ?_ | refine WS.seq ?_ | refine QS.seqN ?_ | refine WS.region ?_ | refine WS.skip ?_ | refine WS.condB rfl (fun _ => ?_) (fun _ => ?_))
  ·rename_i hb
   try dsimp only [List.set_cons_zero, List.set_cons_succ, List.cons_append, List.nil_append]
   rw [List.isEmpty_map]
   exact QS.rangeX ((t', R ++ [withNext lits n.regs.xs[i]])) (by (try dsimp only) <;> exact (by rw [pickL_succ hi, if_pos hb, List.map_append, hR]; rfl)) (hL := by (try dsimp only); exact SubO.drop (SubO.refl _))
  ·rename_i hb
   exact QS.rangeX ((tr, R)) (by (try dsimp only) <;> exact (by rw [pickL_succ hi, if_neg (by rw [hb]; simp), hR])) (hL := by (try dsimp only); exact SubO.drop (SubO.refl _))
 rintro ⟨tr, R⟩ hR
 try dsimp only at hR
 have hR : R = (keptRegs n keep).map (withNext lits) := hR
 dsimp only [RSt.at, List.cons_append, List.nil_append]
 repeat' (first | (refine OS.do rfl ?_; first | refine OD.auto rfl rfl ?_ | refine OD.len rfl rfl (fun _ => lenTy_av rfl rfl) ?_ | refine OD.loadP 4 rfl rfl rfl rfl rfl rfl ?_) | refine OS.nil ?_ | refine WS.seq ?_ | refine QS.seqN ?_ | refine WS.region ?_ | refine WS.block ?_)
 refine WS.newK ?_
 refine WS.rangeX (A := Nat × List GPin) (n := n.outs.xs.length) ⟨140, _, fun _ => [], fun a => (b8, .row ty38.size [.sl ty3.size lb 0 (n.kN + n.gates.xs.length)]) :: (lb, .row ty3.size ((lits).map halfAV)) :: (b7, keptO (n.ins.av 1 strAV) (accA tr 3 (R.map regAV)) (accA tg 2 (G.map gateAV)) (accA a.1 2 (a.2.map pinAV))) :: (b6, .row ty27.size [ty27.zeroV]) :: (b3, .row ty27.size [netAV n]) :: L, fun a => [(a.1, !a.2.isEmpty)], fun i a => a.2 = (n.outs.xs.take i).map (withLit lits)⟩ ((0, [])) [6, 7, 11, 138, 139] (rfl) ?_ ?_
 ·rintro i ⟨tp, P⟩ hi hP
  try dsimp only at hP
  have hol' := hol _ (List.getElem_mem hi)
  have hPl : P.length = i := by rw [hP, List.length_map, List.length_take]; omega
  have hgm : P.map pinAV ++ [pinAV (withLit lits n.outs.xs[i])] = (P ++ [withLit lits n.outs.xs[i]]).map pinAV := by rw [List.map_append]; rfl
  dsimp only [RSt.at, List.cons_append, List.nil_append]
  repeat' (first | (refine OS.do rfl ?_; first | refine OD.auto rfl rfl ?_ | refine OD.indexAddr rfl rfl rfl (indexAddrA_nat rfl rfl rfl rfl (by first | assumption | exact List.getElem?_eq_getElem (by omega))) ?_ | refine OD.alloc rfl rfl rfl rfl (fun _ => ?_) | refine OD.storeW 0 rfl rfl rfl rfl (by first | rfl | exact net_ok _) rfl rfl rfl ?_) | refine OS.nil ?_ | refine WS.seq ?_ | refine QS.seqN ?_ | refine WS.region ?_)
  refine WS.drawY 8 [] (K := [(tp, !P.isEmpty)]) rfl rfl rfl rfl ?_; (repeat' (first | refine SegY.nil ?_ | refine SegY.loadP 3 rfl rfl rfl rfl rfl rfl rfl ?_ | refine SegY.auto rfl rfl rfl rfl ?_ | refine SegY.loadP 0 rfl rfl rfl rfl rfl rfl rfl ?_ | refine SegY.loadP 1 rfl rfl rfl rfl rfl rfl rfl ?_ | refine SegY.loadP 2 rfl rfl rfl rfl rfl rfl rfl ?_ | refine SegY.indexAddr rfl rfl rfl rfl rfl ?_ | refine SegY.callW (D := Unit) (fun _ => True) (fun _ => .int .i64 (atL lits n.outs.xs[i].lit)) (fun _ => []) (fun _ => []) rfl rfl rfl rfl (fun st hS => (u101 _ hol' 1 2 rfl rfl st hS).mono fun r st' ⟨e, hs⟩ => ⟨(), st', trivial, by subst e; rfl, hs⟩) (fun _ _ => ?_)))
  dsimp only [RSt.at, List.cons_append, List.nil_append]
  repeat' (first | (refine OS.do rfl ?_; first | refine OD.auto rfl rfl ?_ | (refine OD.append 0 (xs := P.map pinAV) (ys := [pinAV (withLit lits n.outs.xs[i])]) rfl rfl rfl rfl (by rw [List.isEmpty_map]; rfl) rfl rfl rfl rfl rfl rfl (.inr ⟨⟨_, rfl⟩, rfl⟩) (fun _ => rfl) rfl rfl (roomB rfl (by simp only [List.length_map, List.length_singleton]; omega)) (fun t' => ?_); rw [hgm]) | (refine OD.storeG 3 rfl rfl rfl rfl rfl acc_ok1 (by rw [acc_cells]; rfl) (by rw [acc_cells]; rfl) ?_; rw [st_oK])) | refine OS.nil ?_)
  try dsimp only [List.set_cons_zero, List.set_cons_succ, List.cons_append, List.nil_append]
  rw [List.isEmpty_map]
  exact QS.rangeX ((t', P ++ [withLit lits n.outs.xs[i]])) (by (try dsimp only) <;> exact (by rw [map_take_succ hi, hP])) (hL := by (try dsimp only); exact SubO.drop (SubO.refl _))
 rintro ⟨tp, P⟩ hP
 try dsimp only at hP
 rw [List.take_of_length_le (Nat.le_refl _)] at hP
 dsimp only [RSt.at, List.cons_append, List.nil_append]
 have hmN : netAV (onlyN n keep) = .agg [n.ins.av 1 strAV, (GSl.of R).av 3 regAV, (GSl.of G).av 2 gateAV, (GSl.of P).av 2 pinAV] := by
  unfold onlyN; rw [<- hA, <- hR, hP]; rfl
 repeat' (first | (refine OS.do rfl ?_; first | refine OD.storeW 3 rfl rfl rfl rfl (ok4 (av_cellOk _ _ _) acc_cell acc_cell acc_cell) rfl rfl rfl ?_ | refine OD.loadP 2 rfl rfl rfl rfl rfl rfl ?_) | refine OS.nil ?_ | refine WS.seq ?_ | refine QS.seqN ?_ | refine WS.region ?_ | refine WS.ret ?_)
 refine QS.retO (ResO.cell 3 (by rfl) (by rfl) (by rfl) (by rfl) (by rfl) .nil) fun st hs => ⟨⟨?_, ?_⟩, hs.noK.subO (.drop (.drop (.drop (.drop (.drop (.refl _))))))⟩
 ·show AV.free (.agg [n.ins.av 1 strAV, accA tr 3 (R.map regAV), accA tg 2 (G.map gateAV), accA tp 2 (P.map pinAV)]) = true
  simp only [AV.free, AV.freeL, free_av str_free, free_acc reg_free, free_acc gate_free, free_acc pin_free, Bool.and_true]
 ·rw [hmN]
  show AV.plain (.agg [n.ins.av 1 strAV, accA tr 3 (R.map regAV), accA tg 2 (G.map gateAV), accA tp 2 (P.map pinAV)]) = _
  simp only [AV.plain, AV.plainL, plain_av str_plain, plain_acc reg_plain, plain_acc gate_plain, plain_acc pin_plain]
end
end Go.OptEnv
namespace Go.OptEnv
open Go Go.Proofs Go.Abs Go.RowKit Go.NetM
set_option maxRecDepth 10000
theorem lenTy_cut {E : Env} {sz b len : Nat} {xs : List AV} {t e : TypeId} {y : Ty} {st : St} (h1 : E.ty t = some y) (h2 : y.d = .slice e) (h : len <= xs.length) : lenTy E st t (cutV sz b len xs) = some (.int .i64 (len : Int)) := by
 cases xs with
 | nil =>
  have : len = 0 := Nat.le_zero.1 h
  subst this
  unfold lenTy; rw [h1]; dsimp only; rw [h2]; rfl
 | cons x xs => unfold lenTy; rw [h1]; dsimp only; rw [h2]; rfl
theorem slice_cut {pr : Prims} {b len : Nat} {v : Int} (hv : v = ((len - 1 : Nat) : Int)) : sliceA (En pr) 38 (.sl ty3.size b 0 len) none (some (.int .i64 v)) none = some (.sl ty3.size b 0 (len - 1)) := by
 subst hv
 have e : cutA len none (some (.int .i64 ((len - 1 : Nat) : Int))) none = some (0, len - 1, false) := by
  unfold cutA optNat asNat
  dsimp only
  rw [if_pos (by omega)]
  simp
 show (match cutA len none (some (.int .i64 ((len - 1 : Nat) : Int))) none with
  | some (l, h, _) => some (AV.sl ty3.size b (0 + l) (h - l))
  | none => none) = _
 rw [e]
 simp
noncomputable def needP (n : GNet) : GNet := if validM (onlyN (foldN n) (needN (foldN n))) = true then foldN (onlyN (foldN n) (needN (foldN n))) else nilN
structure Way (n : GNet) where
 b : Nat
 X : List Int
 len : Nat
 met : List Int
 kr : List Bool
structure WayOk (n : GNet) (w : Way n) : Prop where
 le : w.len <= w.X.length
 op : NetM.Open n.k0 n.kN n.gates.xs n.nexts n.olits w.met (w.X.take w.len)
 kl : w.kr.length = n.regs.xs.length
 kr : ∀ (i : Nat) (h : i < w.kr.length), w.kr[i] = decide (((n.k0 + i : Nat) : Int) ∈ w.met)
 few : w.len <= n.outs.xs.length + 2 * w.met.length
theorem way_begin {m : GNet} (hV : validM m = true) {b : Nat} {O : List Int} (hO : O = m.olits) : WayOk m ⟨b, O, O.length, [], List.replicate m.regs.xs.length false⟩ := by
 obtain ⟨_, _, hol⟩ := valid_lits hV
 have hl : ∀ l ∈ O, 0 <= l /\ l < 2 * ((m.kN + m.gates.xs.length : Nat) : Int) := fun l hl => by
  rw [hO] at hl
  obtain ⟨p, hp, rfl⟩ := List.mem_map.1 hl
  exact hol p hp
 refine ⟨Nat.le_refl _, ?_, by simp, fun i h => by simp, ?_⟩
 ·show NetM.Open _ _ _ _ _ [] (O.take O.length)
  rw [List.take_of_length_le (Nat.le_refl _)]
  refine ⟨(fun _ h => by cases h), fun l h => .out (by rw [<- hO]; exact h), hl, fun l h => .inr ⟨l, by rw [hO]; exact h, rfl⟩, (fun _ _ h => by cases h), (fun _ _ h => by cases h), .nil, (fun _ h => by cases h)⟩
 ·show O.length <= m.outs.xs.length + 2 * 0
  rw [hO]; unfold GNet.olits; simp
theorem way_gate {m : GNet} (hV : validM m = true) {met op : List Int} {x : Int} {i : Nat} (h : NetM.Open m.k0 m.kN m.gates.xs m.nexts m.olits met (op ++ [x])) (hm : x / 2 ∉ met) (hil : i < m.gates.xs.length) (hi : x / 2 = ((m.kN + i : Nat) : Int)) : NetM.Open m.k0 m.kN m.gates.xs m.nexts m.olits (met ++ [x / 2]) (op ++ [m.gates.xs[i].1, m.gates.xs[i].2]) := by
 obtain ⟨hgo, _, _⟩ := valid_lits hV
 obtain ⟨⟨g1, g2⟩, g3, g4⟩ := hgo i hil
 have hN := h.openS x (by simp)
 rw [hi, Int.toNat_natCast] at hN
 have hk' : m.kN = m.k0 + m.regs.xs.length := rfl
 refine h.meet hm (fun y hy => ?_) (fun j hj e => ?_) (fun j hj e => ?_)
 ·simp only [List.mem_cons, List.not_mem_nil, or_false] at hy
  rcases hy with rfl | rfl
  ·exact ⟨.g1 hil hN, g1, by omega⟩
  ·exact ⟨.g2 hil hN, g3, by omega⟩
 ·have : j = i := by omega
  subst this
  simp
 ·have hj : j < m.regs.xs.length := by unfold GNet.nexts at hj; simpa using hj
  omega
theorem way_reg {m : GNet} (hV : validM m = true) {met op : List Int} {x : Int} {i : Nat} (h : NetM.Open m.k0 m.kN m.gates.xs m.nexts m.olits met (op ++ [x])) (hm : x / 2 ∉ met) (hil : i < m.regs.xs.length) (hi : x / 2 = ((m.k0 + i : Nat) : Int)) : NetM.Open m.k0 m.kN m.gates.xs m.nexts m.olits (met ++ [x / 2]) (op ++ [m.regs.xs[i].next]) := by
 obtain ⟨_, hrn, _⟩ := valid_lits hV
 have hr := hrn _ (List.getElem_mem hil)
 have hN := h.openS x (by simp)
 rw [hi, Int.toNat_natCast] at hN
 have hk' : m.kN = m.k0 + m.regs.xs.length := rfl
 have hl : i < m.nexts.length := by unfold GNet.nexts; simpa using hil
 have e : m.nexts[i] = m.regs.xs[i].next := List.getElem_map _
 refine h.meet hm (fun y hy => ?_) (fun j hj c => ?_) (fun j hj c => ?_)
 ·rw [List.mem_singleton.1 hy]
  have := Nd.reg (gs := m.gates.xs) (outs := m.olits) (k := m.kN) hl hN
  rw [e] at this
  exact ⟨this, hr⟩
 ·omega
 ·have : j = i := by omega
  subst this
  rw [e]; simp
theorem way_none {m : GNet} {met op : List Int} {x : Int} (h : NetM.Open m.k0 m.kN m.gates.xs m.nexts m.olits met (op ++ [x])) (hm : x / 2 ∉ met) (hi : x / 2 < (m.k0 : Int)) : NetM.Open m.k0 m.kN m.gates.xs m.nexts m.olits (met ++ [x / 2]) op := by
 have hk' : m.kN = m.k0 + m.regs.xs.length := rfl
 have := h.meet (kids := []) hm (fun y hy => by cases hy) (fun j hj e => by omega) (fun j hj e => by omega)
 rwa [List.append_nil] at this
theorem way_kr {k0 : Nat} {kr : List Bool} {met : List Int} {y : Int} (w : ∀ (i : Nat) (h : i < kr.length), kr[i] = decide (((k0 + i : Nat) : Int) ∈ met)) (hy : ∀ i, i < kr.length -> ((k0 + i : Nat) : Int) ≠ y) : ∀ (i : Nat) (h : i < kr.length), kr[i] = decide (((k0 + i : Nat) : Int) ∈ met ++ [y]) := fun i h => by
 rw [w i h]
 by_cases c : ((k0 + i : Nat) : Int) ∈ met
 ·rw [decide_eq_true c, decide_eq_true (List.mem_append_left _ c)]
 ·rw [decide_eq_false c, decide_eq_false (fun d => (List.mem_append.1 d).elim c fun d => hy i h (List.mem_singleton.1 d))]
theorem way_krs {k0 : Nat} {kr : List Bool} {met : List Int} {y : Int} {j : Nat} (w : ∀ (i : Nat) (h : i < kr.length), kr[i] = decide (((k0 + i : Nat) : Int) ∈ met)) (hy : y = ((k0 + j : Nat) : Int)) : ∀ (i : Nat) (h : i < (kr.set j true).length), (kr.set j true)[i] = decide (((k0 + i : Nat) : Int) ∈ met ++ [y]) := fun i h => by
 rw [List.length_set] at h
 rw [List.getElem_set]
 by_cases e : j = i
 ·subst e
  rw [if_pos rfl, decide_eq_true (by rw [hy]; simp)]
 ·rw [if_neg e, w i h]
  by_cases c : ((k0 + i : Nat) : Int) ∈ met
  ·rw [decide_eq_true c, decide_eq_true (List.mem_append_left _ c)]
  ·rw [decide_eq_false c, decide_eq_false (fun d => (List.mem_append.1 d).elim c fun d => by have := List.mem_singleton.1 d; omega)]
theorem way_end {m : GNet} (hV : validM m = true) {met : List Int} (h : NetM.Open m.k0 m.kN m.gates.xs m.nexts m.olits met []) (j : Nat) (hj : j < m.kN + m.gates.xs.length) : decide (((j : Nat) : Int) ∈ met) = (needN m).getD j false := by
 obtain ⟨hgo, hrn, hol⟩ := valid_lits hV
 have hd := h.done (fun l hl => by
  obtain ⟨p, hp, rfl⟩ := List.mem_map.1 hl
  exact (hol p hp).1) (fun g hg => by
  obtain ⟨i, hi, rfl⟩ := List.getElem_of_mem hg
  obtain ⟨⟨g1, g2⟩, g3, g4⟩ := hgo i hi
  exact ⟨g1, g3⟩) (fun l hl => by
  obtain ⟨r, hr, rfl⟩ := List.mem_map.1 hl
  exact (hrn r hr).1) j
 have hg := needL_get (k0 := m.k0) (k := m.kN) (gs := m.gates.xs) (nexts := m.nexts) (outs := m.olits) hj
 have e := hd.trans hg.symm
 show _ = (needL m.k0 m.kN m.gates.xs m.nexts m.olits).getD j false
 by_cases c : ((j : Nat) : Int) ∈ met
 ·rw [decide_eq_true c, e.1 c]
 ·rw [decide_eq_false c]
  cases h : (needL m.k0 m.kN m.gates.xs m.nexts m.olits).getD j false with
  | false => rfl
  | true => exact absurd (e.2 h) c
theorem res_split (n x : GNet) : ∃ c, resAV n x = .tup [netAV (if validM n = true then x else nilN), .int .i64 c] := by
 rcases (Bool.eq_false_or_eq_true (validM n)).symm with hV | hV
 ·rw [if_neg (by rw [hV]; simp), res_no hV]; exact ⟨_, rfl⟩
 ·rw [if_pos hV, res_yes hV]; exact ⟨_, rfl⟩
attribute [local irreducible] WS QS OS OD Abs.Sub SubO SubK CW GSl.av accA growA
section
variable {pr : Prims} {L : List (Nat × AObj)} {K : List (Nat × Bool)} {st : St}
set_option maxHeartbeats 4000000 in
theorem run19 (h1 : pr 19 = none) (h17 : Has pr 17 Rel17) (h54 : pr 54 = none) (h101 : pr 101 = none) (n : GNet) (hn : FitsN n) (st : St) : CW (En pr) 19 [netAV n] st fun r _ => AV.free r = true /\ AV.plain r = resAV n (needP n) := by
 have u17 := use17 h17 hn
 rcases (Bool.eq_false_or_eq_true (validM n)).symm with hV | hV
 ·rw [res_no hV] at u17
  refine CW.start (N := 115) h1 rfl rfl ?_
  repeat' (first | (refine OS.do rfl ?_; first | refine OD.box rfl rfl rfl rfl (net_ok _) rfl (fun b1 => ?_) | refine OD.auto rfl rfl ?_ | refine OD.loadP 1 rfl rfl rfl rfl rfl rfl ?_ | refine OD.alloc rfl rfl rfl rfl (fun _ => ?_) | refine OD.storeW 0 rfl rfl rfl rfl (by first | rfl | exact net_ok _) rfl rfl rfl ?_ | refine OD.storeW 1 rfl rfl rfl rfl (by first | rfl | exact net_ok _) rfl rfl rfl ?_ | refine OD.call rfl rfl rfl h17.eq u17 (fun _ => rfl) ?_) | refine OS.nil ?_ | refine WS.seq ?_ | refine QS.seqN ?_ | refine WS.region ?_ | refine WS.condT rfl ?_ | refine WS.ret ?_ | refine QS.seqR ?_)
  refine QS.retO (ResO.cell 0 (by rfl) (by rfl) (by rfl) (by rfl) (by rfl) (.tmp (by rfl) .nil)) fun st hs => ⟨rfl, ?_⟩
  rw [res_no hV]; rfl
 ·have hVm := fold_valid hV
  have hnm := fold_fits hV hn
  rw [res_yes hV] at u17
  obtain ⟨m, hmm⟩ : ∃ m, m = foldN n := ⟨_, rfl⟩
  rw [<- hmm] at u17 hVm hnm
  obtain ⟨f1, f2, f3, f4⟩ := valid_len hVm
  obtain ⟨hgo, hrn, hol⟩ := valid_lits hVm
  have hk1 : 1 <= m.kN /\ m.kN <= 2001 := by unfold GNet.kN; omega
  have hk0 : (m.k0 : Int) = 1 + m.ins.xs.length := by unfold GNet.k0; omega
  have hk' : m.kN = m.k0 + m.regs.xs.length := rfl
  have hw0 : IntKind.i64.wrap (1 + (m.ins.xs.length : Int)) = (m.k0 : Int) := by rw [wrap64 (by omega) (by omega)]; omega
  have z : ∀ (m : GNet) (st : St), freezeA st (.tup [netAV m, .int .i64 0]) = some (.tup [netAV m, .int .i64 0], st) := fun m st => freeze_free (by simp [AV.free, AV.freeL, net_free])
  refine CW.start (N := 115) h1 rfl rfl ?_
  repeat' (first | (refine OS.do rfl ?_; first | refine OD.box rfl rfl rfl rfl (net_ok _) rfl (fun b1 => ?_) | refine OD.storeW 1 rfl rfl rfl rfl (net_ok _) rfl rfl rfl ?_ | refine OD.auto rfl rfl ?_ | refine OD.loadP 1 rfl rfl rfl rfl rfl rfl ?_ | refine OD.len rfl rfl (fun _ => lenTy_av rfl rfl) ?_ | refine OD.alloc rfl rfl rfl rfl (fun _ => ?_) | refine OD.makeMap rfl rfl rfl (fun _ => ?_) | refine OD.call rfl rfl rfl h17.eq u17 (z _) ?_ | refine OD.makeSlice (n := m.regs.xs.length) rfl rfl rfl rfl rfl rfl rfl rfl (roomB rfl (by omega)) (fun kb => ?_) | refine OD.loadP 3 rfl rfl rfl rfl rfl rfl ?_) | refine OS.nil ?_ | refine WS.seq ?_ | refine QS.seqN ?_ | refine WS.region ?_ | refine WS.condF rfl ?_ | refine WS.skip ?_ | refine WS.block ?_)
  rename_i b2 mb
  rw [hw0]
  refine WS.rangeX (A := Nat × List Int) (n := m.outs.xs.length) ⟨35, _, fun a => [(8, slR 1 a.1 (a.2.map intAV))], fun a => [(mb, .map 3 4 (entsI [])), (kb, .row ty4.size (List.replicate m.regs.xs.length ty4.zeroV)), (b2, .row ty27.size [ty27.zeroV]), (b1, .row ty27.size [netAV m])] ++ slO 1 a.1 (a.2.map intAV), fun _ => [], fun i a => a.2 = (m.outs.xs.take i).map (·.lit)⟩ ((0, [])) [1, 2, 5, 6, 7, 33, 34] (rfl) ?_ ?_
  ·rintro i ⟨b, O⟩ hi hO
   try dsimp only at hO
   have hOl : O.length = i := by rw [hO, List.length_map, List.length_take]; omega
   have hgm : O.map intAV ++ [.int .i64 m.outs.xs[i].lit] = (O ++ [m.outs.xs[i].lit]).map intAV := by rw [List.map_append]; rfl
   dsimp only [RSt.at, List.cons_append, List.nil_append]
   repeat' (first | (refine OS.do rfl ?_; first | refine OD.loadP 0 rfl rfl rfl rfl rfl rfl ?_ | refine OD.auto rfl rfl ?_ | refine OD.indexAddr rfl rfl rfl (indexAddrA_nat rfl rfl rfl rfl (by first | assumption | exact List.getElem?_eq_getElem (by omega))) ?_ | refine OD.alloc rfl rfl rfl rfl (fun _ => ?_) | refine OD.storeW 0 rfl rfl rfl rfl (by first | rfl | exact net_ok _) rfl rfl rfl ?_ | (refine OD.appendR (L := [_, _, _, _, _]) (y := .int .i64 m.outs.xs[i].lit) rfl rfl rfl rfl rfl rfl rfl rfl rfl rfl ⟨⟨_, rfl⟩, rfl⟩ (fun _ => rfl) rfl rfl (roomB rfl (by simp only [List.length_map]; omega)) (fun b' => ?_); rw [hgm])) | refine OS.nil ?_ | refine WS.seq ?_ | refine QS.seqN ?_ | refine WS.region ?_)
   exact QS.rangeX ((b', O ++ [m.outs.xs[i].lit])) (by (try dsimp only) <;> exact (by rw [map_take_succ hi, hO])) (hL := by (try dsimp only); exact SubO.drop (SubO.refl _))
  rintro ⟨b, O⟩ hO
  try dsimp only at hO
  rw [List.take_of_length_le (Nat.le_refl _)] at hO
  have hO : O = m.olits := hO
  dsimp only [RSt.at, List.cons_append, List.nil_append]
  repeat' (first | refine WS.seq ?_ | refine QS.seqN ?_ | refine WS.block ?_)
  rw [cutV_all, List.length_map, show List.replicate m.regs.xs.length ty4.zeroV = (List.replicate m.regs.xs.length false).map boolAV from rep_bool _]
  refine WS.loopX (D := Way m) [1, 2, 5, 6, 7] (fun w => [(8, cutV 1 w.b w.len (w.X.map intAV))]) (fun w => (mb, .map 3 4 (entsI w.met)) :: (kb, .row ty4.size (w.kr.map boolAV)) :: (b2, .row ty27.size [ty27.zeroV]) :: (b1, .row ty27.size [netAV m]) :: slO 1 w.b (w.X.map intAV)) (fun _ => []) (fun w => WayOk m w) (fun w => 3 * (m.kN + m.gates.xs.length - w.met.length) + w.len) (⟨b, O, O.length, [], List.replicate m.regs.xs.length false⟩) (way_begin hVm hO) ?_
  rintro ⟨b, X, len, met, kr⟩ ⟨w1, w2, w3, w4, w5⟩
  try dsimp only at w1 w2 w3 w4 w5
  have hml : met.length <= m.kN + m.gates.xs.length := met_len w2.nodup w2.range
  dsimp only [RSt.at, List.cons_append, List.nil_append]
  by_cases h0 : len = 0
  ·subst h0
   have hend := way_end hVm (met := met) w2
   have hke : ∀ (i : Nat) (h : i < kr.length), kr[i] = (needN m).getD (m.k0 + i) false := fun i h => by rw [w4 i h]; exact hend _ (by omega)
   have hme : ∀ i, i < m.gates.xs.length -> decide (((m.kN + i : Nat) : Int) ∈ met) = (needN m).getD (m.kN + i) false := fun i h => hend _ (by omega)
   obtain ⟨c, hc⟩ := res_split (onlyN m (needN m)) (foldN (onlyN m (needN m)))
   have hP : (if validM (onlyN m (needN m)) = true then foldN (onlyN m (needN m)) else nilN) = needP n := by rw [hmm]; rfl
   rw [hP] at hc
   have u2 : ∀ {v : AV}, AV.plain v = netAV (onlyN m (needN m)) -> ∀ st, primOf Rel17 [v] st = some (.tup [netAV (needP n), .int .i64 c], st) := fun hv st => hc ▸ h17.use ⟨onlyN m (needN m), (only_same m (needN m)).fits (kept_fits hVm hnm), by simp [AV.plainL, hv], rfl⟩ st
   have z2 : ∀ (q : GNet) (st : St), freezeA st (.tup [netAV q, .int .i64 c]) = some (.tup [netAV q, .int .i64 c], st) := fun q st => freeze_free (by simp [AV.free, AV.freeL, net_free])
   repeat' (first | (refine OS.do rfl ?_; first | refine OD.len rfl rfl (fun _ => lenTy_cut rfl rfl (Nat.zero_le _)) ?_ | refine OD.storeW 0 rfl rfl rfl rfl (net_ok _) rfl rfl rfl ?_ | refine OD.loadP 0 rfl rfl rfl rfl rfl rfl ?_ | refine OD.auto rfl rfl ?_ | refine OD.alloc rfl rfl rfl rfl (fun _ => ?_) | refine OD.loadP 3 rfl rfl rfl rfl rfl rfl ?_ | (refine OD.callZ (D := AV) (fun v => AV.free v = true /\ AV.plain v = netAV (onlyN m (needN m))) (fun v => v) (fun _ => (mb, .map 3 4 (entsI met)) :: (kb, .row ty4.size (kr.map boolAV)) :: (b2, .row ty27.size [ty27.zeroV]) :: (b1, .row ty27.size [netAV m]) :: slO 1 b (X.map intAV)) (fun _ => []) rfl rfl rfl rfl (fun st hS => (run54 h54 h101 1 0 rfl rfl m hVm hnm (needN m) w3 hke hme hS).mono fun r st' ⟨⟨e1, e2⟩, hs⟩ => ⟨r, st', ⟨e1, e2⟩, freeze_free e1, hs⟩) ?_; rintro v ⟨v1, v2⟩) | refine OD.call rfl rfl rfl h17.eq (u2 v2) (z2 _) ?_ | refine OD.storeW 3 rfl rfl rfl rfl (net_ok _) rfl rfl rfl ?_) | refine OS.nil ?_ | refine WS.seq ?_ | refine QS.seqN ?_ | refine WS.region ?_ | refine WS.condF rfl ?_ | refine WS.ret ?_ | refine WS.exit ?_ | refine QS.seqE ?_ | refine QS.blockH ?_ | refine QS.loopE ?_)
   refine QS.retO (ResO.cell 3 (by rfl) (by rfl) (by rfl) (by rfl) (by rfl) (.tmp (by rfl) .nil)) fun st hs => ?_
   rw [res_yes hV]
   exact ⟨by show AV.free (.tup [netAV (needP n), .int .i64 0]) = true; simp [AV.free, AV.freeL, net_free], by show AV.plain (.tup [netAV (needP n), .int .i64 0]) = _; simp only [AV.plain, AV.plainL, net_plain]⟩
  obtain ⟨k, rfl⟩ : ∃ k, len = k + 1 := ⟨len - 1, by omega⟩
  have hX : X.map intAV ≠ [] := fun c => by rw [List.map_eq_nil_iff] at c; rw [c] at w1; exact absurd w1 (by simp)
  rw [(cutV_cons hX).1, (cutV_cons (len := 0) hX).2]
  have hkl : k < X.length := w1
  rw [List.take_succ_eq_append_getElem hkl] at w2
  obtain ⟨x, hxe⟩ : ∃ x, x = X[k] := ⟨_, rfl⟩
  rw [<- hxe] at w2
  have hx := w2.openR x (by simp)
  have hq : IntKind.i64.wrap (x.tdiv 2) = x / 2 := by
   rw [Int.tdiv_eq_ediv_of_nonneg hx.1]
   exact wrap64 (by omega) (by omega)
  have hl1 : IntKind.i64.wrap (((k + 1 : Nat) : Int) - 1) = (k : Int) := by rw [wrap64 (by omega) (by omega)]; omega
  have hix : indexAddrA (En pr) 38 (.sl 1 b 0 (k + 1)) (.int .i64 (IntKind.i64.wrap (((k + 1 : Nat) : Int) - 1))) = some (.ptr b k 0) := by
   rw [hl1]; exact indexAddrA_sl rfl rfl rfl rfl (by omega)
  have hxa : (X.map intAV)[k]? = some (.int .i64 x) := by rw [List.getElem?_map, List.getElem?_eq_getElem hkl, hxe]; rfl
  have hsl : sliceA (En pr) 38 (.sl 1 b 0 (k + 1)) none (some (.int .i64 (IntKind.i64.wrap (((k + 1 : Nat) : Int) - 1)))) none = some (.sl 1 b 0 k) := slice_cut hl1
  have hwk : IntKind.i64.wrap ((m.k0 : Int) + (m.regs.xs.length : Int)) = (m.kN : Int) := by rw [wrap64 (by omega) (by omega)]; omega
  repeat' (first | (refine OS.do rfl ?_; first | refine OD.indexAddr rfl rfl rfl hix ?_ | refine OD.loadP 4 rfl rfl rfl hxa rfl rfl ?_ | refine OD.auto rfl rfl ?_ | refine OD.len rfl rfl (fun _ => rfl) ?_ | (refine OD.slice rfl rfl rfl rfl rfl hsl ?_; rw [hq])) | refine OS.nil ?_ | refine WS.seq ?_ | refine QS.seqN ?_ | refine WS.region ?_ | refine WS.condD rfl (fun _ => ?_) (fun _ => ?_) | refine WS.skip ?_ | refine WS.block ?_ | refine WS.exit ?_ | refine QS.seqE ?_ | refine QS.blockH ?_ | refine QS.loopE ?_)
  rotate_left
  ·exfalso; omega
  by_cases hmem : x / 2 ∈ met
  ·repeat' (first | (refine OS.do rfl ?_; first | refine OD.lookup 0 rfl rfl rfl rfl (fun st hst => (lookI hst).trans (by rw [decide_eq_true hmem])) ?_) | refine OS.nil ?_ | refine QS.seqN ?_ | refine WS.condT rfl ?_ | refine WS.exit ?_ | refine QS.seqE ?_ | refine QS.blockH ?_)
   rw [<- (cutV_cons (sz := 1) (b := b) (len := 0) hX).2, <- (cutV_cons (sz := 1) (b := b) (len := k) hX).1]
   exact QS.loopX (⟨b, X, k, met, kr⟩) (by exact (⟨Nat.le_of_lt hkl, w2.skip hmem, w3, w4, Nat.le_of_succ_le w5⟩)) (by exact (by show 3 * (m.kN + m.gates.xs.length - met.length) + k < 3 * (m.kN + m.gates.xs.length - met.length) + (k + 1); omega))
  have hnd : m.kN + m.gates.xs.length > met.length := by
   have := met_len (T := m.kN + m.gates.xs.length) (met := met ++ [x / 2]) (by
    rw [List.nodup_append]
    refine ⟨w2.nodup, by simp, fun a ha c hc => ?_⟩
    rw [List.mem_singleton.1 hc]
    rintro rfl
    exact hmem ha) (fun y hy => by
     rcases List.mem_append.1 hy with hy | hy
     ·exact w2.range y hy
     ·rw [List.mem_singleton.1 hy]; omega)
   rw [List.length_append, List.length_singleton] at this
   omega
  rcases Int.lt_or_le (x / 2) (m.kN : Int) with hlt | hge
  ·rcases Int.lt_or_le (x / 2) (m.k0 : Int) with hlt0 | hge0
   ·repeat' (first | (refine OS.do rfl ?_; first | refine OD.lookup 0 rfl rfl rfl rfl (fun st hst => (lookI hst).trans (by rw [decide_eq_false hmem])) ?_ | refine OD.mapUpdate 0 rfl rfl rfl rfl rfl rfl rfl (fun st hst => putI hmem hst) ?_ | refine OD.auto rfl rfl ?_ | refine OD.len rfl rfl (fun _ => lenTy_av rfl rfl) ?_ | refine OD.indexAddr rfl rfl rfl (indexAddrA_int rfl rfl rfl rfl (by first | assumption | omega) (by first | assumption | exact List.getElem?_eq_getElem (by omega))) ?_ | refine OD.slice rfl rfl rfl rfl rfl rfl ?_ | refine OD.loadP 3 rfl rfl rfl rfl rfl rfl ?_) | refine OS.nil ?_ | refine WS.seq ?_ | refine QS.seqN ?_ | refine WS.region ?_ | refine WS.condF rfl ?_ | refine WS.condD rfl (fun _ => ?_) (fun _ => ?_) | refine WS.skip ?_ | refine WS.block ?_ | refine QS.blockN ?_)
    any_goals (exfalso; omega)
    dsimp only [List.set_cons_zero, List.set_cons_succ, List.cons_append, List.nil_append]
    rw [<- (cutV_cons (sz := 1) (b := b) (len := 0) hX).2, <- (cutV_cons (sz := 1) (b := b) (len := k) hX).1]
    exact QS.loopX (⟨b, X, k, met ++ [x / 2], kr⟩) (by exact (⟨Nat.le_of_lt hkl, way_none w2 hmem hlt0, w3, way_kr w4 fun j hj => by have hj2 : j < kr.length := hj; omega, by show k <= m.outs.xs.length + 2 * (met ++ [x / 2]).length; rw [List.length_append, List.length_singleton]; omega⟩)) (by exact (by show 3 * (m.kN + m.gates.xs.length - (met ++ [x / 2]).length) + k < 3 * (m.kN + m.gates.xs.length - met.length) + (k + 1); rw [List.length_append, List.length_singleton]; omega))
   ·obtain ⟨i, hi⟩ : ∃ i : Nat, x / 2 = ((m.k0 + i : Nat) : Int) := ⟨(x / 2 - m.k0).toNat, by omega⟩
    have hil : i < m.regs.xs.length := by omega
    have hwi : IntKind.i64.wrap (x / 2 - (m.k0 : Int)) = (i : Int) := by rw [wrap64 (by omega) (by omega)]; omega
    have hiR : indexAddrA (En pr) 23 (m.regs.av 3 regAV) (.int .i64 (IntKind.i64.wrap (x / 2 - (m.k0 : Int)))) = some (.ip (regAV m.regs.xs[i]).cells) := by
     rw [hwi]; exact indexAddrA_int rfl rfl rfl rfl (by omega) (by rw [Int.toNat_natCast, List.getElem?_eq_getElem hil])
    have hiB : indexAddrA (En pr) 69 (.sl ty4.size kb 0 m.regs.xs.length) (.int .i64 (IntKind.i64.wrap (x / 2 - (m.k0 : Int)))) = some (.ptr kb i 0) := by
     rw [hwi]; exact indexAddrA_sl rfl rfl rfl rfl (by omega)
    have hkb : (kr.map boolAV)[i]? = some (.bool (kr[i]'(by omega))) := by
     rw [List.getElem?_map, List.getElem?_eq_getElem (by omega)]; rfl
    have hgm : (X.map intAV).take k ++ [.int .i64 m.regs.xs[i].next] = (X.take k ++ [m.regs.xs[i].next]).map intAV := by rw [List.map_append, List.map_take]; rfl
    have hkm : (kr.map boolAV).set i (.bool true) = (kr.set i true).map boolAV := by rw [List.map_set]; rfl
    repeat' (first | (refine OS.do rfl ?_; first | refine OD.lookup 0 rfl rfl rfl rfl (fun st hst => (lookI hst).trans (by rw [decide_eq_false hmem])) ?_ | refine OD.mapUpdate 0 rfl rfl rfl rfl rfl rfl rfl (fun st hst => putI hmem hst) ?_ | refine OD.indexAddr rfl rfl rfl hiB ?_ | refine OD.indexAddr rfl rfl rfl hiR ?_ | refine OD.auto rfl rfl ?_ | refine OD.len rfl rfl (fun _ => lenTy_av rfl rfl) ?_ | refine OD.indexAddr rfl rfl rfl (indexAddrA_int rfl rfl rfl rfl (by first | assumption | omega) (by first | assumption | exact List.getElem?_eq_getElem (by omega))) ?_ | refine OD.slice rfl rfl rfl rfl rfl rfl ?_ | refine OD.loadP 3 rfl rfl rfl rfl rfl rfl ?_ | (refine OD.storeB 1 rfl rfl rfl rfl rfl hkb ?_; rw [hkm]) | (refine OD.appendS (L := [_, _, _, _]) (xs := X.map intAV) (len := k) (ys := [.int .i64 m.regs.xs[i].next]) rfl rfl rfl rfl (by rw [List.length_map]; omega) rfl rfl rfl rfl rfl rfl ⟨⟨_, rfl⟩, rfl⟩ (fun _ => rfl) rfl rfl (roomB rfl (by simp only [List.length_cons, List.length_nil]; omega)) (by simp) (fun b' => ?_); rw [hgm])) | refine OS.nil ?_ | refine WS.seq ?_ | refine QS.seqN ?_ | refine WS.region ?_ | refine WS.condF rfl ?_ | refine WS.condD rfl (fun _ => ?_) (fun _ => ?_) | refine WS.skip ?_ | refine WS.block ?_ | refine QS.blockN ?_)
    any_goals (exfalso; omega)
    dsimp only [List.set_cons_zero, List.set_cons_succ, List.cons_append, List.nil_append]
    have hXl : (X.take k ++ [m.regs.xs[i].next]).length = k + 1 := by rw [List.length_append, List.length_take]; simp; omega
    have hop : (X.take k ++ [m.regs.xs[i].next]).take (k + 1) = X.take k ++ [m.regs.xs[i].next] := List.take_of_length_le (by omega)
    exact QS.loopX (⟨b', X.take k ++ [m.regs.xs[i].next], k + 1, met ++ [x / 2], kr.set i true⟩) (by exact (⟨Nat.le_of_eq hXl.symm, hop.symm ▸ way_reg hVm w2 hmem hil hi, by rw [List.length_set]; exact w3, way_krs w4 hi, by show k + 1 <= m.outs.xs.length + 2 * (met ++ [x / 2]).length; rw [List.length_append, List.length_singleton]; omega⟩)) (by exact (by show 3 * (m.kN + m.gates.xs.length - (met ++ [x / 2]).length) + (k + 1) < 3 * (m.kN + m.gates.xs.length - met.length) + (k + 1); rw [List.length_append, List.length_singleton]; omega))
  ·obtain ⟨i, hi⟩ : ∃ i : Nat, x / 2 = ((m.kN + i : Nat) : Int) := ⟨(x / 2 - m.kN).toNat, by omega⟩
   have hil : i < m.gates.xs.length := by omega
   have hwi : IntKind.i64.wrap (IntKind.i64.wrap (x / 2 - (m.k0 : Int)) - (m.regs.xs.length : Int)) = (i : Int) := by rw [wrap64 (n := x / 2 - (m.k0 : Int)) (by omega) (by omega), wrap64 (by omega) (by omega)]; omega
   have hiG : indexAddrA (En pr) 24 (m.gates.av 2 gateAV) (.int .i64 (IntKind.i64.wrap (IntKind.i64.wrap (x / 2 - (m.k0 : Int)) - (m.regs.xs.length : Int)))) = some (.ip (gateAV m.gates.xs[i]).cells) := by
    rw [hwi]; exact indexAddrA_int rfl rfl rfl rfl (by omega) (by rw [Int.toNat_natCast, List.getElem?_eq_getElem hil])
   have hgm : (X.map intAV).take k ++ [.int .i64 m.gates.xs[i].1, .int .i64 m.gates.xs[i].2] = (X.take k ++ [m.gates.xs[i].1, m.gates.xs[i].2]).map intAV := by rw [List.map_append, List.map_take]; rfl
   repeat' (first | (refine OS.do rfl ?_; first | refine OD.lookup 0 rfl rfl rfl rfl (fun st hst => (lookI hst).trans (by rw [decide_eq_false hmem])) ?_ | refine OD.mapUpdate 0 rfl rfl rfl rfl rfl rfl rfl (fun st hst => putI hmem hst) ?_ | refine OD.indexAddr rfl rfl rfl hiG ?_ | refine OD.auto rfl rfl ?_ | refine OD.len rfl rfl (fun _ => lenTy_av rfl rfl) ?_ | refine OD.slice rfl rfl rfl rfl rfl rfl ?_ | refine OD.loadP 3 rfl rfl rfl rfl rfl rfl ?_ | (refine OD.appendS (L := [_, _, _, _]) (xs := X.map intAV) (len := k) (ys := [.int .i64 m.gates.xs[i].1, .int .i64 m.gates.xs[i].2]) rfl rfl rfl rfl (by rw [List.length_map]; omega) rfl rfl rfl rfl rfl rfl ⟨⟨_, rfl⟩, rfl⟩ (fun _ => rfl) rfl rfl (roomB rfl (by simp only [List.length_cons, List.length_nil]; omega)) (by simp) (fun b' => ?_); rw [hgm])) | refine OS.nil ?_ | refine WS.seq ?_ | refine QS.seqN ?_ | refine WS.region ?_ | refine WS.condF rfl ?_ | refine WS.condD rfl (fun _ => ?_) (fun _ => ?_) | refine WS.skip ?_ | refine WS.block ?_ | refine QS.blockN ?_)
   any_goals (exfalso; omega)
   dsimp only [List.set_cons_zero, List.set_cons_succ, List.cons_append, List.nil_append]
   have hXl : (X.take k ++ [m.gates.xs[i].1, m.gates.xs[i].2]).length = k + 2 := by rw [List.length_append, List.length_take]; simp; omega
   have hop : (X.take k ++ [m.gates.xs[i].1, m.gates.xs[i].2]).take (k + 2) = X.take k ++ [m.gates.xs[i].1, m.gates.xs[i].2] := List.take_of_length_le (by omega)
   exact QS.loopX (⟨b', X.take k ++ [m.gates.xs[i].1, m.gates.xs[i].2], k + 2, met ++ [x / 2], kr⟩) (by exact (⟨Nat.le_of_eq hXl.symm, hop.symm ▸ way_gate hVm w2 hmem hil hi, w3, way_kr w4 fun j hj => by have hj2 : j < kr.length := hj; omega, by show k + 2 <= m.outs.xs.length + 2 * (met ++ [x / 2]).length; rw [List.length_append, List.length_singleton]; omega⟩)) (by exact (by show 3 * (m.kN + m.gates.xs.length - (met ++ [x / 2]).length) + (k + 2) < 3 * (m.kN + m.gates.xs.length - met.length) + (k + 1); rw [List.length_append, List.length_singleton]; omega))
def Rel19 : Rel := RelF FitsN (fun n => [netAV n]) fun n => resAV n (needP n)
theorem con19 (h1 : pr 19 = none) (h17 : Has pr 17 Rel17) (h54 : pr 54 = none) (h101 : pr 101 = none) : Con2 (En pr) 19 Rel19 := con_of (fun d => by simp [AV.freeL, net_free]) fun d hd st => run19 h1 h17 h54 h101 d hd st
theorem use19 (h : Has pr 19 Rel19) {n : GNet} (hn : FitsN n) (st : St) : primOf Rel19 [netAV n] st = some (resAV n (needP n), st) := h.use ⟨n, hn, by simp [AV.plainL, net_plain], rfl⟩ st
end
end Go.OptEnv
namespace Go.OptEnv
open Go Go.Proofs Go.Abs Go.RowKit Go.NetM
set_option maxRecDepth 10000
structure SelR {α : Type} (k0 : Nat) (keep : List Bool) (l : List α) (i : Nat) : Prop where
 mono : ∀ j j', j < j' -> j' < k0 + i -> (j < k0 \/ keep.getD j false = true) -> (j' < k0 \/ keep.getD j' false = true) -> (selRM k0 keep i).1.getD j 0 < (selRM k0 keep i).1.getD j' 0
 low : ∀ j, j < k0 -> (selRM k0 keep i).1.getD j 0 = 2 * (j : Int)
 rank : ∀ j (_ : j < i) (hl : j < l.length), keep.getD (k0 + j) false = true -> ∃ r, ∃ hr : r < (pickL k0 keep l i).length, (selRM k0 keep i).1.getD (k0 + j) 0 = 2 * ((k0 + r : Nat) : Int) /\ (pickL k0 keep l i)[r] = l[j]
 onto : ∀ r, r < (pickL k0 keep l i).length -> ∃ j, j < i /\ keep.getD (k0 + j) false = true /\ (selRM k0 keep i).1.getD (k0 + j) 0 = 2 * ((k0 + r : Nat) : Int)
theorem sel_r {α : Type} {k0 : Nat} (hk : 0 < k0) {keep : List Bool} {l : List α} : ∀ i, i <= l.length -> SelR k0 keep l i
 | 0, _ => by
  refine ⟨fun j j' h h' _ _ => ?_, fun j h => ?_, fun j h => by omega, fun r hr => by simp [pickL] at hr⟩
  ·show (idL k0).getD j 0 < (idL k0).getD j' 0
   rw [idL_get, idL_get, if_pos (by omega), if_pos (by omega)]; omega
  ·show (idL k0).getD j 0 = _
   rw [idL_get, if_pos h]
 | i + 1, hi => by
  obtain ⟨mono, low, rank, onto⟩ := sel_r hk (keep := keep) (l := l) i (by omega)
  have hlen := selRM_len (k0 := k0) (keep := keep) i
  have hpl := pickL_len (k0 := k0) (keep := keep) (l := l) i (by omega)
  have hrg := selRM_range hk (keep := keep) i
  cases hy : keep.getD (k0 + i) false with
  | true =>
   have e : selRM k0 keep (i + 1) = ((selRM k0 keep i).1 ++ [2 * ((k0 + (selRM k0 keep i).2 : Nat) : Int)], (selRM k0 keep i).2 + 1) := selRM_yes rfl hy
   have ep : pickL k0 keep l (i + 1) = pickL k0 keep l i ++ [l[i]] := by rw [pickL_succ (by omega), if_pos hy]
   constructor
   ·intro j j' h h' h1 h2
    rw [e]
    dsimp only
    by_cases c : j' < k0 + i
    ·rw [getD_lt (by omega), getD_lt (by omega)]; exact mono j j' h c h1 h2
    ·rw [getD_lt (by omega), getD_eqL (by omega)]; exact (hrg j).2
   ·intro j h
    rw [e]
    dsimp only
    rw [getD_lt (by omega)]; exact low j h
   ·rw [e, ep]
    intro j h hl hkj
    by_cases c : j < i
    ·obtain ⟨r, hr, e1, e2⟩ := rank j c hl hkj
     exact ⟨r, by simp; omega, by rw [getD_lt (by omega)]; exact e1, by rw [List.getElem_append_left hr]; exact e2⟩
    ·have : j = i := by omega
     subst this
     refine ⟨(pickL k0 keep l j).length, by simp, by rw [getD_eqL (by omega), hpl], ?_⟩
     rw [List.getElem_append_right (Nat.le_refl _)]
     simp
   ·rw [e, ep]
    intro r hr
    rw [List.length_append, List.length_singleton] at hr
    by_cases c : r < (pickL k0 keep l i).length
    ·obtain ⟨j, h1, h2, h3⟩ := onto r c
     exact ⟨j, by omega, h2, by rw [getD_lt (by omega)]; exact h3⟩
    ·exact ⟨i, by omega, hy, by rw [getD_eqL (by omega)]; omega⟩
  | false =>
   have e : selRM k0 keep (i + 1) = ((selRM k0 keep i).1 ++ [0], (selRM k0 keep i).2) := selRM_no rfl hy
   have ep : pickL k0 keep l (i + 1) = pickL k0 keep l i := by rw [pickL_succ (by omega), if_neg (by rw [hy]; simp)]
   constructor
   ·intro j j' h h' h1 h2
    rw [e]
    dsimp only
    by_cases c : j' < k0 + i
    ·rw [getD_lt (by omega), getD_lt (by omega)]; exact mono j j' h c h1 h2
    ·rcases h2 with h2 | h2
     ·omega
     ·rw [show j' = k0 + i by omega, hy] at h2; cases h2
   ·intro j h
    rw [e]
    dsimp only
    rw [getD_lt (by omega)]; exact low j h
   ·rw [e, ep]
    intro j h hl hkj
    by_cases c : j < i
    ·obtain ⟨r, hr, e1, e2⟩ := rank j c hl hkj
     exact ⟨r, hr, by rw [getD_lt (by omega)]; exact e1, e2⟩
    ·rw [show j = i by omega, hy] at hkj; cases hkj
   ·rw [e, ep]
    intro r hr
    obtain ⟨j, h1, h2, h3⟩ := onto r hr
    exact ⟨j, by omega, h2, by rw [getD_lt (by omega)]; exact h3⟩
theorem sel_all {k0 : Nat} {keep : List Bool} : ∀ i, (∀ j, j < i -> keep.getD (k0 + j) false = true) -> selRM k0 keep i = (idL (k0 + i), i)
 | 0, _ => rfl
 | i + 1, h => by
  rw [selRM_yes (sel_all i fun j hj => h j (by omega)).symm (h i (by omega)), show k0 + (i + 1) = (k0 + i) + 1 by omega, idL_succ]
theorem pick_all {α : Type} {k0 : Nat} {keep : List Bool} {l : List α} : ∀ i, i <= l.length -> (∀ j, j < i -> keep.getD (k0 + j) false = true) -> pickL k0 keep l i = l.take i
 | 0, _, _ => by simp [pickL]
 | i + 1, hi, h => by
  rw [pickL_succ (by omega), if_pos (h i (by omega)), pick_all i (by omega) fun j hj => h j (by omega), List.take_succ_eq_append_getElem (by omega)]
def GNet.kS (n : GNet) (keep : List Bool) : Nat := n.k0 + (selRM n.k0 keep n.regs.xs.length).2
theorem keptRegs_len (n : GNet) (keep : List Bool) : (keptRegs n keep).length = (selRM n.k0 keep n.regs.xs.length).2 := pickL_len _ (Nat.le_refl _)
theorem only_kN (n : GNet) (keep : List Bool) : (onlyN n keep).kN = n.kS keep := by
 unfold GNet.kN GNet.kS GNet.k0 onlyN
 dsimp only
 rw [gof_xs, List.length_map, keptRegs_len]; rfl
theorem kept_sh (n : GNet) (keep : List Bool) : ShOk (n.kS keep) (n.kN + n.gates.xs.length) n.gates.xs.length (keptS n keep) := by
 have := sel_ok (nregs := n.regs.xs.length) (k0_pos n) (keep := keep) n.gates.xs n.gates.xs.length (Nat.le_refl _)
 rw [List.take_length] at this
 exact this
theorem kept_subl (n : GNet) (keep : List Bool) : (keptRegs n keep).Sublist n.regs.xs := by
 have : ∀ i, i <= n.regs.xs.length -> (pickL n.k0 keep n.regs.xs i).Sublist (n.regs.xs.take i) := by
  intro i
  induction i with
  | zero => intro _; simp [pickL]
  | succ i ih =>
   intro h
   rw [pickL_succ (by omega), List.take_succ_eq_append_getElem (by omega)]
   split
   ·exact List.Sublist.append (ih (by omega)) (List.Sublist.refl _)
   ·exact (ih (by omega)).trans (List.sublist_append_left _ _)
 have := this _ (Nat.le_refl _)
 rwa [List.take_length] at this
theorem only_valid {n : GNet} (hv : validM n = true) (keep : List Bool) : validM (onlyN n keep) = true := by
 have v := validM_iff.1 hv
 have hs := kept_sh n keep
 have hm := v.gatesN
 have hkN := only_kN n keep
 have hf : (onlyN n keep).first = (n.kS keep : Int) := by rw [<- hkN]; unfold GNet.first GNet.kN; omega
 have e3 : (onlyN n keep).gates.xs = (keptS n keep).2 := gof_xs _
 have e2 : (onlyN n keep).regs.xs = (keptRegs n keep).map (withNext (keptS n keep).1) := gof_xs _
 have e4 : (onlyN n keep).outs.xs = n.outs.xs.map (withLit (keptS n keep).1) := gof_xs _
 have hnd : (onlyN n keep).nodes = ((n.kS keep + (keptS n keep).2.length : Nat) : Int) := by unfold GNet.nodes; rw [hf, e3]; omega
 have hg := hs.gates
 have hsub := kept_subl n keep
 refine validM_iff.2 ⟨by rw [e3]; omega, v.ins, ?_, ?_, by rw [hf, e3]; exact gatesOk_all hs.ok, ?_, ?_, ?_⟩
 ·rw [e2, List.map_map]; exact names_sub (hsub.map _) v.regs
 ·rw [e4, List.map_map]; exact v.outs
 ·rw [e2, List.all_map, List.all_eq_true]
  intro r hr
  exact List.all_eq_true.1 v.inits r (hsub.subset hr)
 ·rw [e2, hnd, List.all_map, List.all_eq_true]
  intro r _
  have := hs.at_ r.next
  exact decide_eq_true this
 ·rw [e4, hnd, List.all_map, List.all_eq_true]
  intro r _
  have := hs.at_ r.lit
  exact decide_eq_true this
theorem only_id {n : GNet} (hv : validM n = true) {keep : List Bool} (hk : ∀ j, n.k0 <= j -> j < n.kN + n.gates.xs.length -> keep.getD j false = true) : SameC (onlyN n keep) n := by
 have hkk : n.kN = n.k0 + n.regs.xs.length := rfl
 have e1 : selRM n.k0 keep n.regs.xs.length = (idL n.kN, n.regs.xs.length) := by rw [sel_all _ fun j hj => hk _ (by omega) (by omega)]; rfl
 have e2 : keptRegs n keep = n.regs.xs := by
  unfold keptRegs
  rw [pick_all _ (Nat.le_refl _) fun j hj => hk _ (by omega) (by omega), List.take_length]
 have e3 : keptS n keep = (idL (n.kN + n.gates.xs.length), n.gates.xs) := by
  have := keep_id (k := n.kN) (keep := keep) (valid_lits hv).1 (fun i hi => hk _ (by omega) (by omega)) n.gates.xs.length (Nat.le_refl _)
  rw [List.take_length] at this
  unfold keptS selM
  rw [e1]
  exact this
 have hl := lay_id hv
 obtain ⟨l1, l2, l3, l4⟩ := lay_xs (n := n) (s := (idL (n.kN + n.gates.xs.length), n.gates.xs))
 have h2 := hl.regs
 have h4 := hl.outs
 rw [l2] at h2
 rw [l4] at h4
 refine ⟨rfl, ?_, ?_, ?_⟩
 ·show (GSl.of ((keptRegs n keep).map (withNext (keptS n keep).1))).xs = _
  rw [gof_xs, e2, e3]; exact h2
 ·show (GSl.of (keptS n keep).2).xs = _
  rw [gof_xs, e3]
 ·show (GSl.of (n.outs.xs.map (withLit (keptS n keep).1))).xs = _
  rw [gof_xs, e3]; exact h4
theorem need_cone {k0 k : Nat} {gs : List (Int × Int)} {nexts outs : List Int} {j : Nat} (h : Nd k0 k gs nexts outs j) : Nd 0 k gs [] (nexts ++ outs) j := by
 induction h with
 | out h => exact .out (List.mem_append_right _ h)
 | g1 h _ ih => exact .g1 h ih
 | g2 h _ ih => exact .g2 h ih
 | reg h _ _ => exact .out (List.mem_append_left _ (List.getElem_mem h))
theorem need_get {n : GNet} {j : Nat} (h : j < n.kN + n.gates.xs.length) : (needN n).getD j false = true ↔ n.Need j := needL_get h
theorem need_range {n : GNet} (hv : validM n = true) {j : Nat} (h : n.Need j) : j < n.kN + n.gates.xs.length := by
 obtain ⟨hgo, hrn, hol⟩ := valid_lits hv
 refine Nd.range hgo (fun l hl => ?_) (fun l hl => ?_) h
 ·obtain ⟨r, hr, rfl⟩ := List.mem_map.1 hl; exact hol r hr
 ·obtain ⟨r, hr, rfl⟩ := List.mem_map.1 hl; exact hrn r hr
def AllNeed (n : GNet) : Prop := ∀ j, n.k0 <= j -> j < n.kN + n.gates.xs.length -> n.Need j
theorem only_needed {f : GNet} (hv : validM f = true) (hf : Folded f) : Folded (onlyN f (needN f)) /\ AllNeed (onlyN f (needN f)) := by
 have hkk : f.kN = f.k0 + f.regs.xs.length := rfl
 have hk0 := k0_pos f
 have hsel := sel_r hk0 (keep := needN f) (l := f.regs.xs) f.regs.xs.length (Nat.le_refl _)
 have hpl := keptRegs_len f (needN f)
 have hb : BaseR (f.kS (needN f)) f.kN (fun j => j < f.k0 \/ (needN f).getD j false = true) (selRM f.k0 (needN f) f.regs.xs.length).1 :=
  ⟨selRM_len _, ⟨kN_pos f, by unfold GNet.kS; omega, .inl hk0⟩, selRM_ev _, selRM_range hk0 _, fun j j' h h' h1 h2 => hsel.mono j j' h h' h1 h2⟩
 have hK : KeepR (f.kS (needN f)) f.kN (needN f) (selRM f.k0 (needN f) f.regs.xs.length).1 f.gates.xs (keptS f (needN f)) := by
  have := keep_r (k := f.kS (needN f)) (by unfold GNet.kS; omega) (keep := needN f) (b0 := (selRM f.k0 (needN f) f.regs.xs.length).1) (K := f.kN) (selRM_len _) (valid_lits hv).1 f.gates.xs.length (Nat.le_refl _)
  rw [List.take_length] at this
  exact this
 have hkd : ∀ j, f.Need j -> Kd f.kN (needN f) (fun j => j < f.k0 \/ (needN f).getD j false = true) j := fun j hj => by
  have hr := need_range hv hj
  by_cases c : j < f.kN
  ·exact .inl ⟨c, .inr ((need_get hr).2 hj)⟩
  ·exact .inr ⟨by omega, (need_get hr).2 hj⟩
 have hcl : Closed f.kN (needN f) (fun j => j < f.k0 \/ (needN f).getD j false = true) f.gates.xs := fun i hi h => by
  have hn := (need_get (by omega)).1 h
  exact ⟨hkd _ (.g1 hi hn), hkd _ (.g2 hi hn)⟩
 have e3 : (onlyN f (needN f)).gates.xs = (keptS f (needN f)).2 := gof_xs _
 have e2 : (onlyN f (needN f)).regs.xs = (keptRegs f (needN f)).map (withNext (keptS f (needN f)).1) := gof_xs _
 have e4 : (onlyN f (needN f)).outs.xs = f.outs.xs.map (withLit (keptS f (needN f)).1) := gof_xs _
 have eN := only_kN f (needN f)
 have e0 : (onlyN f (needN f)).k0 = f.k0 := rfl
 have enx : (onlyN f (needN f)).nexts = (keptRegs f (needN f)).map fun r => atL (keptS f (needN f)).1 r.next := by
  unfold GNet.nexts; rw [e2, List.map_map]; rfl
 have eol : (onlyN f (needN f)).olits = f.olits.map (atL (keptS f (needN f)).1) := by
  unfold GNet.olits; rw [e4, List.map_map, List.map_map]; rfl
 have hnd : ∀ j, f.Need j -> (onlyN f (needN f)).Need ((keptS f (needN f)).1.getD j 0 / 2).toNat := fun j hj => by
  unfold GNet.Need
  rw [e0, eN, e3, eol]
  refine hK.nd hb (k0 := f.k0) (nexts := f.nexts) (fun i hi h => (need_get (by omega)).2 h) (fun i hi h => ?_) hj
  have hi' : i < f.regs.xs.length := by simpa [GNet.nexts] using hi
  obtain ⟨r, hr, r1, r2⟩ := hsel.rank i hi' hi' ((need_get (by omega)).2 h)
  have hr : r < (keptRegs f (needN f)).length := hr
  refine ⟨r, by rw [enx, List.length_map]; exact hr, ?_, ?_⟩
  ·rw [hK.base _ (by omega)]; exact r1
  ·have r2 : (keptRegs f (needN f))[r] = f.regs.xs[i] := r2
   have q : f.nexts[i] = f.regs.xs[i].next := by simp [GNet.nexts]
   rw [List.getElem_of_eq enx, List.getElem_map, r2, q]
 have hg : ∀ p, p < (onlyN f (needN f)).gates.xs.length -> (onlyN f (needN f)).Need ((onlyN f (needN f)).kN + p) := fun p hp => by
  rw [e3] at hp
  obtain ⟨i, hi, h1, h2⟩ := hK.onto p hp
  have := hnd _ ((need_get (by omega)).1 h1)
  rw [h2, show (2 * ((f.kS (needN f) + p : Nat) : Int) / 2).toNat = f.kS (needN f) + p by omega, <- eN] at this
  exact this
 refine ⟨⟨?_, fun p hp => ?_⟩, fun j h1 h2 => ?_⟩
 ·rw [e3, eN]
  exact hK.red hb hf.1 hcl (kept_sh f (needN f)).ok
 ·exact need_cone (hg p hp)
 ·by_cases c : j < (onlyN f (needN f)).kN
  ·rw [eN] at c
   rw [e0] at h1
   obtain ⟨i, hi, q1, q2⟩ := hsel.onto (j - f.k0) (by show _ < (keptRegs f (needN f)).length; rw [hpl]; unfold GNet.kS at c; omega)
   have := hnd _ ((need_get (by omega)).1 q1)
   rw [hK.base _ (by omega), q2, show (2 * ((f.k0 + (j - f.k0) : Nat) : Int) / 2).toNat = j by omega] at this
   exact this
  ·have := hg (j - (onlyN f (needN f)).kN) (by omega)
   rwa [show (onlyN f (needN f)).kN + (j - (onlyN f (needN f)).kN) = j by omega] at this
theorem SameC.fold {a b : GNet} (h : SameC a b) : SameC (foldN a) (foldN b) := by
 have : SameC (shareN a) (shareN b) := by
  unfold shareN
  rw [h.share]
  exact h.lay _
 exact this.cleaned
structure NeedFin (n m : GNet) : Prop where
 v : validM m = true
 f : Folded m
 a : AllNeed m
 g : m.gates.xs.length <= n.gates.xs.length
 r : m.regs.xs.length <= n.regs.xs.length
theorem needP_eq {n : GNet} (hv : validM n = true) : needP n = foldN (onlyN (foldN n) (needN (foldN n))) := by
 unfold needP
 rw [if_pos (only_valid (fold_valid hv) _)]
theorem SameC.allNeed {a b : GNet} (h : SameC a b) (hb : AllNeed b) : AllNeed a := by
 unfold AllNeed GNet.Need GNet.k0 GNet.nexts GNet.olits at hb ⊢
 rw [h.ins, h.k, h.gates, h.regs, h.outs]
 exact hb
theorem need_fin {n : GNet} (hv : validM n = true) : NeedFin n (needP n) := by
 have hf := fold_valid hv
 obtain ⟨h1, h2⟩ := only_needed hf (fold_folded hv)
 have ho := only_valid hf (needN (foldN n))
 have hs := fold_id ho h1
 rw [needP_eq hv]
 refine ⟨fold_valid ho, hs.folded h1, hs.allNeed h2, ?_, ?_⟩
 ·rw [hs.gates]
  have e3 : (onlyN (foldN n) (needN (foldN n))).gates.xs = (keptS (foldN n) (needN (foldN n))).2 := gof_xs _
  rw [e3]
  exact Nat.le_trans (kept_sh _ _).gates (fold_le n)
 ·rw [hs.regs]
  have e2 : (onlyN (foldN n) (needN (foldN n))).regs.xs = (keptRegs (foldN n) (needN (foldN n))).map (withNext (keptS (foldN n) (needN (foldN n))).1) := gof_xs _
  rw [e2, List.length_map, <- (fold_regs' n).1]
  exact (kept_subl _ _).length_le
end Go.OptEnv
namespace Go.OptEnv
open Go Go.Proofs Go.Abs Go.RowKit Go.NetM
set_option maxRecDepth 10000
attribute [local irreducible] WS QS OS OD Abs.Sub SubO SubK CW GSl.av accA growA
section
variable {pr : Prims} {L : List (Nat × AObj)} {K : List (Nat × Bool)} {st : St}
end
end Go.OptEnv
namespace Go.OptEnv
open Go Go.Proofs Go.Abs Go.RowKit Go.NetM
set_option maxRecDepth 10000
def fillL (A : List Nat) (i : Nat) : List Nat := A.take i ++ List.replicate (A.length - i) 0
theorem fill_len {A : List Nat} {i : Nat} (h : i <= A.length) : (fillL A i).length = A.length := by
 simp only [fillL, List.length_append, List.length_take, List.length_replicate]; omega
theorem fill_set {A : List Nat} {i : Nat} (h : i < A.length) : (fillL A i).set i A[i] = fillL A (i + 1) := by
 unfold fillL
 rw [List.set_append_right _ _ (by rw [List.length_take]; omega), List.take_succ_eq_append_getElem h, List.append_assoc]
 congr 1
 rw [List.length_take, show i - min i A.length = 0 by omega, show A.length - i = (A.length - (i + 1)) + 1 by omega, List.replicate_succ]
 rfl
theorem fill_zero (A : List Nat) : fillL A 0 = List.replicate A.length 0 := by simp [fillL]
theorem fill_all (A : List Nat) : fillL A A.length = A := by simp [fillL]
theorem set_set {α : Type} {l : List α} {i : Nat} {a b : α} : (l.set i a).set i b = l.set i b := by rw [List.set_set]
theorem rep_nat (n : Nat) : List.replicate n (AV.int .i64 0) = (List.replicate n 0).map natAV := by rw [List.map_replicate]; rfl
theorem map_setN {l : List Nat} {i k : Nat} : (l.map natAV).set i (.int .i64 (k : Int)) = (l.set i k).map natAV := by rw [List.map_set]; rfl
theorem ini_len (n : GNet) : n.inits.length = n.regs.xs.length := List.length_map _
def Rel27 : GNet -> List Nat -> Prop := fun n c => NetM.Reach n.gates.xs n.ins.xs.length n.nexts n.inits c /\ finerL n.gates.xs n.ins.xs.length n.nexts c = c
theorem all0_succ {nins : Nat} {c : List Nat} {i : Nat} (h : i < c.length) : all0L nins (c.take (i + 1)) = all0L nins (c.take i) ++ [2 * ((1 + nins + c[i] : Nat) : Int)] := by
 rw [List.take_succ_eq_append_getElem h]; unfold all0L; rw [List.map_append, List.append_assoc]; rfl
theorem getD_rep {k j : Nat} : (List.replicate k (0 : UInt8)).getD j 0 = 0 := by
 rw [List.getD_eq_getElem?_getD, List.getElem?_replicate]
 split <;> rfl
theorem bin_rep (k : Nat) : binL (List.replicate k 0) := fun b hb => .inl (List.eq_of_mem_replicate hb)
structure Shared (k i : Nat) (s : List Int × List (Int × Int)) : Prop where
 len : s.1.length = k + i
 range : ∀ j, 0 <= s.1.getD j 0 /\ s.1.getD j 0 < 2 * ((k + s.2.length : Nat) : Int)
 gates : s.2.length <= i
theorem share_ok {gs : List (Int × Int)} {nins : Nat} {c : List Nat} (hc : Canon c) (hg : okG (1 + nins + c.length) gs) {i : Nat} (hi : i <= gs.length) : Shared (1 + nins + c.length) i (shareM (1 + nins + c.length) (all0L nins c) (gs.take i)) := by
 have hlv : (0 :: (List.replicate nins (0 : UInt8) ++ List.replicate c.length 0)).length = 1 + nins + c.length := by simp; omega
 have hb : binL (0 :: (List.replicate nins (0 : UInt8) ++ List.replicate c.length 0)) := fun b hb => by
  rcases List.mem_cons.1 hb with rfl | hb
  ·exact .inl rfl
  ·exact bin_app (bin_rep _) (bin_rep _) b hb
 have hs : SameIn c (List.replicate c.length 0) := fun j hj => by
  rw [getD_rep, getD_rep]
 obtain ⟨h1, h2⟩ := (simL0 (nins := nins) (ins := List.replicate nins 0) (by simp) (by simp) hc hs).share hb rfl (by simp) (gs := gs) (by rw [hlv]; exact hg) i hi
 rw [hlv] at h1 h2
 have hl := h1.len
 rw [gatesM_len, hlv, List.length_take] at hl
 refine ⟨by omega, fun j => ?_, h2⟩
 by_cases hj : j < (shareM (1 + nins + c.length) (all0L nins c) (gs.take i)).1.length
 ·have := h1.range j hj
  rw [hlv] at this
  exact this
 ·rw [List.getD_eq_getElem?_getD, List.getElem?_eq_none (by omega)]
  simp only [Option.getD_none]; omega
theorem at_range {k i : Nat} {s : List Int × List (Int × Int)} (h : Shared k i s) (l : Int) : 0 <= atL s.1 l /\ atL s.1 l < 2 * ((k + s.2.length : Nat) : Int) := flip_range (h.range _)
def keysI (keys : List (Nat × Int)) : List (Int × Int) := keys.map fun p => ((p.1 : Int), p.2)
def esM (ks : List (Int × Int)) : Nat -> List ((Int × Int) × Int)
 | 0 => []
 | i + 1 => if (assocI (ks.getD i (0, 0)) (esM ks i)).isSome then esM ks i else esM ks i ++ [(ks.getD i (0, 0), (i : Int))]
theorem assoc_snoc {p q : Int × Int} {v : Int} : ∀ {l : List ((Int × Int) × Int)}, assocI p (l ++ [(q, v)]) = match assocI p l with | some x => some x | none => if p = q then some v else none
 | [] => rfl
 | e :: l => by
  simp only [List.cons_append, assocI]
  by_cases h : p = e.1
  ·rw [if_pos h, if_pos h]
  ·rw [if_neg h, if_neg h]; exact assoc_snoc
theorem idxOf_mem {α : Type} [BEq α] [LawfulBEq α] : ∀ {l : List α} {i : Nat} {a : α}, l[i]? = some a -> a ∉ l.take i -> l.idxOf a = i
 | b :: l, 0, a, h, _ => by
  simp only [List.getElem?_cons_zero, Option.some.injEq] at h
  subst h; simp
 | b :: l, i + 1, a, h, hn => by
  simp only [List.getElem?_cons_succ] at h
  simp only [List.take_succ_cons, List.mem_cons, not_or] at hn
  rw [List.idxOf_cons, show (b == a) = false by simpa using fun e : b = a => hn.1 e.symm, cond_false, idxOf_mem h hn.2]
theorem esM_spec {ks : List (Int × Int)} : ∀ {i : Nat}, i <= ks.length -> ∀ p, assocI p (esM ks i) = if p ∈ ks.take i then some ((ks.idxOf p : Nat) : Int) else none
 | 0, _, p => by simp [esM, assocI]
 | i + 1, h, p => by
  have ih := esM_spec (ks := ks) (i := i) (by omega)
  have hg : ks.getD i (0, 0) = ks[i] := by rw [List.getD_eq_getElem?_getD, List.getElem?_eq_getElem (by omega)]; rfl
  have hm : p ∈ ks.take (i + 1) ↔ p ∈ ks.take i \/ p = ks[i] := by rw [List.take_succ_eq_append_getElem (by omega), List.mem_append, List.mem_singleton]
  unfold esM
  rw [hg]
  by_cases hk : ks[i] ∈ ks.take i
  ·rw [if_pos (by rw [ih, if_pos hk]; rfl), ih]
   by_cases hp : p ∈ ks.take i
   ·rw [if_pos hp, if_pos (hm.2 (.inl hp))]
   ·rw [if_neg hp, if_neg (fun h => by rcases hm.1 h with h | h; · exact hp h
                                       · exact hp (h ▸ hk))]
  ·rw [if_neg (by rw [ih, if_neg hk]; simp), assoc_snoc, ih]
   by_cases hp : p ∈ ks.take i
   ·rw [if_pos hp, if_pos (hm.2 (.inl hp))]
   ·rw [if_neg hp]
    dsimp only
    by_cases e : p = ks[i]
    ·rw [if_pos e, if_pos (hm.2 (.inr e)), e, idxOf_mem (List.getElem?_eq_getElem (by omega)) hk]
    ·rw [if_neg e, if_neg (fun h => by rcases hm.1 h with h | h; · exact hp h
                                       · exact e h)]
theorem idxOf_keysI (a : Nat × Int) : ∀ (keys : List (Nat × Int)), (keysI keys).idxOf ((a.1 : Int), a.2) = keys.idxOf a
 | [] => rfl
 | b :: keys => by
  simp only [keysI, List.map_cons, List.idxOf_cons]
  have e : (((b.1 : Int), b.2) == ((a.1 : Int), a.2)) = (b == a) := by
   rw [Bool.eq_iff_iff, beq_iff_eq, beq_iff_eq, Prod.mk.injEq, Prod.ext_iff]
   constructor
   ·rintro ⟨h1, h2⟩; exact ⟨by omega, h2⟩
   ·rintro ⟨h1, h2⟩; exact ⟨by omega, h2⟩
  rw [e]
  cases (b == a) with
  | true => rfl
  | false =>
   have := idxOf_keysI a keys
   simp only [cond_false]
   rw [show (keys.map fun p => ((p.1 : Int), p.2)) = keysI keys from rfl, this]
theorem es_least {keys : List (Nat × Int)} {i : Nat} (h : i < keys.length) : (assocI ((keysI keys).getD i (0, 0)) (esM (keysI keys) (i + 1))).getD 0 = (((leastOf keys)[i]'(by rw [leastOf_len]; exact h) : Nat) : Int) := by
 have hl : (keysI keys).length = keys.length := List.length_map _
 have hg : (keysI keys).getD i (0, 0) = ((keys[i].1 : Int), keys[i].2) := by
  rw [List.getD_eq_getElem?_getD, List.getElem?_eq_getElem (by omega)]
  simp [keysI]
 have hgi : (keysI keys)[i]'(by omega) = ((keys[i].1 : Int), keys[i].2) := by simp [keysI]
 rw [hg, esM_spec (by omega), if_pos (by rw [List.take_succ_eq_append_getElem (by omega), List.mem_append, hgi]; exact .inr (List.mem_singleton.2 rfl)), idxOf_keysI]
 simp [leastOf]
theorem none_of {α : Type} {o : Option α} (h : o.isSome = false) : o = none := by cases o with | none => rfl | some _ => cases h
theorem es_yes {ks : List (Int × Int)} {i : Nat} {es : List ((Int × Int) × Int)} (he : es = esM ks i) (h : (assocI (ks.getD i (0, 0)) es).isSome = true) : es = esM ks (i + 1) := by
 rw [he] at h ⊢
 show _ = esM ks (i + 1)
 unfold esM
 rw [if_pos h]
 cases i <;> rfl
theorem es_no {ks : List (Int × Int)} {i : Nat} {es : List ((Int × Int) × Int)} (he : es = esM ks i) (h : (assocI (ks.getD i (0, 0)) es).isSome = false) : es ++ [(ks.getD i (0, 0), (i : Int))] = esM ks (i + 1) := by
 rw [he] at h ⊢
 conv => rhs; unfold esM
 rw [if_neg (by rw [h]; simp)]
theorem grow_one {x : Int} : AV.vs 1 .full [AV.int .i64 x] = growA false 0 1 ([x].map intAV) := rfl
attribute [local irreducible] WS QS OS OD Abs.Sub SubO SubK CW GSl.av accA growA
section
variable {pr : Prims} {L : List (Nat × AObj)} {K : List (Nat × Bool)} {st : St}
theorem run66' (h66 : pr 66 = none) (h112 : Has pr 112 Rel112) (h57 : Has pr 57 Rel57) (n : GNet) (hn : FitsN n) (hv : validM n = true) (f1 : n.ins.xs.length <= 120) (f2 : n.regs.xs.length <= 120) (tn ti : Nat) (hS : SFa L K st) :
  CW (En pr) 66 [n.ins.av 1 strAV, accA tn 1 ((n.regs.xs.map (·.name)).map strAV), accA ti 1 ((n.regs.xs.map (·.init)).map bitAV)] st fun r st' => ∃ d : Nat × MkI, (d.2.k = 1 + n.ins.xs.length + n.regs.xs.length /\ d.2.Fit) /\ r = .tup [.ptr d.1 0 0, .int .i64 0] /\ SFa ((d.1, mkO d.2 0 []) :: (d.2.tb, thO d.2 []) :: L) ((0, false) :: K) st' :=
 (run66 h66 h112 h57 n.ins n.regs.xs tn ti (by omega) (by omega) (bare_fits hn) (bare_valid hv) hS).mono fun r st' ⟨d, _, e, h⟩ => ⟨(d.1, ⟨cloneG n.ins, n.regs.xs.map zeroR, d.2.1, d.2.2⟩), ⟨by simp [MkI.k, clone_xs], ⟨by simp only [clone_xs]; omega, by simp only [List.length_map]; omega⟩⟩, e, h⟩
set_option maxHeartbeats 4000000 in
theorem run27 (h1 : pr 27 = none) (h57 : Has pr 57 Rel57) (h64 : pr 64 = none) (h65 : pr 65 = none) (h66 : pr 66 = none) (h112 : Has pr 112 Rel112) (h67 : Has pr 67 Rel67) (h62 : pr 62 = none) (h95 : pr 95 = none) (h117 : pr 117 = none) (h94 : pr 94 = none) (h68 : pr 68 = none)
  (n : GNet) (hn : FitsN n) (hv : validM n = true) (f1 : n.ins.xs.length <= 120) (f2 : n.regs.xs.length <= 120) (f3 : n.gates.xs.length <= 300) (hS : SFa L [] st) :
  CW (En pr) 27 [netAV n] st fun r st' => ∃ d : List Nat × Nat, Rel27 n d.1 /\ r = .tup [.sl 1 d.2 0 n.regs.xs.length, .int .i64 0] /\ SFa ((d.2, .row 1 (d.1.map natAV)) :: L) [] st' := by
 have u57 := use57 h57 hn
 rw [hv] at u57
 have hc0 : (class0 n.inits).length = n.regs.xs.length := by rw [class0_len, ini_len]
 refine CW.startS (N := 180) h1 rfl rfl hS ?_
 repeat' (first | (refine OS.do rfl ?_; first | refine OD.box rfl rfl rfl rfl (net_ok _) rfl (fun b1 => ?_) | refine OD.loadP 0 rfl rfl rfl rfl rfl rfl ?_ | refine OD.auto rfl rfl ?_ | refine OD.loadP 1 rfl rfl rfl rfl rfl rfl ?_ | refine OD.len rfl rfl (fun _ => lenTy_av rfl rfl) ?_ | refine OD.call rfl rfl rfl h57.eq u57 (fun _ => rfl) ?_ | refine OD.makeSlice rfl rfl rfl rfl rfl rfl rfl rfl (roomB rfl (by omega)) (fun cb => ?_)) | refine OS.nil ?_ | refine WS.seq ?_ | refine QS.seqN ?_ | refine WS.region ?_ | refine WS.condF rfl ?_ | refine WS.skip ?_ | refine WS.block ?_)
 have e0 : List.replicate n.regs.xs.length ty3.zeroV = (fillL (class0 n.inits) 0).map natAV := by rw [fill_zero, hc0]; exact rep_nat _
 rw [e0]
 refine WS.rangeX (A := List Nat) (n := n.regs.xs.length) ⟨35, _, fun _ => [], fun c => (cb, .row 1 (c.map natAV)) :: (b1, .row 4 [netAV n]) :: L, fun _ => [], fun i c => c = fillL (class0 n.inits) i⟩ (fillL (class0 n.inits) 0) [1, 4, 33, 34] (rfl) ?_ ?_
 ·rintro i c hi hc
  try dsimp only at hc
  subst hc
  have hx := List.getElem?_eq_getElem (l := n.regs.xs) hi
  have hini : n.inits[i]'(by rw [ini_len]; exact hi) = n.regs.xs[i].init := by simp [GNet.inits]
  have hmem : n.regs.xs[i].init ∈ n.regs.xs.map (·.init) := List.mem_map_of_mem (List.getElem_mem hi)
  have hfl : (fillL (class0 n.inits) i).length = n.regs.xs.length := by rw [fill_len (by omega), hc0]
  have hj : ((fillL (class0 n.inits) i).map natAV)[i]? = some (natAV (fillL (class0 n.inits) i)[i]) := by rw [List.getElem?_map, List.getElem?_eq_getElem (by omega)]; rfl
  have hj2 : (((fillL (class0 n.inits) i).map natAV).set i (.int .i64 (i : Int)))[i]? = some (natAV i) := by rw [List.getElem?_set, if_pos rfl, if_pos (by simp; omega)]; rfl
  have c64 := fun {L' : List (Nat × AObj)} {b : Nat} (kk : Nat) (hL : L'[kk]? = some (b, .row 3 [regAV n.regs.xs[i]])) (st : St) (hS : SFa L' [] st) => run64 h64 h65 kk n.regs (by omega) hmem hL hS
  dsimp only [RSt.at, List.cons_append, List.nil_append]
  repeat' (first | (refine OS.do rfl ?_; first | refine OD.storeW 0 rfl rfl rfl rfl rfl rfl rfl rfl ?_ | refine OD.loadP 0 rfl rfl rfl rfl rfl rfl ?_ | refine OD.auto rfl rfl ?_ | refine OD.indexAddr rfl rfl rfl (indexAddrA_nat rfl rfl rfl rfl (by first | assumption | exact List.getElem?_eq_getElem (by omega))) ?_ | refine OD.loadP 2 rfl rfl rfl rfl rfl rfl ?_ | refine OD.alloc rfl rfl rfl rfl (fun _ => ?_) | refine OD.indexAddr rfl rfl rfl (indexAddrA_sl rfl rfl rfl rfl (by omega)) ?_ | refine OD.storeI 1 rfl rfl rfl rfl rfl hj ?_ | refine OD.storeI 1 rfl rfl rfl rfl rfl hj2 ?_ | (refine OD.callP (fun v => v = natAV ((n.regs.xs.map (·.init)).idxOf n.regs.xs[i].init)) rfl rfl rfl (c64 0 rfl) (by rintro v st rfl; rfl) ?_; rintro v rfl)) | refine OS.nil ?_ | refine WS.seq ?_ | refine QS.seqN ?_ | refine WS.region ?_ | refine WS.skip ?_ | refine WS.condNe rfl (fun _ => ?_) (fun _ => ?_))
  ·rename_i h2
   have hne : n.inits.getD i 0 ≠ 2 := by rw [getD_get (by rw [ini_len]; exact hi), hini]; exact b8_ne h2
   have ei : (n.regs.xs.map (·.init)).idxOf n.regs.xs[i].init = (class0 n.inits)[i]'(by omega) := by
    have := class0_get (inits := n.inits) (i := i) (by rw [ini_len]; exact hi)
    rw [if_neg hne, getD_get (by rw [ini_len]; exact hi), hini, List.getD_eq_getElem?_getD, List.getElem?_eq_getElem (by omega)] at this
    exact this.symm
   dsimp only [List.set_cons_zero, List.set_cons_succ]
   rw [set_set, map_setN, ei, fill_set (by omega)]
   exact QS.rangeX (fillL (class0 n.inits) (i + 1)) (by (try dsimp only) <;> exact (rfl))
  ·rename_i h2
   have hne : n.inits.getD i 0 = 2 := by rw [getD_get (by rw [ini_len]; exact hi), hini]; exact b8_eq h2
   have ei : i = (class0 n.inits)[i]'(by omega) := by
    have := class0_get (inits := n.inits) (i := i) (by rw [ini_len]; exact hi)
    rw [if_pos hne, List.getD_eq_getElem?_getD, List.getElem?_eq_getElem (by omega)] at this
    exact this.symm
   dsimp only [List.set_cons_zero, List.set_cons_succ]
   have em : ((fillL (class0 n.inits) i).map natAV).set i (.int .i64 (i : Int)) = (fillL (class0 n.inits) (i + 1)).map natAV := by
    rw [<- fill_set (by omega), <- ei, map_setN]
   rw [em]
   exact QS.rangeX (fillL (class0 n.inits) (i + 1)) (by (try dsimp only) <;> exact (rfl))
 ·rintro c hc
  try dsimp only at hc
  rw [<- hc0, fill_all] at hc
  subst hc
  dsimp only [RSt.at, List.cons_append, List.nil_append]
  repeat' (first | (refine OS.do rfl ?_; first | refine OD.auto rfl rfl ?_ | refine OD.loadP 1 rfl rfl rfl rfl rfl rfl ?_ | refine OD.len rfl rfl (fun _ => lenTy_av rfl rfl) ?_) | refine OS.nil ?_ | refine WS.seq ?_ | refine QS.seqN ?_ | refine WS.region ?_ | refine WS.block ?_)
  refine WS.rangeX (A := Nat × Nat × List GReg) (n := n.regs.xs.length) ⟨58, _, fun a => [(7, accA a.1 1 ((a.2.2.map (·.name)).map strAV)), (8, accA a.2.1 1 ((a.2.2.map (·.init)).map bitAV))], fun _ => (cb, .row 1 ((class0 n.inits).map natAV)) :: (b1, .row 4 [netAV n]) :: L, fun a => [(a.1, !a.2.2.isEmpty), (a.2.1, !a.2.2.isEmpty)], fun i a => a.2.2 = n.regs.xs.take i⟩ ((0, 0, [])) [1, 4, 56, 57] (rfl) ?_ ?_ (hm := by (try dsimp only); repeat' (first | exact Sub.nil _ | refine Sub.cons (congrArg some (accA_nil _ _).symm) ?_ | refine Sub.cons (congrArg (fun z => some (AV.int .i64 z)) (wrap_succ (by omega))) ?_ | refine Sub.cons rfl ?_))
  ·rintro i ⟨tn, ti, R⟩ hi hR
   try dsimp only at hR
   have hRl : R.length = i := by rw [hR, List.length_take]; omega
   dsimp only [RSt.at, List.cons_append, List.nil_append]
   repeat' (first | (refine OS.do rfl ?_; first | refine OD.auto rfl rfl ?_ | refine OD.indexAddr rfl rfl rfl (indexAddrA_nat rfl rfl rfl rfl (by first | assumption | exact List.getElem?_eq_getElem (by omega))) ?_ | refine OD.alloc rfl rfl rfl rfl (fun _ => ?_) | refine OD.storeW 0 rfl rfl rfl rfl (by first | rfl | exact net_ok _) rfl rfl rfl ?_) | refine OS.nil ?_ | refine WS.seq ?_ | refine QS.seqN ?_ | refine WS.region ?_)
   refine WS.drawY 8 [(tn, !R.isEmpty), (ti, !R.isEmpty)] (K := []) rfl rfl rfl rfl ?_; (repeat' (first | refine SegY.nil ?_ | refine SegY.auto rfl rfl rfl rfl ?_ | refine SegY.loadP 0 rfl rfl rfl rfl rfl rfl rfl ?_ | refine SegY.loadP 1 rfl rfl rfl rfl rfl rfl rfl ?_ | refine SegY.loadP 2 rfl rfl rfl rfl rfl rfl rfl ?_ | refine SegY.indexAddr rfl rfl rfl rfl rfl ?_ | refine SegY.append 0 (xs := (R.map (·.name)).map strAV) (ys := [strAV n.regs.xs[i].name]) rfl rfl rfl rfl rfl (by simp only [List.isEmpty_map]; rfl) rfl rfl rfl rfl rfl rfl (.inr ⟨⟨_, rfl⟩, rfl⟩) (fun _ => rfl) rfl rfl (roomB rfl (by simp only [List.length_map, List.length_singleton]; omega)) (by simp) (fun tn' => ?_)))
   dsimp only [RSt.at, List.cons_append, List.nil_append]
   repeat' (first | (refine OS.do rfl ?_; first | refine OD.auto rfl rfl ?_ | refine OD.append 1 (xs := (R.map (·.init)).map bitAV) (ys := [bitAV n.regs.xs[i].init]) rfl rfl rfl rfl (by simp only [List.isEmpty_map]; rfl) rfl rfl rfl rfl rfl rfl (.inr ⟨⟨_, rfl⟩, rfl⟩) (fun _ => rfl) rfl rfl (roomB rfl (by simp only [List.length_map, List.length_singleton]; omega)) (fun ti' => ?_)) | refine OS.nil ?_)
   have hm1 : (R.map (·.name)).map strAV ++ [strAV n.regs.xs[i].name] = ((R ++ [n.regs.xs[i]]).map (·.name)).map strAV := by simp
   have hm2 : (R.map (·.init)).map bitAV ++ [bitAV n.regs.xs[i].init] = ((R ++ [n.regs.xs[i]]).map (·.init)).map bitAV := by simp
   rw [show (!((R.map (·.init)).map bitAV ++ [bitAV n.regs.xs[i].init]).isEmpty) = true by simp, hm1, hm2]
   exact QS.rangeX ((tn', ti', R ++ [n.regs.xs[i]])) (by (try dsimp only) <;> exact (by rw [hR, List.take_succ_eq_append_getElem hi]))
  ·rintro ⟨tn, ti, R⟩ hR
   try dsimp only at hR
   rw [List.take_of_length_le (Nat.le_refl _)] at hR
   subst hR
   dsimp only [RSt.at, List.cons_append, List.nil_append]
   repeat' (first | refine QS.seqN ?_ | refine WS.block ?_)
   refine WS.loopX (D := List Nat × Nat) [1, 7, 8] (fun d => [(4, .sl 1 d.2 0 n.regs.xs.length)]) (fun d => (d.2, .row 1 (d.1.map natAV)) :: (b1, .row 4 [netAV n]) :: L) (fun _ => []) (fun d => NetM.Reach n.gates.xs n.ins.xs.length n.nexts n.inits d.1) (fun d => n.regs.xs.length - fixN d.1) ((class0 n.inits, cb)) (.zero) ?_
   rintro ⟨c, cb⟩ hR
   try dsimp only at hR
   have hC := hR.class (by simp [GNet.inits, GNet.nexts])
   have hcl : c.length = n.regs.xs.length := by rw [hC.len, ini_len]
   have c66 := fun {L' : List (Nat × AObj)} (st : St) (hS : SFa L' [] st) => run66' h66 h112 h57 n hn hv f1 f2 tn ti hS
   dsimp only [RSt.at, List.cons_append, List.nil_append]
   repeat' (first | (refine OS.do rfl ?_; first | refine OD.auto rfl rfl ?_ | refine OD.loadP 1 rfl rfl rfl rfl rfl rfl ?_ | refine OD.len rfl rfl (fun _ => lenTy_av rfl rfl) ?_ | (refine OD.callM (D := Nat × MkI) (fun d => d.2.k = 1 + n.ins.xs.length + n.regs.xs.length /\ d.2.Fit) (fun d => .tup [.ptr d.1 0 0, .int .i64 0]) (fun d => (d.1, mkO d.2 0 []) :: (d.2.tb, thO d.2 []) :: _) (fun _ => [(0, false)]) rfl rfl rfl c66 (fun _ _ _ => rfl) ?_; rintro ⟨mb, m⟩ ⟨hmk, hmf⟩) | refine OD.loadP 3 rfl rfl rfl rfl rfl rfl ?_) | refine OS.nil ?_ | refine WS.seq ?_ | refine QS.seqN ?_ | refine WS.region ?_ | refine WS.block ?_)
   try dsimp only at hmk hmf
   dsimp only
   refine WS.rangeX (A := Bool × Nat × List Int) (n := n.ins.xs.length) ⟨85, _, fun a => [(13, growA a.1 a.2.1 1 (a.2.2.map intAV))], fun _ => (mb, mkO m 0 []) :: (m.tb, thO m []) :: (cb, .row 1 (c.map natAV)) :: (b1, .row 4 [netAV n]) :: L, fun a => [(a.2.1, a.1), (0, false)], fun i a => a.2.2 = (List.range (1 + i)).map fun (k : Nat) => 2 * (k : Int)⟩ ((false, 0, [0])) [1, 4, 7, 8, 11, 84] (rfl) ?_ ?_ (hm := by (try dsimp only); repeat' (first | exact Sub.nil _ | refine Sub.cons (congrArg some grow_one) ?_ | refine Sub.cons (congrArg (fun z => some (AV.int .i64 z)) (wrap_succ (by omega))) ?_ | refine Sub.cons rfl ?_))
   ·rintro i ⟨b, t, R⟩ hi hA
    try dsimp only at hA
    have hRl : R.length = 1 + i := by rw [hA]; simp
    have hw : IntKind.i64.wrap (2 * IntKind.i64.wrap (1 + (i : Int))) = 2 * ((1 + i : Nat) : Int) := by
     rw [wrap64 (n := 1 + (i : Int)) (by omega) (by omega), wrap64 (by omega) (by omega)]; omega
    dsimp only [RSt.at, List.cons_append, List.nil_append]
    repeat' (first | (refine OS.do rfl ?_; first | refine OD.auto rfl rfl ?_ | refine OD.appendG 0 (xs := R.map intAV) (ys := [.int .i64 (IntKind.i64.wrap (2 * IntKind.i64.wrap (1 + (i : Int))))]) rfl rfl rfl rfl rfl rfl rfl rfl rfl rfl rfl (.inr ⟨⟨_, rfl⟩, rfl⟩) (fun _ => rfl) rfl rfl (roomB rfl (by simp only [List.length_map, List.length_singleton]; omega)) (fun t' => ?_)) | refine OS.nil ?_ | refine WS.seq ?_ | refine QS.seqN ?_ | refine WS.region ?_)
    have hm : R.map intAV ++ [.int .i64 (2 * ((1 + i : Nat) : Int))] = (R ++ [2 * ((1 + i : Nat) : Int)]).map intAV := by simp [intAV]
    rw [hw, hm, show (b || !([AV.int .i64 (2 * ((1 + i : Nat) : Int))] : List AV).isEmpty) = true by simp]
    exact QS.rangeX ((true, t', R ++ [2 * ((1 + i : Nat) : Int)])) (by (try dsimp only) <;> exact (by rw [hA, show 1 + (i + 1) = (1 + i) + 1 by omega, List.range_succ, List.map_append]; rfl))
   ·rintro ⟨b, t, R⟩ hA
    try dsimp only at hA
    dsimp only [RSt.at, List.cons_append, List.nil_append]
    repeat' (first | (refine OS.do rfl ?_; first | refine OD.auto rfl rfl ?_ | refine OD.len rfl rfl (fun _ => lenTy_av rfl rfl) ?_ | refine OD.loadP 3 rfl rfl rfl rfl rfl rfl ?_) | refine OS.nil ?_ | refine WS.seq ?_ | refine QS.seqN ?_ | refine WS.region ?_ | refine WS.block ?_)
    have hA2 : R = all0L n.ins.xs.length (c.take 0) := by rw [hA]; simp [all0L]
    refine WS.rangeX (A := Bool × Nat × List Int) (n := n.regs.xs.length) ⟨98, _, fun a => [(13, growA a.1 a.2.1 1 (a.2.2.map intAV))], fun _ => (mb, mkO m 0 []) :: (m.tb, thO m []) :: (cb, .row 1 (c.map natAV)) :: (b1, .row 4 [netAV n]) :: L, fun a => [(a.2.1, a.1), (0, false)], fun i a => a.2.2 = all0L n.ins.xs.length (c.take i)⟩ ((b, t, R)) [1, 4, 7, 8, 11, 97] (hA2) ?_ ?_
    ·rintro i ⟨b, t, R⟩ hi hA
     try dsimp only at hA
     have hRl : R.length = 1 + n.ins.xs.length + i := by rw [hA, all0L_len, List.length_take]; omega
     have hci : (c.map natAV)[i]? = some (natAV (c[i]'(by omega))) := by rw [List.getElem?_map, List.getElem?_eq_getElem (by omega)]; rfl
     have hcb : c[i]'(by omega) <= i := by
      have := (hC.canon i (by omega)).1
      rw [List.getD_eq_getElem?_getD, List.getElem?_eq_getElem (by omega)] at this
      exact this
     have hw : IntKind.i64.wrap (2 * IntKind.i64.wrap (IntKind.i64.wrap (1 + (n.ins.xs.length : Int)) + ((c[i]'(by omega) : Nat) : Int))) = 2 * ((1 + n.ins.xs.length + c[i]'(by omega) : Nat) : Int) := by
      rw [wrap64 (n := 1 + (n.ins.xs.length : Int)) (by omega) (by omega), wrap64 (n := 1 + (n.ins.xs.length : Int) + ((c[i]'(by omega) : Nat) : Int)) (by omega) (by omega), wrap64 (by omega) (by omega)]; omega
     dsimp only [RSt.at, List.cons_append, List.nil_append]
     repeat' (first | (refine OS.do rfl ?_; first | refine OD.loadP 2 rfl rfl rfl hci rfl rfl ?_ | refine OD.auto rfl rfl ?_ | refine OD.len rfl rfl (fun _ => lenTy_av rfl rfl) ?_ | refine OD.loadP 3 rfl rfl rfl rfl rfl rfl ?_ | refine OD.indexAddr rfl rfl rfl (indexAddrA_sl rfl rfl rfl rfl (by omega)) ?_ | refine OD.appendG 0 (xs := R.map intAV) (ys := [.int .i64 (IntKind.i64.wrap (2 * IntKind.i64.wrap (IntKind.i64.wrap (1 + (n.ins.xs.length : Int)) + ((c[i]'(by omega) : Nat) : Int))))]) rfl rfl rfl rfl rfl rfl rfl rfl rfl rfl rfl (.inr ⟨⟨_, rfl⟩, rfl⟩) (fun _ => rfl) rfl rfl (roomB rfl (by simp only [List.length_map, List.length_singleton]; omega)) (fun t' => ?_)) | refine OS.nil ?_ | refine WS.seq ?_ | refine QS.seqN ?_ | refine WS.region ?_ | refine WS.draw rfl rfl ?_)
     have hm : R.map intAV ++ [.int .i64 (2 * ((1 + n.ins.xs.length + c[i]'(by omega) : Nat) : Int))] = (R ++ [2 * ((1 + n.ins.xs.length + c[i]'(by omega) : Nat) : Int)]).map intAV := by simp [intAV]
     rw [hw, hm, show (b || !([AV.int .i64 (2 * ((1 + n.ins.xs.length + c[i]'(by omega) : Nat) : Int))] : List AV).isEmpty) = true by simp]
     exact QS.rangeX ((true, t', R ++ [2 * ((1 + n.ins.xs.length + c[i]'(by omega) : Nat) : Int)])) (by (try dsimp only) <;> exact ((congrArg (fun z => z ++ [2 * ((1 + n.ins.xs.length + c[i]'(by omega) : Nat) : Int)]) hA).trans (all0_succ (by omega)).symm))
    ·rintro ⟨b, t, R⟩ hA
     try dsimp only at hA
     rw [List.take_of_length_le (by omega)] at hA
     have hkc : m.k = 1 + n.ins.xs.length + c.length := by omega
     have hgo : okG (1 + n.ins.xs.length + c.length) n.gates.xs := okG_of (by rw [hcl]; unfold GNet.first; omega) (validM_iff.1 hv).gates
     dsimp only [RSt.at, List.cons_append, List.nil_append]
     repeat' (first | (refine OS.do rfl ?_; first | refine OD.auto rfl rfl ?_ | refine OD.len rfl rfl (fun _ => lenTy_av rfl rfl) ?_ | refine OD.loadP 3 rfl rfl rfl rfl rfl rfl ?_) | refine OS.nil ?_ | refine WS.seq ?_ | refine QS.seqN ?_ | refine WS.region ?_ | refine WS.block ?_)
     refine WS.rangeX (A := (Bool × Nat × List Int) × Nat × List (Int × Int)) (n := n.gates.xs.length) ⟨118, _, fun a => [(13, growA a.1.1 a.1.2.1 1 (a.1.2.2.map intAV))], fun a => (mb, mkO m a.2.1 a.2.2) :: (m.tb, thO m a.2.2) :: (cb, .row 1 (c.map natAV)) :: (b1, .row 4 [netAV n]) :: L, fun a => [(a.1.2.1, a.1.1), (a.2.1, !a.2.2.isEmpty)], fun i a => (a.1.2.2, a.2.2) = shareM m.k (all0L n.ins.xs.length c) (n.gates.xs.take i)⟩ (((b, t, R), 0, [])) [1, 4, 7, 8, 11, 116, 117] (by rw [hA]; rfl) ?_ ?_
     ·rintro i ⟨⟨b, t, R⟩, tg, G⟩ hi hA
      try dsimp only at hA
      have hs := share_ok hC.canon hgo (Nat.le_of_lt hi)
      rw [<- hkc, <- hA] at hs
      have hRl := hs.len
      have hGl := hs.gates
      try dsimp only at hRl hGl
      obtain ⟨⟨g1, g2⟩, g3, g4⟩ := hgo i hi
      have r1 := hs.range (n.gates.xs[i].1 / 2).toNat
      have r2 := hs.range (n.gates.xs[i].2 / 2).toNat
      have a1 := at_range hs n.gates.xs[i].1
      have a2 := at_range hs n.gates.xs[i].2
      try dsimp only at r1 r2 a1 a2
      have u1 := use67g h67 (b := b) (t := t) (v := R) (k := n.gates.xs[i].1) (by omega) (by omega)
      have u2 := use67g h67 (b := b) (t := t) (v := R) (k := n.gates.xs[i].2) (by omega) (by omega)
      have c62 := fun {L' : List (Nat × AObj)} {K : List (Nat × Bool)} (km kt kg : Nat) (hm : L'[km]? = some (mb, mkO m tg G)) (ht : L'[kt]? = some (m.tb, thO m G)) (hg : K[kg]? = some (tg, !G.isEmpty)) (hne : km ≠ kt) (st : St) (hS : SFa L' K st) => run62 h62 h95 h117 h94 km kt kg hm ht hg hne hmf (by omega) a1 a2 hS
      obtain ⟨⟨lit, G'⟩, hAnd⟩ : ∃ res, res = andG m.k G (atL R n.gates.xs[i].1) (atL R n.gates.xs[i].2) := ⟨_, rfl⟩
      simp only [<- hAnd] at c62
      have hstep : (R ++ [lit], G') = stepM m.k (R, G) n.gates.xs[i] := by unfold stepM; rw [<- hAnd]
      dsimp only [RSt.at, List.cons_append, List.nil_append]
      repeat' (first | (refine OS.do rfl ?_; first | refine OD.auto rfl rfl ?_ | refine OD.indexAddr rfl rfl rfl (indexAddrA_nat rfl rfl rfl rfl (by first | assumption | exact List.getElem?_eq_getElem (by omega))) ?_ | refine OD.alloc rfl rfl rfl rfl (fun _ => ?_) | refine OD.storeW 0 rfl rfl rfl rfl (by first | rfl | exact net_ok _) rfl rfl rfl ?_) | refine OS.nil ?_ | refine WS.seq ?_ | refine QS.seqN ?_ | refine WS.region ?_)
      refine WS.drawT 9 rfl rfl rfl rfl ?_; (repeat' (first | refine SegT.nil ?_ | refine SegT.auto rfl rfl rfl rfl ?_ | refine SegT.loadP 0 rfl rfl rfl rfl rfl rfl rfl ?_ | refine SegT.loadP 1 rfl rfl rfl rfl rfl rfl rfl ?_ | refine SegT.loadP 2 rfl rfl rfl rfl rfl rfl rfl ?_ | refine SegT.len rfl rfl rfl (fun _ => lenTy_av rfl rfl) ?_ | refine SegT.len rfl rfl rfl (fun _ => rfl) ?_ | refine SegT.indexAddr rfl rfl rfl rfl rfl ?_ | refine SegT.skip rfl rfl rfl ?_ | refine SegT.call rfl rfl rfl rfl h67.eq u1 (fun _ => rfl) ?_))
      dsimp only [RSt.at, List.cons_append, List.nil_append]
      repeat' (first | (refine OS.do rfl ?_; first | refine OD.auto rfl rfl ?_ | refine OD.call rfl rfl rfl h67.eq u2 (fun _ => rfl) ?_ | (refine OD.callM (D := Nat) (fun _ => True) (fun _ => .int .i64 lit) _ _ rfl rfl rfl (c62 1 2 1 rfl rfl rfl (by decide)) (fun _ _ _ => rfl) ?_; rintro tg' _) | refine OD.appendG 0 (xs := R.map intAV) (ys := [.int .i64 lit]) rfl rfl rfl rfl rfl rfl rfl rfl rfl rfl rfl (.inr ⟨⟨_, rfl⟩, rfl⟩) (fun _ => rfl) rfl rfl (roomB rfl (by simp only [List.length_map, List.length_singleton]; omega)) (fun t' => ?_)) | refine OS.nil ?_)
      have hm : R.map intAV ++ [.int .i64 lit] = (R ++ [lit]).map intAV := by simp [intAV]
      rw [hm, show (b || !([AV.int .i64 lit] : List AV).isEmpty) = true by simp]
      exact QS.rangeX (((true, t', R ++ [lit]), tg', G')) (by (try dsimp only) <;> exact (by rw [hstep, hA, shareM_succ hi]))
     ·rintro ⟨⟨b, t, R⟩, tg, G⟩ hA
      try dsimp only at hA
      rw [List.take_of_length_le (Nat.le_refl _)] at hA
      dsimp only [RSt.at, List.cons_append, List.nil_append]
      repeat' (first | (refine OS.do rfl ?_; first | refine OD.makeMap rfl rfl rfl (fun lb => ?_) | refine OD.auto rfl rfl ?_ | refine OD.len rfl rfl (fun _ => lenTy_av rfl rfl) ?_ | refine OD.len rfl rfl (fun _ => rfl) ?_ | refine OD.makeSlice rfl rfl rfl rfl rfl rfl rfl rfl (roomB rfl (by omega)) (fun fb => ?_) | refine OD.loadP 5 rfl rfl rfl rfl rfl rfl ?_) | refine OS.nil ?_ | refine WS.seq ?_ | refine QS.seqN ?_ | refine WS.region ?_ | refine WS.block ?_)
      obtain ⟨keys, hkeys⟩ : ∃ keys, keys = keysL n.gates.xs n.ins.xs.length n.nexts c := ⟨_, rfl⟩
      have hnl : n.nexts.length = n.regs.xs.length := by simp [GNet.nexts]
      have hkl : keys.length = n.regs.xs.length := by rw [hkeys, keysL_len (by omega), hcl]
      have hF : finerL n.gates.xs n.ins.xs.length n.nexts c = leastOf keys := by rw [hkeys]; rfl
      have hFl : (leastOf keys).length = n.regs.xs.length := by rw [leastOf_len, hkl]
      have hs := share_ok hC.canon hgo (Nat.le_refl _)
      rw [List.take_length, <- hkc, <- hA] at hs
      have hRl := hs.len
      have hGl := hs.gates
      try dsimp only at hRl hGl
      have hmade : madeL n.gates.xs n.ins.xs.length c = R := by unfold madeL; rw [<- hkc, <- hA]
      have e1 : List.replicate n.regs.xs.length ty3.zeroV = (fillL (leastOf keys) 0).map natAV := by rw [fill_zero, hFl]; exact rep_nat _
      rw [e1]
      refine WS.rangeX (A := List ((Int × Int) × Int) × List Nat) (n := n.regs.xs.length) ⟨143, _, fun _ => [], fun a => (lb, .map 53 3 (ents2 a.1)) :: (fb, .row 1 (a.2.map natAV)) :: (mb, mkO m tg G) :: (m.tb, thO m G) :: (cb, .row 1 (c.map natAV)) :: (b1, .row 4 [netAV n]) :: L, fun _ => [], fun i a => a.1 = esM (keysI keys) i /\ a.2 = fillL (leastOf keys) i⟩ (([], fillL (leastOf keys) 0)) [1, 4, 7, 8, 13, 18, 19, 141, 142] (⟨rfl, rfl⟩) ?_ ?_
      ·rintro i ⟨es, f⟩ hi ⟨hes, hf⟩
       try dsimp only at hes hf
       have hci : (c.map natAV)[i]? = some (natAV (c[i]'(by omega))) := by rw [List.getElem?_map, List.getElem?_eq_getElem (by omega)]; rfl
       have hx := List.getElem?_eq_getElem (l := n.regs.xs) hi
       have hnx := (validM_iff.1 hv).nexts
       have hnx : litOk n.regs.xs[i].next n.nodes = true := all_get hnx hi
       have hnx := of_decide_eq_true hnx
       simp only [GNet.nodes, GNet.first] at hnx
       have r1 := hs.range (n.regs.xs[i].next / 2).toNat
       try dsimp only at r1
       have u1 := use67g h67 (b := b) (t := t) (v := R) (k := n.regs.xs[i].next) (by omega) (by omega)
       have hkey : (keysI keys).getD i (0, 0) = (((c[i]'(by omega) : Nat) : Int), atL R n.regs.xs[i].next) := by
        have hki := keysL_get (gs := n.gates.xs) (nins := n.ins.xs.length) (next := n.nexts) (c := c) (by omega) (i := i) (by omega)
        rw [hmade, List.getD_eq_getElem?_getD, List.getD_eq_getElem?_getD, List.getElem?_eq_getElem (by omega), List.getElem?_eq_getElem (by omega)] at hki
        rw [List.getD_eq_getElem?_getD, List.getElem?_eq_getElem (by simp [keysI]; omega)]
        simp only [keysI, List.getElem_map, Option.getD_some]
        subst hkeys
        rw [hki]
        simp [GNet.nexts]
       have hset : (f.map natAV).set i (.int .i64 (((leastOf keys)[i]'(by omega) : Nat) : Int)) = (fillL (leastOf keys) (i + 1)).map natAV := by rw [map_setN, hf, fill_set (by omega)]
       have hleast := es_least (keys := keys) (i := i) (by omega)
       have hfj : (f.map natAV)[i]? = some (natAV (f.getD i 0)) := by
        rw [List.getElem?_map, hf, List.getElem?_eq_getElem (by rw [fill_len (by omega)]; omega), List.getD_eq_getElem?_getD, List.getElem?_eq_getElem (by rw [fill_len (by omega)]; omega)]; rfl
       dsimp only [RSt.at, List.cons_append, List.nil_append]
       repeat' (first | (refine OS.do rfl ?_; first | refine OD.storeW 0 rfl rfl rfl rfl rfl rfl rfl rfl ?_ | refine OD.auto rfl rfl ?_ | refine OD.indexAddr rfl rfl rfl (indexAddrA_nat rfl rfl rfl rfl (by first | assumption | exact List.getElem?_eq_getElem (by omega))) ?_ | refine OD.alloc rfl rfl rfl rfl (fun _ => ?_)) | refine OS.nil ?_ | refine WS.seq ?_ | refine QS.seqN ?_ | refine WS.region ?_)
       refine WS.drawA 9 rfl rfl rfl rfl rfl rfl rfl (fun _ _ => rfl) (fun b22 => ?_); (repeat' (first | refine SegY.nil ?_ | refine SegY.indexAddr rfl rfl rfl rfl (indexAddrA_sl rfl rfl rfl rfl (by omega)) ?_ | refine SegY.loadP 6 rfl rfl rfl rfl hci rfl rfl ?_ | refine SegY.auto rfl rfl rfl rfl ?_ | refine SegY.loadP 0 rfl rfl rfl rfl rfl rfl rfl ?_ | refine SegY.loadP 1 rfl rfl rfl rfl rfl rfl rfl ?_ | refine SegY.loadP 2 rfl rfl rfl rfl rfl rfl rfl ?_ | refine SegY.indexAddr rfl rfl rfl rfl rfl ?_ | refine SegY.call rfl rfl rfl rfl h67.eq u1 (fun _ => rfl) ?_))
       refine ⟨gateAV (((c[i]'(by omega) : Nat) : Int), atL R n.regs.xs[i].next), rfl, rfl, rfl, rfl, ?_⟩
       rw [<- hkey]
       dsimp only [RSt.at, List.cons_append, List.nil_append]
       repeat' (first | (refine OS.do rfl ?_; first | refine OD.lookup 2 rfl rfl rfl rfl (fun st hst => look2 true hst) ?_ | refine OD.lookup 2 rfl rfl rfl rfl (fun st hst => look2 false hst) ?_ | refine OD.mapUpdate 2 rfl rfl rfl rfl rfl rfl rfl (fun st hst => put2 (none_of (by assumption)) hst) ?_ | refine OD.loadP 0 rfl rfl rfl rfl rfl rfl ?_ | refine OD.auto rfl rfl ?_ | refine OD.indexAddr rfl rfl rfl (indexAddrA_sl rfl rfl rfl rfl (by omega)) ?_ | refine OD.storeI 3 rfl rfl rfl rfl rfl hfj ?_) | refine OS.nil ?_ | refine WS.seq ?_ | refine QS.seqN ?_ | refine WS.region ?_ | refine WS.skip ?_ | refine WS.condN rfl (fun _ => ?_) (fun _ => ?_))
       ·rename_i hno
        have ee := es_no hes hno
        rw [ee, hleast, hset]
        exact QS.rangeX ((esM (keysI keys) (i + 1), fillL (leastOf keys) (i + 1))) (by (try dsimp only) <;> exact (⟨rfl, rfl⟩))
       ·rename_i hyes
        have ee := es_yes hes hyes
        have hv' : (assocI ((keysI keys).getD i (0, 0)) es).getD 0 = (((leastOf keys)[i]'(by omega) : Nat) : Int) := by rw [ee]; exact hleast
        rw [hv', hset]
        exact QS.rangeX ((es, fillL (leastOf keys) (i + 1))) (by (try dsimp only) <;> exact (⟨ee, rfl⟩))
      ·rintro ⟨es, f⟩ ⟨hes, hf⟩
       try dsimp only at hes hf
       rw [<- hFl, fill_all] at hf
       subst hf
       have c68 := fun {L' : List (Nat × AObj)} {K : List (Nat × Bool)} (k1 k2 : Nat) (h1 : L'[k1]? = some (fb, .row 1 ((leastOf keys).map natAV))) (h2 : L'[k2]? = some (cb, .row 1 (c.map natAV))) (st : St) (hS : SFa L' K st) => run68 h68 k1 k2 (by rw [hFl, hcl]) (by rw [hFl]; omega) h1 h2 hS
       rw [hFl] at c68
       rw [hcl] at c68
       dsimp only [RSt.at, List.cons_append, List.nil_append]
       repeat' (first | (refine OS.do rfl ?_; first | refine OD.auto rfl rfl ?_ | (refine OD.callP (fun v => v = .bool (decide (leastOf keys = c))) rfl rfl rfl (c68 1 4 rfl rfl) (by rintro v st rfl; rfl) ?_; rintro v rfl)) | refine OS.nil ?_ | refine WS.seq ?_ | refine QS.seqN ?_ | refine WS.region ?_ | refine WS.condD rfl (fun _ => ?_) (fun _ => ?_) | refine WS.skip ?_ | refine WS.ret ?_ | refine QS.seqR ?_ | refine QS.blockR ?_ | refine QS.loopR ?_ | refine QS.blockN ?_)
       ·rename_i heq
        exact QS.retRS (by rfl) fun st hs => ⟨(c, cb), ⟨hR, hF.trans heq⟩, rfl, hs.subO (.drop (.drop (.drop (.drop (.keep (.drop (.refl _)))))))⟩
       ·rename_i hne
        have hlt := fixN_lt (gs := n.gates.xs) (nins := n.ins.xs.length) (next := n.nexts) (c := c) (by omega) hC.canon (by rw [hF]; exact hne)
        rw [hF] at hlt
        have hle := fixN_le (leastOf keys)
        exact QS.loopX ((leastOf keys, fb)) (by exact (by rw [<- hF]; exact .succ hR)) (by exact (by dsimp only; omega))
end
end Go.OptEnv
namespace Go.OptEnv
open Go Go.Proofs Go.Abs Go.RowKit Go.NetM
set_option maxRecDepth 10000
attribute [local irreducible] WS QS OS OD Abs.Sub SubO SubK CW GSl.av accA growA
section
variable {pr : Prims} {L : List (Nat × AObj)} {K : List (Nat × Bool)} {st : St}
end
end Go.OptEnv
