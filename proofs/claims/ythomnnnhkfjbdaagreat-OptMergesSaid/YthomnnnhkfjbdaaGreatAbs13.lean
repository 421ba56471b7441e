/- Own text of this claim: part 13 of an interpreter that is proved sound against the model, and of what it shows of the law. -/
import Derived.Test.YthomnnnhkfjbdaaGreatAbs12
import Derived.Test.YthomnnnhkfjbdaaGreatAbs10
import Derived.Test.YthomnnnhkfjbdaaGreatAbs11
namespace Go.OptEnv
open Go Go.Proofs Go.Abs Go.RowKit Go.NetM
set_option maxRecDepth 10000
structure HasF (pr : Prims) (f : FuncId) (Rl : Rel) : Prop where
  eq : pr f = some (primF (primOf Rl))
  uniq : ∀ a r r', Rl a r → Rl a r' → r = r'
theorem Good.addF {pr : Prims} (h : Good pr) {f : FuncId} {Rl : Rel} (hc : Con2 (En pr) f Rl) (he : ∀ (w : World) (vargs : Array Value), (callFunc f vargs).run Tryz.prog w = .ok (.enter f vargs) w) : Good (addP pr f (primF (primOf Rl))) :=
  h.addT fun B w0 => (hc.does (En_ok pr) h.ok he B w0).frozen
theorem HasF.of {pr pr' : Prims} {f : FuncId} {Rl : Rel} (hc : Con2 (En pr) f Rl) (h : pr' f = some (primF (primOf Rl))) : HasF pr' f Rl := ⟨h, hc.uniq⟩
theorem HasF.use {pr : Prims} {f : FuncId} {Rl : Rel} (h : HasF pr f Rl) {args : List AV} {r : AV} (hf : AV.freeL args = true) (hr : Rl (AV.plainL args) r) (st : St) : primF (primOf Rl) args st = some (r, st) := by
  rw [primF_free hf]; exact primOf_eq h.uniq hr st
theorem HasF.row {pr : Prims} {f : FuncId} {Rl : Rel} (h : HasF pr f Rl) {args args' : List AV} {st st1 : St} {r : AV} (hf : AV.freeL args = false) (hz : freezeM st args = some (args', st1)) (hr : Rl (AV.plainL args') r) : primF (primOf Rl) args st = some (r, st1) := by
  rw [primF_row hf hz]; exact primOf_eq h.uniq hr st1
def foldN (n : GNet) : GNet := cleanN (shareN n)
def foldR (n : GNet) : GNet := layQ (layR n (shareS n)) (cleanS (layR n (shareS n)))
theorem SameC.trans {a b c : GNet} (h : SameC a b) (k : SameC b c) : SameC a c := ⟨h.ins.trans k.ins, h.regs.trans k.regs, h.gates.trans k.gates, h.outs.trans k.outs⟩
theorem SameC.symm {a b : GNet} (h : SameC a b) : SameC b a := ⟨h.ins.symm, h.regs.symm, h.gates.symm, h.outs.symm⟩
theorem SameC.refl (a : GNet) : SameC a a := ⟨rfl, rfl, rfl, rfl⟩
theorem SameC.clean {a b : GNet} (h : SameC a b) : cleanS a = cleanS b := by
  unfold cleanS coneN GNet.roots GNet.nexts
  rw [h.k, h.gates, h.regs, h.outs]
theorem fold_same {a b : GNet} (h : SameC a b) : SameC (foldR a) (foldN b) := by
  have h1 : SameC (layR a (shareS a)) (shareN b) := by
    unfold shareN
    rw [← h.share]
    exact (layR_same a _).trans (h.lay _)
  unfold foldR foldN cleanN
  rw [← h1.clean]
  exact (layQ_same _ _).trans (h1.lay _)
theorem share_full (n : GNet) : ShOk n.kN (n.kN + n.gates.xs.length) n.gates.xs.length (shareS n) := by
  have := share_sh n (Nat.le_refl n.gates.xs.length)
  rw [List.take_length] at this
  exact this
theorem clean_full (n : GNet) : ShOk n.kN (n.kN + n.gates.xs.length) n.gates.xs.length (cleanS n) := by
  have := keep_ok (k := n.kN) (by unfold GNet.kN; omega) (keep := coneN n n.roots) n.gates.xs n.gates.xs.length (Nat.le_refl _)
  rw [List.take_length] at this
  exact this
theorem share_valid {n : GNet} (hv : validM n = true) : validM (shareN n) = true := lay_valid hv (share_full n) (valid_len hv).2.2.2
theorem share_fits {n : GNet} (hv : validM n = true) (hn : FitsN n) : FitsN (shareN n) := lay_fits hn ⟨(valid_len hv).1, (valid_len hv).2.1⟩ (share_full n) (valid_len hv).2.2.2
theorem clean_fits {n : GNet} (hv : validM n = true) (hn : FitsN n) : FitsN (cleanN n) := lay_fits hn ⟨(valid_len hv).1, (valid_len hv).2.1⟩ (clean_full n) (valid_len hv).2.2.2
def Rel18 : Rel := RelF FitsN (fun n => [netAV n]) fun n => resAV n (foldR n)
def Rel21 : Rel := RelF (fun p : GNet × GNet => SameC p.1 p.2 ∧ FitsN p.1) (fun p => [netAV p.1, netAV p.2]) fun _ => .bool true
theorem neqS {E : Env} {t : TypeId} {xo yo : Operand} {x y : ByteArray} (h : x = y) : binA E .neq t xo yo (.str x) (.str y) = some (.bool false) := by
  subst h
  show strBin .neq x x = _
  simp [strBin]
section
variable {pr : Prims}
theorem neqR {xo yo : Operand} {x y : GReg} (h : x = y) : binA (En pr) .neq 68 xo yo (regAV x) (regAV y) = some (.bool false) := by
  subst h
  have e : binA (En pr) .neq 68 xo yo (regAV x) (regAV x) = (match some (decide (x.name = x.name)) with | some true => (match some ((x.init.toNat : Int) == x.init.toNat) with | some true => (match some (x.next == x.next) with | some true => some true | some false => some false | none => none) | some false => some false | none => none) | some false => some false | none => none).map fun b => .bool (!b) := rfl
  rw [e]; simp
theorem neqP {xo yo : Operand} {x y : GPin} (h : x = y) : binA (En pr) .neq 55 xo yo (pinAV x) (pinAV y) = some (.bool false) := by
  subst h
  have e : binA (En pr) .neq 55 xo yo (pinAV x) (pinAV x) = (match some (decide (x.name = x.name)) with | some true => (match some (x.lit == x.lit) with | some true => some true | some false => some false | none => none) | some false => some false | none => none).map fun b => .bool (!b) := rfl
  rw [e]; simp
theorem neqG {xo yo : Operand} {x y : Int × Int} (h : x = y) : binA (En pr) .neq 53 xo yo (gateAV x) (gateAV y) = some (.bool false) := by
  subst h
  have e : binA (En pr) .neq 53 xo yo (gateAV x) (gateAV x) = (eqA (En pr) 20 53 (gateAV x) (gateAV x)).map fun b => .bool (!b) := rfl
  rw [e, eq_pair]; simp
end
attribute [local irreducible] WS QS OS OD Abs.Sub SubO SubK CW GSl.av accA growA
section
variable {pr : Prims}
theorem run18 (h1 : pr 18 = none) (h52 : Has pr 52 Rel52) (h53 : Has pr 53 Rel53) (n : GNet) (hn : FitsN n) (st : St) : CW (En pr) 18 [netAV n] st fun r _ => AV.free r = true ∧ AV.plain r = resAV n (foldR n) := by
  have u52 := use52 h52 hn
  rcases (Bool.eq_false_or_eq_true (validM n)).symm with hV | hV
  · rw [res_no hV] at u52
    refine CW.start (N := 19) h1 rfl rfl ?_
    repeat' (first | (refine OS.do rfl ?_; first | refine OD.box rfl rfl rfl rfl (net_ok _) rfl (fun b1 => ?_) | refine OD.auto rfl rfl ?_ | refine OD.loadP 1 rfl rfl rfl rfl rfl rfl ?_ | refine OD.alloc rfl rfl rfl rfl (fun _ => ?_) | refine OD.storeW 0 rfl rfl rfl rfl (by first | rfl | exact net_ok _) rfl rfl rfl ?_ | refine OD.storeW 1 rfl rfl rfl rfl (by first | rfl | exact net_ok _) rfl rfl rfl ?_ | refine OD.call rfl rfl rfl h52.eq u52 (fun _ => rfl) ?_) | refine OS.nil ?_ | refine WS.seq ?_ | refine QS.seqN ?_ | refine WS.region ?_ | refine WS.condT rfl ?_ | refine WS.ret ?_ | refine QS.seqR ?_)
    refine QS.retO (ResO.cell 1 (by rfl) (by rfl) (by rfl) (by rfl) (by rfl) (.tmp (by rfl) .nil)) fun st hs => ⟨rfl, ?_⟩
    rw [res_no hV]; rfl
  · rw [res_yes hV] at u52
    have hsc := layR_same n (shareS n)
    have hv2 : validM (layR n (shareS n)) = true := hsc.valid.trans (share_valid hV)
    have u53 := use53 h53 (hsc.fits (share_fits hV hn))
    rw [res_yes hv2] at u53
    have z : ∀ (m : GNet) (st : St), freezeA st (.tup [netAV m, .int .i64 0]) = some (.tup [netAV m, .int .i64 0], st) := fun m st => freeze_free (by simp [AV.free, AV.freeL, net_free])
    refine CW.start (N := 19) h1 rfl rfl ?_
    repeat' (first | (refine OS.do rfl ?_; first | refine OD.box rfl rfl rfl rfl (net_ok _) rfl (fun b1 => ?_) | refine OD.loadP 0 rfl rfl rfl rfl rfl rfl ?_ | refine OD.auto rfl rfl ?_ | refine OD.loadP 1 rfl rfl rfl rfl rfl rfl ?_ | refine OD.alloc rfl rfl rfl rfl (fun _ => ?_) | refine OD.storeW 0 rfl rfl rfl rfl (by first | rfl | exact net_ok _) rfl rfl rfl ?_ | refine OD.storeW 1 rfl rfl rfl rfl (by first | rfl | exact net_ok _) rfl rfl rfl ?_ | refine OD.call rfl rfl rfl h52.eq u52 (z _) ?_ | refine OD.call rfl rfl rfl h53.eq u53 (z _) ?_) | refine OS.nil ?_ | refine WS.seq ?_ | refine QS.seqN ?_ | refine WS.region ?_ | refine WS.condF rfl ?_ | refine WS.skip ?_ | refine WS.ret ?_)
    refine QS.retO (ResO.cell 1 (by rfl) (by rfl) (by rfl) (by rfl) (by rfl) (.tmp (by rfl) .nil)) fun st hs => ?_
    rw [res_yes hV]
    exact ⟨by show AV.free (.tup [netAV (foldR n), .int .i64 0]) = true; simp [AV.free, AV.freeL, net_free], by show AV.plain (.tup [netAV (foldR n), .int .i64 0]) = _; simp only [AV.plain, AV.plainL, net_plain]⟩
theorem con18 (h1 : pr 18 = none) (h52 : Has pr 52 Rel52) (h53 : Has pr 53 Rel53) : Con2 (En pr) 18 Rel18 := con_of (fun d => by simp [AV.freeL, net_free]) fun d hd st => run18 h1 h52 h53 d hd st
set_option maxHeartbeats 1000000 in
theorem run21 (h1 : pr 21 = none) (a b : GNet) (hs : SameC a b) (hn : FitsN a) (st : St) : CW (En pr) 21 [netAV a, netAV b] st fun r _ => r = .bool true := by
  obtain ⟨e1, e2, e3, e4⟩ := hs
  obtain ⟨f1, f2, f3, f4, _, _, _, _, _, _⟩ := hn
  have l1 : b.ins.xs.length = a.ins.xs.length := by rw [e1]
  have l2 : b.regs.xs.length = a.regs.xs.length := by rw [e2]
  have l3 : b.gates.xs.length = a.gates.xs.length := by rw [e3]
  have l4 : b.outs.xs.length = a.outs.xs.length := by rw [e4]
  refine CW.start (N := 115) h1 rfl rfl ?_
  repeat' (first | (refine OS.do rfl ?_; first | refine OD.box rfl rfl rfl rfl (net_ok _) rfl (fun b1 => ?_) | refine OD.loadP 0 rfl rfl rfl rfl rfl rfl ?_ | refine OD.auto rfl rfl ?_ | refine OD.loadP 1 rfl rfl rfl rfl rfl rfl ?_ | refine OD.len rfl rfl (fun _ => lenTy_av rfl rfl) ?_) | refine OS.nil ?_ | refine OS.skip rfl rfl rfl ?_ | refine WS.seq ?_ | refine QS.seqN ?_ | refine WS.region ?_ | refine WS.condT rfl ?_ | refine WS.skip ?_ | refine WS.block ?_ | refine WS.ret ?_ | refine QS.seqR ?_ | refine WS.condNe rfl (fun _ => ?_) (fun _ => ?_) | ((fail_if_success (refine OS.do rfl ?_)); first | refine OS.splitNe rfl rfl rfl (fun _ => ?_) (fun _ => ?_)))
  all_goals try (exfalso; omega)
  rename_i b1' _ _ _ _
  refine WS.rangeX (A := Unit) (n := a.ins.xs.length) ⟨46, _, fun _ => [], fun _ => [(b1, .row ty27.size [netAV b]), (b1', .row ty27.size [netAV a])], fun _ => [], fun _ _ => True⟩ (()) [2, 3, 45] (trivial) ?_ ?_
  · rintro i _ hi _
    have hib : i < b.ins.xs.length := by omega
    have hxy : a.ins.xs[i] = b.ins.xs[i] := List.getElem_of_eq e1 hi
    dsimp only [RSt.at, List.cons_append, List.nil_append]
    repeat' (first | (refine OS.do rfl ?_; first | refine OD.bin rfl rfl rfl (neqS hxy) ?_ | refine OD.loadP 0 rfl rfl rfl rfl rfl rfl ?_ | refine OD.auto rfl rfl ?_ | refine OD.loadP 1 rfl rfl rfl rfl rfl rfl ?_ | refine OD.indexAddr rfl rfl rfl (indexAddrA_nat rfl rfl rfl rfl (by first | assumption | exact List.getElem?_eq_getElem (by omega))) ?_) | refine OS.nil ?_ | refine WS.seq ?_ | refine QS.seqN ?_ | refine WS.region ?_ | refine WS.condF rfl ?_ | refine WS.skip ?_ | refine WS.draw rfl rfl ?_)
    exact QS.rangeX (()) (by (try dsimp only) <;> exact (trivial)) (hL := by (try dsimp only); exact SubO.refl _)
  rintro _ _
  dsimp only [RSt.at, List.cons_append, List.nil_append]
  repeat' (first | (refine OS.do rfl ?_; first | refine OD.auto rfl rfl ?_ | refine OD.loadP 1 rfl rfl rfl rfl rfl rfl ?_ | refine OD.len rfl rfl (fun _ => lenTy_av rfl rfl) ?_) | refine OS.nil ?_ | refine WS.seq ?_ | refine QS.seqN ?_ | refine WS.region ?_ | refine WS.block ?_)
  refine WS.rangeX (A := Unit) (n := a.regs.xs.length) ⟨64, _, fun _ => [], fun _ => [(b1, .row ty27.size [netAV b]), (b1', .row ty27.size [netAV a])], fun _ => [], fun _ _ => True⟩ (()) [2, 3, 63] (trivial) ?_ ?_
  · rintro i _ hi _
    have hib : i < b.regs.xs.length := by omega
    have hxy : a.regs.xs[i] = b.regs.xs[i] := List.getElem_of_eq e2 hi
    dsimp only [RSt.at, List.cons_append, List.nil_append]
    repeat' (first | (refine OS.do rfl ?_; first | refine OD.bin rfl rfl rfl (neqR hxy) ?_ | refine OD.loadP 0 rfl rfl rfl rfl rfl rfl ?_ | refine OD.auto rfl rfl ?_ | refine OD.loadP 1 rfl rfl rfl rfl rfl rfl ?_ | refine OD.indexAddr rfl rfl rfl (indexAddrA_nat rfl rfl rfl rfl (by first | assumption | exact List.getElem?_eq_getElem (by omega))) ?_) | refine OS.nil ?_ | refine WS.seq ?_ | refine QS.seqN ?_ | refine WS.region ?_ | refine WS.condF rfl ?_ | refine WS.skip ?_ | refine WS.draw rfl rfl ?_)
    exact QS.rangeX (()) (by (try dsimp only) <;> exact (trivial)) (hL := by (try dsimp only); exact SubO.refl _)
  rintro _ _
  dsimp only [RSt.at, List.cons_append, List.nil_append]
  repeat' (first | (refine OS.do rfl ?_; first | refine OD.auto rfl rfl ?_ | refine OD.loadP 1 rfl rfl rfl rfl rfl rfl ?_ | refine OD.len rfl rfl (fun _ => lenTy_av rfl rfl) ?_) | refine OS.nil ?_ | refine WS.seq ?_ | refine QS.seqN ?_ | refine WS.region ?_ | refine WS.block ?_)
  refine WS.rangeX (A := Unit) (n := a.gates.xs.length) ⟨82, _, fun _ => [], fun _ => [(b1, .row ty27.size [netAV b]), (b1', .row ty27.size [netAV a])], fun _ => [], fun _ _ => True⟩ (()) [2, 3, 81] (trivial) ?_ ?_
  · rintro i _ hi _
    have hib : i < b.gates.xs.length := by omega
    have hxy : a.gates.xs[i] = b.gates.xs[i] := List.getElem_of_eq e3 hi
    dsimp only [RSt.at, List.cons_append, List.nil_append]
    repeat' (first | (refine OS.do rfl ?_; first | refine OD.bin rfl rfl rfl (neqG hxy) ?_ | refine OD.loadP 0 rfl rfl rfl rfl rfl rfl ?_ | refine OD.auto rfl rfl ?_ | refine OD.loadP 1 rfl rfl rfl rfl rfl rfl ?_ | refine OD.indexAddr rfl rfl rfl (indexAddrA_nat rfl rfl rfl rfl (by first | assumption | exact List.getElem?_eq_getElem (by omega))) ?_) | refine OS.nil ?_ | refine WS.seq ?_ | refine QS.seqN ?_ | refine WS.region ?_ | refine WS.condF rfl ?_ | refine WS.skip ?_ | refine WS.draw rfl rfl ?_)
    exact QS.rangeX (()) (by (try dsimp only) <;> exact (trivial)) (hL := by (try dsimp only); exact SubO.refl _)
  rintro _ _
  dsimp only [RSt.at, List.cons_append, List.nil_append]
  repeat' (first | (refine OS.do rfl ?_; first | refine OD.auto rfl rfl ?_ | refine OD.loadP 1 rfl rfl rfl rfl rfl rfl ?_ | refine OD.len rfl rfl (fun _ => lenTy_av rfl rfl) ?_) | refine OS.nil ?_ | refine WS.seq ?_ | refine QS.seqN ?_ | refine WS.region ?_ | refine WS.block ?_)
  refine WS.rangeX (A := Unit) (n := a.outs.xs.length) ⟨100, _, fun _ => [], fun _ => [(b1, .row ty27.size [netAV b]), (b1', .row ty27.size [netAV a])], fun _ => [], fun _ _ => True⟩ (()) [2, 3, 99] (trivial) ?_ ?_
  · rintro i _ hi _
    have hib : i < b.outs.xs.length := by omega
    have hxy : a.outs.xs[i] = b.outs.xs[i] := List.getElem_of_eq e4 hi
    dsimp only [RSt.at, List.cons_append, List.nil_append]
    repeat' (first | (refine OS.do rfl ?_; first | refine OD.bin rfl rfl rfl (neqP hxy) ?_ | refine OD.loadP 0 rfl rfl rfl rfl rfl rfl ?_ | refine OD.auto rfl rfl ?_ | refine OD.loadP 1 rfl rfl rfl rfl rfl rfl ?_ | refine OD.indexAddr rfl rfl rfl (indexAddrA_nat rfl rfl rfl rfl (by first | assumption | exact List.getElem?_eq_getElem (by omega))) ?_) | refine OS.nil ?_ | refine WS.seq ?_ | refine QS.seqN ?_ | refine WS.region ?_ | refine WS.condF rfl ?_ | refine WS.skip ?_ | refine WS.draw rfl rfl ?_)
    exact QS.rangeX (()) (by (try dsimp only) <;> exact (trivial)) (hL := by (try dsimp only); exact SubO.refl _)
  rintro _ _
  dsimp only [RSt.at, List.cons_append, List.nil_append]
  repeat' (first | (refine OS.do rfl ?_; first | refine OD.auto rfl rfl ?_) | refine OS.nil ?_ | refine WS.seq ?_ | refine QS.seqN ?_ | refine WS.region ?_ | refine WS.ret ?_)
  exact QS.retRS (by rfl) fun _ _ => rfl
theorem con21 (h1 : pr 21 = none) : Con2 (En pr) 21 Rel21 := con_eq (fun d => by simp [AV.freeL, net_free]) (fun _ => ⟨rfl, rfl⟩) fun d hd st => run21 h1 d.1 d.2 hd.1 hd.2 st
theorem use21 (h : Has pr 21 Rel21) {a b : GNet} (hs : SameC a b) (hn : FitsN a) (st : St) : primOf Rel21 [netAV a, netAV b] st = some (.bool true, st) := h.use ⟨(a, b), ⟨hs, hn⟩, by simp [AV.plainL, net_plain], rfl⟩ st
end
end Go.OptEnv

namespace Go.NetM
def pickL {α : Type} (k0 : Nat) (keep : List Bool) (l : List α) (i : Nat) : List α := ((l.take i).zipIdx).filterMap fun p => if keep.getD (k0 + p.2) false = true then some p.1 else none
theorem pickL_succ {α : Type} {k0 : Nat} {keep : List Bool} {l : List α} {i : Nat} (h : i < l.length) : pickL k0 keep l (i + 1) = if keep.getD (k0 + i) false = true then pickL k0 keep l i ++ [l[i]] else pickL k0 keep l i := by
  unfold pickL
  rw [List.take_succ_eq_append_getElem h, List.zipIdx_append, List.filterMap_append]
  have : (l.take i).length = i := by rw [List.length_take]; omega
  simp only [this, Nat.zero_add, List.zipIdx_singleton, List.filterMap_cons, List.filterMap_nil]
  by_cases hk : keep.getD (k0 + i) false = true
  · rw [if_pos hk, if_pos hk]
  · rw [if_neg hk, if_neg hk, List.append_nil]
end Go.NetM

namespace Go.NetM
end Go.NetM

namespace Go.Abs
open Go.RowKit
theorem SubO.swap {L : List (Nat × AObj)} {p q : Nat × AObj} : SubO (p :: q :: L) (q :: p :: L) := by
  refine ⟨fun k => match k with | 0 => 1 | 1 => 0 | k => k, fun k x hk => ?_, fun k k' h1 h2 h => ?_⟩
  · match k with
    | 0 => exact hk
    | 1 => exact hk
    | k + 2 => exact hk
  · match k, k' with
    | 0, 0 => rfl
    | 0, 1 => simp at h
    | 0, k + 2 => simp at h
    | 1, 0 => simp at h
    | 1, 1 => rfl
    | 1, k + 2 => simp at h
    | k + 2, 0 => simp at h
    | k + 2, 1 => simp at h
    | k + 2, k' + 2 => simpa using h
section
variable {E : Env} {fid N : Nat} {l : List (Nat × AV)} {L X : List (Nat × AObj)} {K Y : List (Nat × Bool)} {Q : AExit → TM → St → Prop}
variable {pol : Nat → Nat} {ops : Array Oper} {o : Oper} {r : List Oper} {i : Nat} {d : Nat} {ty : TypeId} {pos : String} {after : Array Edge} {guard : Option (Nat × Bool)}
variable {k : List (Nat × AV) → List (Nat × AObj) → List (Nat × Bool) → Prop}
theorem SegY.storeB (kk : Nat) {t : TypeId} {x z : Operand} {y : Ty} {b sz j : Nat} {xs : List AV} {m v : Bool} (hw : wantS ops l { dst := none, op := .store t x z, type := ty, pos := pos, after := after, guard := guard } = some true) (hx : evL l x = some (.ptr b j 0)) (hz : evL l z = some (.bool v)) (ht : E.ty t = some y) (h1 : y.size = 1) (hX : X[kk]? = some (b, .row sz xs)) (hj : xs[j]? = some (.bool m))
    (h : SegY E ops N L K pol r (i + 1) l (X.set kk (b, .row sz (xs.set j (.bool v)))) Y k) : SegY E ops N L K pol ({ dst := none, op := .store t x z, type := ty, pos := pos, after := after, guard := guard } :: r) i l X Y k := by
  intro tm s0 pre hF hp
  have hlt : kk < X.length := by
    rcases Nat.lt_or_ge kk X.length with c | c
    · exact c
    · rw [List.getElem?_eq_none c] at hX; cases hX
  have hX' : (X ++ L)[kk]? = some (b, .row sz xs) := by rw [List.getElem?_append_left hlt]; exact hX
  have hF1 := hF.set hX' (.row sz (xs.set j (.bool v)))
  rw [List.set_append_left _ _ hlt] at hF1
  have q1 : Abs.loud E noCall (pol i) tm s0 { dst := none, op := .store t x z, type := ty, pos := pos, after := after, guard := guard } = some (.junk, s0.put b (.row sz (xs.set j (.bool v)))) := by
    have : Abs.loud E noCall (pol i) tm s0 { dst := none, op := .store t x z, type := ty, pos := pos, after := after, guard := guard } = (match E.ty t with | some ty => if (evalO tm z).cells.length = ty.size then (storeA s0 (evalO tm x) (evalO tm z)).map fun s => (.junk, s) else none | none => none) := rfl
    rw [this, ht, hF.ev hx, hF.ev hz]
    dsimp only
    rw [if_pos (by rw [h1]; rfl)]
    simp [storeA, (hF.obj kk b _ hX').1, hj, AV.ok, AV.cellOk, AV.cells]
  obtain ⟨n, tr, tm', s1, l', X', Y', h1, h2, h3, h4⟩ := h tm (s0.put b (.row sz (xs.set j (.bool v)))) pre hF1 hp
  refine ⟨n, ⟨tm, s0, s0.put b (.row sz (xs.set j (.bool v))), .junk, true⟩ :: tr, tm', s1, l', X', Y', ?_, h2, h3, fun k t o' ht ho => ?_⟩
  · have hs' : stepPre E (callF E n) pre (pol i) i tm s0 { dst := none, op := .store t x z, type := ty, pos := pos, after := after, guard := guard } = some (.junk, s0.put b (.row sz (xs.set j (.bool v)))) := stepPre_loud (fun b hb => ⟨hp b hb, fun _ h => by cases h⟩) rfl rfl q1
    simp only [runOpsT]
    rw [hF.want hw]
    dsimp only
    rw [hs']
    dsimp only [putO]
    rw [h1]
  · cases k with
    | zero =>
      simp only [List.getElem?_cons_zero, Option.some.injEq] at ht ho
      subst ht; subst ho
      exact ⟨hF.baseY.s, hF1.baseY.s, fun _ h => by cases h⟩
    | succ k =>
      simp only [List.getElem?_cons_succ] at ht ho
      exact h4 k t o' ht ho
theorem WS.drawX (m : Nat) (X : List (Nat × AObj)) (Y : List (Nat × Bool)) {id : Nat} {ops : Array Oper} {dy : List (Nat × Nat)} (hd : E.dyn fid id = dy) (ho : hasAlloc ops = false) (hm : Nat.ble m ops.toList.length = true)
    (hc : (dy.all fun p => Nat.blt p.1 m && Nat.blt p.2 m && (match ops.toList[p.2]? with | some o => !isLoud o.op | none => false)) = true)
    (h : SegY E ops N L K (E.pol fid id) (ops.toList.take m) 0 l X Y fun l1 X Y => OS E false (E.pol fid id) ops (ops.toList.drop m) m N l1 (X ++ L) (Y ++ K) Q) (hk : E.mks fid id = false := by rfl) : WS E fid N (.region id ops true) l (X ++ L) (Y ++ K) Q := by
  intro tm st hF
  have hm2 := Nat.le_of_ble_eq_true hm
  have hlA : (ops.toList.take m).length = m := by rw [List.length_take]; omega
  have hF0 := hF.at (m := st.next + ops.size) (by omega)
  generalize hs0 : st.at (st.next + ops.size) = s0 at hF0
  obtain ⟨n1, tr1, tm1, s1, l1, X1, Y1, a1, a2, a3, a4⟩ := h tm s0 (some (st.next, false)) hF0 (fun b hb => by cases hb; rfl)
  obtain ⟨n5, tr4, tm4, st4, c1, _, c3⟩ := a3 (some (st.next, false)) tm1 _ a2 (fun b hb => ⟨ho, by cases hb; rfl⟩)
  have a1 := runOpsT_mono (callF_mono n1 (max n1 n5) (by omega)) _ _ _ _ a1
  have c1 := runOpsT_mono (callF_mono n5 (max n1 n5) (by omega)) _ _ _ _ c1
  have hl1 := runOpsT_len a1
  have hops : ops.toList = ops.toList.take m ++ ops.toList.drop m := (List.take_append_drop m _).symm
  have hrun : runOpsT E (callF E (max n1 n5)) (some (st.next, false)) (E.pol fid id) ops ops.toList 0 tm s0 = some (tr1 ++ tr4, tm4, st4) := by
    have := runOpsT_append _ _ _ _ _ a1 (by rw [Nat.zero_add, hlA]; exact c1)
    rw [← hops] at this
    exact this
  refine ⟨max n1 n5 + 1, .normal, tm4, st4, ?_, c3⟩
  have hpre : preObjs E st.next ops.toList 0 st.objs = some st.objs := preObjs_none _ _ _ ho
  have h1' := runOpsT_mono (callF_mono (max n1 n5) (max n1 n5 + 1) (by omega)) _ _ _ _ hrun
  rw [← hs0] at h1'
  unfold St.at at h1'
  simp only [exec, execReg, if_true, hpre, hd, hk]
  have hdyn := dyn_stays (tr4 := tr4) hlA hl1 hc a4
  cases dy with
  | nil =>
    dsimp only
    rw [(runOps_of_T _ _ _ _ h1').1]
  | cons p0 ps =>
    dsimp only
    rw [h1']
    dsimp only
    rw [if_pos hdyn]
end
end Go.Abs

namespace Go.OptEnv
open Go Go.Proofs Go.Abs Go.RowKit Go.NetM
set_option maxRecDepth 10000
def GNet.k0 (n : GNet) : Nat := 1 + n.ins.xs.length
attribute [local irreducible] WS QS OS OD Abs.Sub SubO SubK CW GSl.av accA growA
section
variable {pr : Prims}
end
end Go.OptEnv

namespace Go.NetM
end Go.NetM

namespace Go.OptEnv
open Go Go.Proofs Go.Abs Go.RowKit Go.NetM
set_option maxRecDepth 10000
def keptO (i r g o : AV) : AObj := .row 4 [.agg [i, r, g, o]]
theorem st_rK {i r g o : AV} {sz b : Nat} {xs : List AV} : AObj.row 4 ([AV.agg [i, r, g, o]].set 0 (.agg ([i, r, g, o].take 1 ++ (slR sz b xs).cells ++ [i, r, g, o].drop (1 + (slR sz b xs).cells.length)))) = keptO i (slR sz b xs) g o := by
  rw [slR_cells]; rfl
theorem st_gK {i r g o : AV} {t sz : Nat} {xs : List AV} : AObj.row 4 ([AV.agg [i, r, g, o]].set 0 (.agg ([i, r, g, o].take 2 ++ (accA t sz xs).cells ++ [i, r, g, o].drop (2 + (accA t sz xs).cells.length)))) = keptO i r (accA t sz xs) o := by
  rw [acc_cells]; rfl
theorem st_oK {i r g o : AV} {t sz : Nat} {xs : List AV} : AObj.row 4 ([AV.agg [i, r, g, o]].set 0 (.agg ([i, r, g, o].take 3 ++ (accA t sz xs).cells ++ [i, r, g, o].drop (3 + (accA t sz xs).cells.length)))) = keptO i r g (accA t sz xs) := by
  rw [acc_cells]; rfl
theorem lenTy_slR {E : Env} {sz b : Nat} {xs : List AV} {t e : TypeId} {y : Ty} {st : St} (h1 : E.ty t = some y) (h2 : y.d = .slice e) : lenTy E st t (slR sz b xs) = some (.int .i64 (xs.length : Int)) := by
  cases xs with
  | nil => unfold lenTy; rw [h1]; dsimp only; rw [h2]; rfl
  | cons x xs => unfold lenTy; rw [h1]; dsimp only; rw [h2]; rfl
theorem bld1 {pr : Prims} {b : Bool} {t sz : Nat} {xs : List AV} : buildA (En pr) 27 [(0, growA b t sz xs)] = some (.agg [growA b t sz xs, .nilsl, .nilsl, .nilsl]) := by
  unfold growA; rfl
theorem lenTy_slRm {α : Type} {f : α → AV} {E : Env} {sz b : Nat} {xs : List α} {t e : TypeId} {y : Ty} {st : St} (h1 : E.ty t = some y) (h2 : y.d = .slice e) : lenTy E st t (slR sz b (xs.map f)) = some (.int .i64 (xs.length : Int)) := by
  rw [lenTy_slR h1 h2, List.length_map]
theorem freeze_arg {L : List (Nat × AObj)} {st : St} {i g o : AV} {kr rb nr : Nat} {R : List GReg} (hi : AV.free i = true) (hg : AV.free g = true) (ho : AV.free o = true) (hn : nr = R.length) (hS : SFa L [] st) (hr : L[kr]? = some (rb, .row 3 (R.map regAV))) :
    ∃ t, freezeM st [.agg [i, .sl 3 rb 0 nr, g, o]] = some ([.agg [i, .vs 3 (.tok t) (R.map regAV), g, o]], (st.drop rb).newTok) := by
  subst hn
  have hgt := (hS.obj kr rb _ hr).1
  have e : freezeC st (.sl 3 rb 0 R.length) = some (.vs 3 (.tok st.next) (R.map regAV), (st.drop rb).newTok) := by
    simp only [freezeC, hgt]
    rw [if_pos ⟨trivial, by simp⟩, if_pos (by simp), List.drop_zero, List.take_of_length_le (by simp)]
  refine ⟨st.next, ?_⟩
  simp only [freezeM, freezeB, freezeL, freezeC_free hi, e, freezeC_free hg, freezeC_free ho]
  rfl
theorem gof_nil {α : Type} {sz : Nat} {f : α → AV} : (GSl.of ([] : List α)).av sz f = .nilsl := rfl
theorem gof_some {α : Type} {sz : Nat} {f : α → AV} {xs : List α} (h : xs ≠ []) : (GSl.of xs).av sz f = .vs sz .any (xs.map f) := by
  cases xs with
  | nil => exact absurd rfl h
  | cons x xs => rfl
attribute [local irreducible] WS QS OS OD Abs.Sub SubO SubK CW GSl.av accA growA
section
variable {pr : Prims}
end
end Go.OptEnv

namespace Go.OptEnv
open Go Go.Proofs Go.Abs Go.RowKit Go.NetM
set_option maxRecDepth 10000
def mkB (s : GSl ByteArray) (rs : List GReg) (g : Bool × Nat) (t : Nat) : MkR := ⟨growA g.1 g.2 1 (s.xs.map strAV), accA t 3 (rs.map regAV), accA 0 2 (([] : List GPin).map pinAV)⟩
theorem mkB_first {pr : Prims} (h73 : Has pr 73 Rel73) {s : GSl ByteArray} {rs : List GReg} (hs : s.xs.length ≤ 1000) (hr : rs.length ≤ 1000) (hf : FitsN (bareN (GSl.some s.xs) rs)) (g : Bool × Nat) (t : Nat) : First pr (mkB s rs g t) (1 + s.xs.length + rs.length) [] := fun tg G hok hG L K st hS hq => by
  obtain ⟨f1, f2, f3, f4, m1, m2, m3, g1, g2, g3⟩ := hf
  unfold bareN at f2 m2 g2
  rw [gof_xs] at f2 m2 g2
  refine h73.use (r := .int .i64 ((1 + s.xs.length + rs.length : Nat) : Int)) ⟨⟨GSl.some s.xs, GSl.of rs, GSl.of G, GSl.of []⟩, ⟨f1, by rw [gof_xs]; exact f2, by rw [gof_xs]; omega, by rw [gof_xs]; simp, m1, by rw [gof_xs]; exact m2, by rw [gof_xs]; simp, ?_, by rw [gof_xs]; exact g2, by rw [gof_xs]; simp⟩, ?_, ?_⟩ st
  · rw [gof_xs]; intro x hx
    obtain ⟨i, hi, rfl⟩ := List.mem_iff_getElem.1 hx
    obtain ⟨a, b⟩ := hok i hi
    exact ⟨⟨by omega, by omega⟩, by omega, by omega⟩
  · unfold MkR.av mkB
    simp only [AV.plainL, AV.plain, plain_grow str_plain, plain_acc reg_plain, plain_acc gate_plain, plain_acc pin_plain]
    rfl
  · unfold GNet.first
    dsimp only
    rw [gof_xs]
    show AV.int .i64 _ = AV.int .i64 _
    congr 1
def barO (gi : AV) (t : Nat) (R : List GReg) : AObj := .row 4 [.agg [gi, accA t 3 (R.map regAV), .nilsl, .nilsl]]
theorem st_bar {gi : AV} {t t' : Nat} {R R' : List GReg} : AObj.row 4 ([AV.agg [gi, accA t 3 (R.map regAV), .nilsl, .nilsl]].set 0 (.agg ([gi, accA t 3 (R.map regAV), .nilsl, .nilsl].take 1 ++ (accA t' 3 (R'.map regAV)).cells ++ [gi, accA t 3 (R.map regAV), .nilsl, .nilsl].drop (1 + (accA t' 3 (R'.map regAV)).cells.length)))) = barO gi t' R' := by
  rw [acc_cells]; rfl
theorem use31b {pr : Prims} (h31 : Has pr 31 Rel31) {gi : AV} {t : Nat} {s : GSl ByteArray} {R : List GReg} (hgp : AV.plain gi = (GSl.some s.xs).av 1 strAV) (hf : FitsN (bareN (GSl.some s.xs) R)) (st : St) : primOf Rel31 [.agg [gi, accA t 3 (R.map regAV), .nilsl, .nilsl]] st = some (.bool (validM (bareN (GSl.some s.xs) R)), st) := h31.use ⟨bareN (GSl.some s.xs) R, hf, by simp only [AV.plainL, AV.plain, hgp, plain_acc reg_plain]; rfl, rfl⟩ st
theorem SFa.drop2 {p q : Nat × AObj} {L : List (Nat × AObj)} {K : List (Nat × Bool)} {st : St} (h : SFa (p :: q :: L) K st) : SFa (p :: L) K st := by
  refine ⟨fun k b o hk => ?_, fun k k' b o o' hk hk' => ?_, h.tok, h.uniqT⟩
  · cases k with
    | zero => exact h.obj 0 b o hk
    | succ k => exact h.obj (k + 2) b o hk
  · cases k with
    | zero =>
      cases k' with
      | zero => rfl
      | succ k' => have := h.uniq 0 (k' + 2) b o o' hk hk'; omega
    | succ k =>
      cases k' with
      | zero => have := h.uniq (k + 2) 0 b o o' hk hk'; omega
      | succ k' => have := h.uniq (k + 2) (k' + 2) b o o' hk hk'; omega
attribute [local irreducible] WS QS OS OD Abs.Sub SubO SubK CW GSl.av accA growA
section
variable {pr : Prims} {L : List (Nat × AObj)} {K : List (Nat × Bool)} {st : St}
set_option maxHeartbeats 2000000 in
theorem run113 (h1 : pr 113 = none) (h31 : Has pr 31 Rel31) (s : GSl ByteArray) (rs : List GReg) (tn ti : Nat) (hs : s.xs.length ≤ 1000) (hr : rs.length ≤ 500) (hf : FitsN (bareN (GSl.some s.xs) (rs.map zeroR))) (hv : validM (bareN (GSl.some s.xs) (rs.map zeroR)) = true) (hS : SFa L K st) :
    CW (En pr) 113 [s.av 1 strAV, accA tn 1 ((rs.map (·.name)).map strAV), accA ti 1 ((rs.map (·.init)).map bitAV)] st fun r st' => ∃ d : Nat × (Bool × Nat) × Nat, True ∧ r = .tup [.ptr d.1 0 0, .int .i64 0] ∧ SFa ((d.1, (mkB s (rs.map zeroR) d.2.1 d.2.2).obj 0 []) :: L) ((0, false) :: K) st' := by
  have hl1 : (rs.map (·.name)).length = rs.length := List.length_map _
  have hl2 : (rs.map (·.init)).length = rs.length := List.length_map _
  refine CW.startS (N := 50) h1 rfl rfl hS ?_
  refine WS.newK ?_
  repeat' (first | (refine OS.do rfl ?_; first | refine OD.len rfl rfl (fun _ => lenTy_accm rfl rfl) ?_ | refine OD.build rfl rfl bld1 ?_ | refine OD.storeW 0 rfl rfl rfl rfl (ok4 grow_cell rfl rfl rfl) rfl rfl rfl ?_ | refine OD.auto rfl rfl ?_ | refine OD.alloc rfl rfl rfl rfl (fun _ => ?_) | (refine OD.appendGS 0 (f := strAV) (s' := s) (t := 0) (b := false) (ys := []) rfl rfl (by unfold growA; rfl) rfl rfl rfl rfl rfl rfl rfl rfl ⟨_, rfl⟩ (fun _ => ⟨rfl, rfl⟩) (roomB rfl (by simp only [List.length_nil]; omega)) (fun gt => ?_))) | refine OS.nil ?_ | refine OS.skip rfl rfl rfl ?_ | refine WS.seq ?_ | refine QS.seqN ?_ | refine WS.region ?_ | refine WS.condT rfl ?_ | refine WS.condD rfl (fun _ => ?_) (fun _ => ?_) | refine WS.skip ?_ | refine WS.block ?_ | refine WS.ret ?_ | refine QS.seqR ?_ | ((fail_if_success (refine OS.do rfl ?_)); first | refine OS.splitNe rfl rfl rfl (fun _ => ?_) (fun _ => ?_)))
  · exfalso; rename_i h; exact h (by rw [hl1, hl2])
  · exfalso; rename_i h; rw [hl1] at h; omega
  rename_i b8
  rw [List.nil_append, Bool.false_or]
  generalize hg : (!s.xs.isEmpty, gt) = g
  have hg1 : growA (!s.xs.isEmpty) gt 1 (s.xs.map strAV) = growA g.1 g.2 1 (s.xs.map strAV) := by rw [← hg]
  rw [hg1]
  generalize hgi : growA g.1 g.2 1 (s.xs.map strAV) = gi
  have hgp : AV.plain gi = (GSl.some s.xs).av 1 strAV := by rw [← hgi]; exact plain_grow str_plain
  have hgc : gi.cellOk = true := by rw [← hgi]; exact grow_cell
  have hmo : AObj.row ty27.size [AV.agg [gi, .nilsl, .nilsl, .nilsl]] = barO gi 0 [] := by unfold barO; rw [List.map_nil, acc_nil]; rfl
  rw [hl1]
  refine WS.newK (WS.objs (L' := (b8, barO gi 0 []) :: L) (by rw [← hmo]; exact SubO.refl _) ?_)
  refine WS.rangeX (A := Nat × List GReg) (n := rs.length) ⟨26, _, fun _ => [], fun a => (b8, barO gi a.1 a.2) :: L, fun a => (a.1, !a.2.isEmpty) :: K, fun i a => a.2 = (rs.take i).map zeroR⟩ ((0, [])) [1, 2, 8, 25] (rfl) ?_ ?_
  · rintro i ⟨t, R⟩ hi hR
    try dsimp only at hR
    have hRl : R.length = i := by rw [hR, List.length_map, List.length_take]; omega
    have hx1 : (rs.map (·.name))[i]? = some rs[i].name := by rw [List.getElem?_map, List.getElem?_eq_getElem hi]; rfl
    have hx2 : (rs.map (·.init))[i]? = some rs[i].init := by rw [List.getElem?_map, List.getElem?_eq_getElem hi]; rfl
    have hgm : R.map regAV ++ [regAV (zeroR rs[i])] = (R ++ [zeroR rs[i]]).map regAV := by rw [List.map_append]; rfl
    dsimp only [RSt.at, List.cons_append, List.nil_append]
    repeat' (first | (refine OS.do rfl ?_; first | refine OD.loadP 0 rfl rfl rfl rfl rfl rfl ?_ | refine OD.auto rfl rfl ?_ | refine OD.indexAddr rfl rfl rfl (indexAddrA_accn rfl rfl rfl rfl (by first | assumption | exact List.getElem?_eq_getElem (by omega))) ?_ | refine OD.append 0 (xs := R.map regAV) (ys := [regAV (zeroR rs[i])]) rfl rfl rfl rfl (by rw [List.isEmpty_map]; rfl) rfl rfl rfl rfl rfl rfl (.inr ⟨⟨_, rfl⟩, rfl⟩) (fun _ => rfl) rfl rfl (roomB rfl (by simp only [List.length_map, List.length_singleton]; omega)) (fun t' => ?_) | (refine OD.storeG 0 (v := accA _ 3 ((R ++ [zeroR rs[i]]).map regAV)) rfl (by rw [← hgm]; rfl) rfl rfl rfl acc_ok1 (by rw [acc_cells]; rfl) (by rw [acc_cells]; rfl) ?_; rw [st_bar])) | refine OS.nil ?_ | refine WS.seq ?_ | refine QS.seqN ?_ | refine WS.region ?_ | refine WS.draw rfl rfl ?_)
    rw [hgm, List.isEmpty_map]
    exact QS.rangeX ((t', R ++ [zeroR rs[i]])) (by (try dsimp only) <;> exact (by rw [map_take_succ hi, ← hR]))
  rintro ⟨t, R⟩ hR
  try dsimp only at hR
  rw [List.take_of_length_le (Nat.le_refl _)] at hR
  subst hR
  have u31 := use31b h31 (t := t) hgp hf
  rw [hv] at u31
  dsimp only [RSt.at, List.cons_append, List.nil_append]
  repeat' (first | (refine OS.do rfl ?_; first | refine OD.loadP 0 rfl rfl rfl rfl rfl rfl ?_ | refine OD.box rfl rfl rfl rfl (ok4 hgc acc_cell rfl rfl) rfl (fun mb => ?_) | refine OD.auto rfl rfl ?_ | refine OD.call rfl rfl rfl h31.eq u31 (fun _ => rfl) ?_ | refine OD.build rfl rfl (bld130 hgc acc_cell rfl rfl) ?_) | refine OS.nil ?_ | refine WS.seq ?_ | refine QS.seqN ?_ | refine WS.region ?_ | refine WS.condF rfl ?_ | refine WS.skip ?_ | refine WS.ret ?_)
  refine QS.retRS (by rfl) fun st hs => ⟨(mb, g, t), trivial, rfl, ?_⟩
  have e : AObj.row ty130.size [AV.agg [gi, accA t 3 ((rs.map zeroR).map regAV), .nilsl, .nilsl]] = (mkB s (rs.map zeroR) g t).obj 0 [] := by
    unfold MkR.obj MkR.av mkB
    rw [hgi, List.map_nil, List.map_nil, acc_nil]; rfl
  rw [e] at hs
  exact SFa.renew (SFa.drop2 hs)
end
end Go.OptEnv

namespace Go.OptEnv
open Go Go.Proofs Go.Abs Go.RowKit Go.NetM
set_option maxRecDepth 10000
def fillL (A : List Nat) (i : Nat) : List Nat := A.take i ++ List.replicate (A.length - i) 0
theorem fill_len {A : List Nat} {i : Nat} (h : i ≤ A.length) : (fillL A i).length = A.length := by
  simp only [fillL, List.length_append, List.length_take, List.length_replicate]; omega
theorem fill_set {A : List Nat} {i : Nat} (h : i < A.length) : (fillL A i).set i A[i] = fillL A (i + 1) := by
  unfold fillL
  rw [List.set_append_right _ _ (by rw [List.length_take]; omega), List.take_succ_eq_append_getElem h, List.append_assoc]
  congr 1
  rw [List.length_take, show i - min i A.length = 0 by omega, show A.length - i = (A.length - (i + 1)) + 1 by omega, List.replicate_succ]
  rfl
theorem fill_zero (A : List Nat) : fillL A 0 = List.replicate A.length 0 := by simp [fillL]
theorem fill_all (A : List Nat) : fillL A A.length = A := by simp [fillL]
theorem set_set {α : Type} {l : List α} {i : Nat} {a b : α} : (l.set i a).set i b = l.set i b := by rw [List.set_set]
theorem rep_nat (n : Nat) : List.replicate n (AV.int .i64 0) = (List.replicate n 0).map natAV := by rw [List.map_replicate]; rfl
theorem map_setN {l : List Nat} {i k : Nat} : (l.map natAV).set i (.int .i64 (k : Int)) = (l.set i k).map natAV := by rw [List.map_set]; rfl
theorem ini_len (n : GNet) : n.inits.length = n.regs.xs.length := List.length_map _
def Rel27 : GNet → List Nat → Prop := fun n c => NetM.Reach n.gates.xs n.ins.xs.length n.nexts n.inits c ∧ finerL n.gates.xs n.ins.xs.length n.nexts c = c
theorem all0_succ {nins : Nat} {c : List Nat} {i : Nat} (h : i < c.length) : all0L nins (c.take (i + 1)) = all0L nins (c.take i) ++ [2 * ((1 + nins + c[i] : Nat) : Int)] := by
  rw [List.take_succ_eq_append_getElem h]; unfold all0L; rw [List.map_append, List.append_assoc]; rfl
theorem getD_rep {k j : Nat} : (List.replicate k (0 : UInt8)).getD j 0 = 0 := by
  rw [List.getD_eq_getElem?_getD, List.getElem?_replicate]
  split <;> rfl
theorem bin_rep (k : Nat) : binL (List.replicate k 0) := fun b hb => .inl (List.eq_of_mem_replicate hb)
structure Shared (k i : Nat) (s : List Int × List (Int × Int)) : Prop where
  len : s.1.length = k + i
  range : ∀ j, 0 ≤ s.1.getD j 0 ∧ s.1.getD j 0 < 2 * ((k + s.2.length : Nat) : Int)
  gates : s.2.length ≤ i
theorem share_ok {gs : List (Int × Int)} {nins : Nat} {c : List Nat} (hc : Canon c) (hg : okG (1 + nins + c.length) gs) {i : Nat} (hi : i ≤ gs.length) : Shared (1 + nins + c.length) i (shareM (1 + nins + c.length) (all0L nins c) (gs.take i)) := by
  have hlv : (0 :: (List.replicate nins (0 : UInt8) ++ List.replicate c.length 0)).length = 1 + nins + c.length := by simp; omega
  have hb : binL (0 :: (List.replicate nins (0 : UInt8) ++ List.replicate c.length 0)) := fun b hb => by
    rcases List.mem_cons.1 hb with rfl | hb
    · exact .inl rfl
    · exact bin_app (bin_rep _) (bin_rep _) b hb
  have hs : SameIn c (List.replicate c.length 0) := fun j hj => by
    rw [getD_rep, getD_rep]
  obtain ⟨h1, h2⟩ := (simL0 (nins := nins) (ins := List.replicate nins 0) (by simp) (by simp) hc hs).share hb rfl (by simp) (gs := gs) (by rw [hlv]; exact hg) i hi
  rw [hlv] at h1 h2
  have hl := h1.len
  rw [gatesM_len, hlv, List.length_take] at hl
  refine ⟨by omega, fun j => ?_, h2⟩
  by_cases hj : j < (shareM (1 + nins + c.length) (all0L nins c) (gs.take i)).1.length
  · have := h1.range j hj
    rw [hlv] at this
    exact this
  · rw [List.getD_eq_getElem?_getD, List.getElem?_eq_none (by omega)]
    simp only [Option.getD_none]; omega
theorem at_range {k i : Nat} {s : List Int × List (Int × Int)} (h : Shared k i s) (l : Int) : 0 ≤ atL s.1 l ∧ atL s.1 l < 2 * ((k + s.2.length : Nat) : Int) := flip_range (h.range _)
def keysI (keys : List (Nat × Int)) : List (Int × Int) := keys.map fun p => ((p.1 : Int), p.2)
def esM (ks : List (Int × Int)) : Nat → List ((Int × Int) × Int)
  | 0 => []
  | i + 1 => if (assocI (ks.getD i (0, 0)) (esM ks i)).isSome then esM ks i else esM ks i ++ [(ks.getD i (0, 0), (i : Int))]
theorem assoc_snoc {p q : Int × Int} {v : Int} : ∀ {l : List ((Int × Int) × Int)}, assocI p (l ++ [(q, v)]) = match assocI p l with | some x => some x | none => if p = q then some v else none
  | [] => rfl
  | e :: l => by
    simp only [List.cons_append, assocI]
    by_cases h : p = e.1
    · rw [if_pos h, if_pos h]
    · rw [if_neg h, if_neg h]; exact assoc_snoc
theorem idxOf_mem {α : Type} [BEq α] [LawfulBEq α] : ∀ {l : List α} {i : Nat} {a : α}, l[i]? = some a → a ∉ l.take i → l.idxOf a = i
  | b :: l, 0, a, h, _ => by
    simp only [List.getElem?_cons_zero, Option.some.injEq] at h
    subst h; simp
  | b :: l, i + 1, a, h, hn => by
    simp only [List.getElem?_cons_succ] at h
    simp only [List.take_succ_cons, List.mem_cons, not_or] at hn
    rw [List.idxOf_cons, show (b == a) = false by simpa using fun e : b = a => hn.1 e.symm, cond_false, idxOf_mem h hn.2]
theorem esM_spec {ks : List (Int × Int)} : ∀ {i : Nat}, i ≤ ks.length → ∀ p, assocI p (esM ks i) = if p ∈ ks.take i then some ((ks.idxOf p : Nat) : Int) else none
  | 0, _, p => by simp [esM, assocI]
  | i + 1, h, p => by
    have ih := esM_spec (ks := ks) (i := i) (by omega)
    have hg : ks.getD i (0, 0) = ks[i] := by rw [List.getD_eq_getElem?_getD, List.getElem?_eq_getElem (by omega)]; rfl
    have hm : p ∈ ks.take (i + 1) ↔ p ∈ ks.take i ∨ p = ks[i] := by rw [List.take_succ_eq_append_getElem (by omega), List.mem_append, List.mem_singleton]
    unfold esM
    rw [hg]
    by_cases hk : ks[i] ∈ ks.take i
    · rw [if_pos (by rw [ih, if_pos hk]; rfl), ih]
      by_cases hp : p ∈ ks.take i
      · rw [if_pos hp, if_pos (hm.2 (.inl hp))]
      · rw [if_neg hp, if_neg (fun h => by rcases hm.1 h with h | h; · exact hp h
                                           · exact hp (h ▸ hk))]
    · rw [if_neg (by rw [ih, if_neg hk]; simp), assoc_snoc, ih]
      by_cases hp : p ∈ ks.take i
      · rw [if_pos hp, if_pos (hm.2 (.inl hp))]
      · rw [if_neg hp]
        dsimp only
        by_cases e : p = ks[i]
        · rw [if_pos e, if_pos (hm.2 (.inr e)), e, idxOf_mem (List.getElem?_eq_getElem (by omega)) hk]
        · rw [if_neg e, if_neg (fun h => by rcases hm.1 h with h | h; · exact hp h
                                            · exact e h)]
theorem idxOf_keysI (a : Nat × Int) : ∀ (keys : List (Nat × Int)), (keysI keys).idxOf ((a.1 : Int), a.2) = keys.idxOf a
  | [] => rfl
  | b :: keys => by
    simp only [keysI, List.map_cons, List.idxOf_cons]
    have e : (((b.1 : Int), b.2) == ((a.1 : Int), a.2)) = (b == a) := by
      rw [Bool.eq_iff_iff, beq_iff_eq, beq_iff_eq, Prod.mk.injEq, Prod.ext_iff]
      constructor
      · rintro ⟨h1, h2⟩; exact ⟨by omega, h2⟩
      · rintro ⟨h1, h2⟩; exact ⟨by omega, h2⟩
    rw [e]
    cases (b == a) with
    | true => rfl
    | false =>
      have := idxOf_keysI a keys
      simp only [cond_false]
      rw [show (keys.map fun p => ((p.1 : Int), p.2)) = keysI keys from rfl, this]
theorem es_least {keys : List (Nat × Int)} {i : Nat} (h : i < keys.length) : (assocI ((keysI keys).getD i (0, 0)) (esM (keysI keys) (i + 1))).getD 0 = (((leastOf keys)[i]'(by rw [leastOf_len]; exact h) : Nat) : Int) := by
  have hl : (keysI keys).length = keys.length := List.length_map _
  have hg : (keysI keys).getD i (0, 0) = ((keys[i].1 : Int), keys[i].2) := by
    rw [List.getD_eq_getElem?_getD, List.getElem?_eq_getElem (by omega)]
    simp [keysI]
  have hgi : (keysI keys)[i]'(by omega) = ((keys[i].1 : Int), keys[i].2) := by simp [keysI]
  rw [hg, esM_spec (by omega), if_pos (by rw [List.take_succ_eq_append_getElem (by omega), List.mem_append, hgi]; exact .inr (List.mem_singleton.2 rfl)), idxOf_keysI]
  simp [leastOf]
theorem none_of {α : Type} {o : Option α} (h : o.isSome = false) : o = none := by cases o with | none => rfl | some _ => cases h
theorem es_yes {ks : List (Int × Int)} {i : Nat} {es : List ((Int × Int) × Int)} (he : es = esM ks i) (h : (assocI (ks.getD i (0, 0)) es).isSome = true) : es = esM ks (i + 1) := by
  rw [he] at h ⊢
  show _ = esM ks (i + 1)
  unfold esM
  rw [if_pos h]
  cases i <;> rfl
theorem es_no {ks : List (Int × Int)} {i : Nat} {es : List ((Int × Int) × Int)} (he : es = esM ks i) (h : (assocI (ks.getD i (0, 0)) es).isSome = false) : es ++ [(ks.getD i (0, 0), (i : Int))] = esM ks (i + 1) := by
  rw [he] at h ⊢
  conv => rhs; unfold esM
  rw [if_neg (by rw [h]; simp)]
theorem grow_one {x : Int} : AV.vs 1 .full [AV.int .i64 x] = growA false 0 1 ([x].map intAV) := rfl
attribute [local irreducible] WS QS OS OD Abs.Sub SubO SubK CW GSl.av accA growA
section
variable {pr : Prims} {L : List (Nat × AObj)} {K : List (Nat × Bool)} {st : St}
theorem run66' (h66 : pr 66 = none) (h112 : Has pr 112 Rel112) (h57 : Has pr 57 Rel57) (n : GNet) (hn : FitsN n) (hv : validM n = true) (f1 : n.ins.xs.length ≤ 120) (f2 : n.regs.xs.length ≤ 120) (tn ti : Nat) (hS : SFa L K st) :
    CW (En pr) 66 [n.ins.av 1 strAV, accA tn 1 ((n.regs.xs.map (·.name)).map strAV), accA ti 1 ((n.regs.xs.map (·.init)).map bitAV)] st fun r st' => ∃ d : Nat × MkI, (d.2.k = 1 + n.ins.xs.length + n.regs.xs.length ∧ d.2.Fit) ∧ r = .tup [.ptr d.1 0 0, .int .i64 0] ∧ SFa ((d.1, mkO d.2 0 []) :: (d.2.tb, thO d.2 []) :: L) ((0, false) :: K) st' :=
  (run66 h66 h112 h57 n.ins n.regs.xs tn ti (by omega) (by omega) (bare_fits hn) (bare_valid hv) hS).mono fun r st' ⟨d, _, e, h⟩ => ⟨(d.1, ⟨cloneG n.ins, n.regs.xs.map zeroR, d.2.1, d.2.2⟩), ⟨by simp [MkI.k, clone_xs], ⟨by simp only [clone_xs]; omega, by simp only [List.length_map]; omega⟩⟩, e, h⟩
set_option maxHeartbeats 4000000 in
theorem run27 (h1 : pr 27 = none) (h57 : Has pr 57 Rel57) (h64 : pr 64 = none) (h65 : pr 65 = none) (h66 : pr 66 = none) (h112 : Has pr 112 Rel112) (h67 : Has pr 67 Rel67) (h62 : pr 62 = none) (h95 : pr 95 = none) (h117 : pr 117 = none) (h94 : pr 94 = none) (h68 : pr 68 = none)
    (n : GNet) (hn : FitsN n) (hv : validM n = true) (f1 : n.ins.xs.length ≤ 120) (f2 : n.regs.xs.length ≤ 120) (f3 : n.gates.xs.length ≤ 300) (hS : SFa L [] st) :
    CW (En pr) 27 [netAV n] st fun r st' => ∃ d : List Nat × Nat, Rel27 n d.1 ∧ r = .tup [.sl 1 d.2 0 n.regs.xs.length, .int .i64 0] ∧ SFa ((d.2, .row 1 (d.1.map natAV)) :: L) [] st' := by
  have u57 := use57 h57 hn
  rw [hv] at u57
  have hc0 : (class0 n.inits).length = n.regs.xs.length := by rw [class0_len, ini_len]
  refine CW.startS (N := 180) h1 rfl rfl hS ?_
  repeat' (first | (refine OS.do rfl ?_; first | refine OD.box rfl rfl rfl rfl (net_ok _) rfl (fun b1 => ?_) | refine OD.loadP 0 rfl rfl rfl rfl rfl rfl ?_ | refine OD.auto rfl rfl ?_ | refine OD.loadP 1 rfl rfl rfl rfl rfl rfl ?_ | refine OD.len rfl rfl (fun _ => lenTy_av rfl rfl) ?_ | refine OD.call rfl rfl rfl h57.eq u57 (fun _ => rfl) ?_ | refine OD.makeSlice rfl rfl rfl rfl rfl rfl rfl rfl (roomB rfl (by omega)) (fun cb => ?_)) | refine OS.nil ?_ | refine WS.seq ?_ | refine QS.seqN ?_ | refine WS.region ?_ | refine WS.condF rfl ?_ | refine WS.skip ?_ | refine WS.block ?_)
  have e0 : List.replicate n.regs.xs.length ty3.zeroV = (fillL (class0 n.inits) 0).map natAV := by rw [fill_zero, hc0]; exact rep_nat _
  rw [e0]
  refine WS.rangeX (A := List Nat) (n := n.regs.xs.length) ⟨35, _, fun _ => [], fun c => (cb, .row 1 (c.map natAV)) :: (b1, .row 4 [netAV n]) :: L, fun _ => [], fun i c => c = fillL (class0 n.inits) i⟩ (fillL (class0 n.inits) 0) [1, 4, 33, 34] (rfl) ?_ ?_
  · rintro i c hi hc
    try dsimp only at hc
    subst hc
    have hx := List.getElem?_eq_getElem (l := n.regs.xs) hi
    have hini : n.inits[i]'(by rw [ini_len]; exact hi) = n.regs.xs[i].init := by simp [GNet.inits]
    have hmem : n.regs.xs[i].init ∈ n.regs.xs.map (·.init) := List.mem_map_of_mem (List.getElem_mem hi)
    have hfl : (fillL (class0 n.inits) i).length = n.regs.xs.length := by rw [fill_len (by omega), hc0]
    have hj : ((fillL (class0 n.inits) i).map natAV)[i]? = some (natAV (fillL (class0 n.inits) i)[i]) := by rw [List.getElem?_map, List.getElem?_eq_getElem (by omega)]; rfl
    have hj2 : (((fillL (class0 n.inits) i).map natAV).set i (.int .i64 (i : Int)))[i]? = some (natAV i) := by rw [List.getElem?_set, if_pos rfl, if_pos (by simp; omega)]; rfl
    have c64 := fun {L' : List (Nat × AObj)} {b : Nat} (kk : Nat) (hL : L'[kk]? = some (b, .row 3 [regAV n.regs.xs[i]])) (st : St) (hS : SFa L' [] st) => run64 h64 h65 kk n.regs (by omega) hmem hL hS
    dsimp only [RSt.at, List.cons_append, List.nil_append]
    repeat' (first | (refine OS.do rfl ?_; first | refine OD.storeW 0 rfl rfl rfl rfl rfl rfl rfl rfl ?_ | refine OD.loadP 0 rfl rfl rfl rfl rfl rfl ?_ | refine OD.auto rfl rfl ?_ | refine OD.indexAddr rfl rfl rfl (indexAddrA_nat rfl rfl rfl rfl (by first | assumption | exact List.getElem?_eq_getElem (by omega))) ?_ | refine OD.loadP 2 rfl rfl rfl rfl rfl rfl ?_ | refine OD.alloc rfl rfl rfl rfl (fun _ => ?_) | refine OD.indexAddr rfl rfl rfl (indexAddrA_sl rfl rfl rfl rfl (by omega)) ?_ | refine OD.storeI 1 rfl rfl rfl rfl rfl hj ?_ | refine OD.storeI 1 rfl rfl rfl rfl rfl hj2 ?_ | (refine OD.callP (fun v => v = natAV ((n.regs.xs.map (·.init)).idxOf n.regs.xs[i].init)) rfl rfl rfl (c64 0 rfl) (by rintro v st rfl; rfl) ?_; rintro v rfl)) | refine OS.nil ?_ | refine WS.seq ?_ | refine QS.seqN ?_ | refine WS.region ?_ | refine WS.skip ?_ | refine WS.condNe rfl (fun _ => ?_) (fun _ => ?_))
    · rename_i h2
      have hne : n.inits.getD i 0 ≠ 2 := by rw [getD_get (by rw [ini_len]; exact hi), hini]; exact b8_ne h2
      have ei : (n.regs.xs.map (·.init)).idxOf n.regs.xs[i].init = (class0 n.inits)[i]'(by omega) := by
        have := class0_get (inits := n.inits) (i := i) (by rw [ini_len]; exact hi)
        rw [if_neg hne, getD_get (by rw [ini_len]; exact hi), hini, List.getD_eq_getElem?_getD, List.getElem?_eq_getElem (by omega)] at this
        exact this.symm
      dsimp only [List.set_cons_zero, List.set_cons_succ]
      rw [set_set, map_setN, ei, fill_set (by omega)]
      exact QS.rangeX (fillL (class0 n.inits) (i + 1)) (by (try dsimp only) <;> exact (rfl))
    · rename_i h2
      have hne : n.inits.getD i 0 = 2 := by rw [getD_get (by rw [ini_len]; exact hi), hini]; exact b8_eq h2
      have ei : i = (class0 n.inits)[i]'(by omega) := by
        have := class0_get (inits := n.inits) (i := i) (by rw [ini_len]; exact hi)
        rw [if_pos hne, List.getD_eq_getElem?_getD, List.getElem?_eq_getElem (by omega)] at this
        exact this.symm
      dsimp only [List.set_cons_zero, List.set_cons_succ]
      have em : ((fillL (class0 n.inits) i).map natAV).set i (.int .i64 (i : Int)) = (fillL (class0 n.inits) (i + 1)).map natAV := by
        rw [← fill_set (by omega), ← ei, map_setN]
      rw [em]
      exact QS.rangeX (fillL (class0 n.inits) (i + 1)) (by (try dsimp only) <;> exact (rfl))
  · rintro c hc
    try dsimp only at hc
    rw [← hc0, fill_all] at hc
    subst hc
    dsimp only [RSt.at, List.cons_append, List.nil_append]
    repeat' (first | (refine OS.do rfl ?_; first | refine OD.auto rfl rfl ?_ | refine OD.loadP 1 rfl rfl rfl rfl rfl rfl ?_ | refine OD.len rfl rfl (fun _ => lenTy_av rfl rfl) ?_) | refine OS.nil ?_ | refine WS.seq ?_ | refine QS.seqN ?_ | refine WS.region ?_ | refine WS.block ?_)
    refine WS.rangeX (A := Nat × Nat × List GReg) (n := n.regs.xs.length) ⟨58, _, fun a => [(7, accA a.1 1 ((a.2.2.map (·.name)).map strAV)), (8, accA a.2.1 1 ((a.2.2.map (·.init)).map bitAV))], fun _ => (cb, .row 1 ((class0 n.inits).map natAV)) :: (b1, .row 4 [netAV n]) :: L, fun a => [(a.1, !a.2.2.isEmpty), (a.2.1, !a.2.2.isEmpty)], fun i a => a.2.2 = n.regs.xs.take i⟩ ((0, 0, [])) [1, 4, 56, 57] (rfl) ?_ ?_ (hm := by (try dsimp only); repeat' (first | exact Sub.nil _ | refine Sub.cons (congrArg some (accA_nil _ _).symm) ?_ | refine Sub.cons (congrArg (fun z => some (AV.int .i64 z)) (wrap_succ (by omega))) ?_ | refine Sub.cons rfl ?_))
    · rintro i ⟨tn, ti, R⟩ hi hR
      try dsimp only at hR
      have hRl : R.length = i := by rw [hR, List.length_take]; omega
      dsimp only [RSt.at, List.cons_append, List.nil_append]
      repeat' (first | (refine OS.do rfl ?_; first | refine OD.auto rfl rfl ?_ | refine OD.indexAddr rfl rfl rfl (indexAddrA_nat rfl rfl rfl rfl (by first | assumption | exact List.getElem?_eq_getElem (by omega))) ?_ | refine OD.alloc rfl rfl rfl rfl (fun _ => ?_) | refine OD.storeW 0 rfl rfl rfl rfl (by first | rfl | exact net_ok _) rfl rfl rfl ?_) | refine OS.nil ?_ | refine WS.seq ?_ | refine QS.seqN ?_ | refine WS.region ?_)
      refine WS.drawY 8 [(tn, !R.isEmpty), (ti, !R.isEmpty)] (K := []) rfl rfl rfl rfl ?_; (repeat' (first | refine SegY.nil ?_ | refine SegY.auto rfl rfl rfl rfl ?_ | refine SegY.loadP 0 rfl rfl rfl rfl rfl rfl rfl ?_ | refine SegY.loadP 1 rfl rfl rfl rfl rfl rfl rfl ?_ | refine SegY.loadP 2 rfl rfl rfl rfl rfl rfl rfl ?_ | refine SegY.indexAddr rfl rfl rfl rfl rfl ?_ | refine SegY.append 0 (xs := (R.map (·.name)).map strAV) (ys := [strAV n.regs.xs[i].name]) rfl rfl rfl rfl rfl (by simp only [List.isEmpty_map]; rfl) rfl rfl rfl rfl rfl rfl (.inr ⟨⟨_, rfl⟩, rfl⟩) (fun _ => rfl) rfl rfl (roomB rfl (by simp only [List.length_map, List.length_singleton]; omega)) (by simp) (fun tn' => ?_)))
      dsimp only [RSt.at, List.cons_append, List.nil_append]
      repeat' (first | (refine OS.do rfl ?_; first | refine OD.auto rfl rfl ?_ | refine OD.append 1 (xs := (R.map (·.init)).map bitAV) (ys := [bitAV n.regs.xs[i].init]) rfl rfl rfl rfl (by simp only [List.isEmpty_map]; rfl) rfl rfl rfl rfl rfl rfl (.inr ⟨⟨_, rfl⟩, rfl⟩) (fun _ => rfl) rfl rfl (roomB rfl (by simp only [List.length_map, List.length_singleton]; omega)) (fun ti' => ?_)) | refine OS.nil ?_)
      have hm1 : (R.map (·.name)).map strAV ++ [strAV n.regs.xs[i].name] = ((R ++ [n.regs.xs[i]]).map (·.name)).map strAV := by simp
      have hm2 : (R.map (·.init)).map bitAV ++ [bitAV n.regs.xs[i].init] = ((R ++ [n.regs.xs[i]]).map (·.init)).map bitAV := by simp
      rw [show (!((R.map (·.init)).map bitAV ++ [bitAV n.regs.xs[i].init]).isEmpty) = true by simp, hm1, hm2]
      exact QS.rangeX ((tn', ti', R ++ [n.regs.xs[i]])) (by (try dsimp only) <;> exact (by rw [hR, List.take_succ_eq_append_getElem hi]))
    · rintro ⟨tn, ti, R⟩ hR
      try dsimp only at hR
      rw [List.take_of_length_le (Nat.le_refl _)] at hR
      subst hR
      dsimp only [RSt.at, List.cons_append, List.nil_append]
      repeat' (first | refine QS.seqN ?_ | refine WS.block ?_)
      refine WS.loopX (D := List Nat × Nat) [1, 7, 8] (fun d => [(4, .sl 1 d.2 0 n.regs.xs.length)]) (fun d => (d.2, .row 1 (d.1.map natAV)) :: (b1, .row 4 [netAV n]) :: L) (fun _ => []) (fun d => NetM.Reach n.gates.xs n.ins.xs.length n.nexts n.inits d.1) (fun d => n.regs.xs.length - fixN d.1) ((class0 n.inits, cb)) (.zero) ?_
      rintro ⟨c, cb⟩ hR
      try dsimp only at hR
      have hC := hR.class (by simp [GNet.inits, GNet.nexts])
      have hcl : c.length = n.regs.xs.length := by rw [hC.len, ini_len]
      have c66 := fun {L' : List (Nat × AObj)} (st : St) (hS : SFa L' [] st) => run66' h66 h112 h57 n hn hv f1 f2 tn ti hS
      dsimp only [RSt.at, List.cons_append, List.nil_append]
      repeat' (first | (refine OS.do rfl ?_; first | refine OD.auto rfl rfl ?_ | refine OD.loadP 1 rfl rfl rfl rfl rfl rfl ?_ | refine OD.len rfl rfl (fun _ => lenTy_av rfl rfl) ?_ | (refine OD.callM (D := Nat × MkI) (fun d => d.2.k = 1 + n.ins.xs.length + n.regs.xs.length ∧ d.2.Fit) (fun d => .tup [.ptr d.1 0 0, .int .i64 0]) (fun d => (d.1, mkO d.2 0 []) :: (d.2.tb, thO d.2 []) :: _) (fun _ => [(0, false)]) rfl rfl rfl c66 (fun _ _ _ => rfl) ?_; rintro ⟨mb, m⟩ ⟨hmk, hmf⟩) | refine OD.loadP 3 rfl rfl rfl rfl rfl rfl ?_) | refine OS.nil ?_ | refine WS.seq ?_ | refine QS.seqN ?_ | refine WS.region ?_ | refine WS.block ?_)
      try dsimp only at hmk hmf
      dsimp only
      refine WS.rangeX (A := Bool × Nat × List Int) (n := n.ins.xs.length) ⟨85, _, fun a => [(13, growA a.1 a.2.1 1 (a.2.2.map intAV))], fun _ => (mb, mkO m 0 []) :: (m.tb, thO m []) :: (cb, .row 1 (c.map natAV)) :: (b1, .row 4 [netAV n]) :: L, fun a => [(a.2.1, a.1), (0, false)], fun i a => a.2.2 = (List.range (1 + i)).map fun (k : Nat) => 2 * (k : Int)⟩ ((false, 0, [0])) [1, 4, 7, 8, 11, 84] (rfl) ?_ ?_ (hm := by (try dsimp only); repeat' (first | exact Sub.nil _ | refine Sub.cons (congrArg some grow_one) ?_ | refine Sub.cons (congrArg (fun z => some (AV.int .i64 z)) (wrap_succ (by omega))) ?_ | refine Sub.cons rfl ?_))
      · rintro i ⟨b, t, R⟩ hi hA
        try dsimp only at hA
        have hRl : R.length = 1 + i := by rw [hA]; simp
        have hw : IntKind.i64.wrap (2 * IntKind.i64.wrap (1 + (i : Int))) = 2 * ((1 + i : Nat) : Int) := by
          rw [wrap64 (n := 1 + (i : Int)) (by omega) (by omega), wrap64 (by omega) (by omega)]; omega
        dsimp only [RSt.at, List.cons_append, List.nil_append]
        repeat' (first | (refine OS.do rfl ?_; first | refine OD.auto rfl rfl ?_ | refine OD.appendG 0 (xs := R.map intAV) (ys := [.int .i64 (IntKind.i64.wrap (2 * IntKind.i64.wrap (1 + (i : Int))))]) rfl rfl rfl rfl rfl rfl rfl rfl rfl rfl rfl (.inr ⟨⟨_, rfl⟩, rfl⟩) (fun _ => rfl) rfl rfl (roomB rfl (by simp only [List.length_map, List.length_singleton]; omega)) (fun t' => ?_)) | refine OS.nil ?_ | refine WS.seq ?_ | refine QS.seqN ?_ | refine WS.region ?_)
        have hm : R.map intAV ++ [.int .i64 (2 * ((1 + i : Nat) : Int))] = (R ++ [2 * ((1 + i : Nat) : Int)]).map intAV := by simp [intAV]
        rw [hw, hm, show (b || !([AV.int .i64 (2 * ((1 + i : Nat) : Int))] : List AV).isEmpty) = true by simp]
        exact QS.rangeX ((true, t', R ++ [2 * ((1 + i : Nat) : Int)])) (by (try dsimp only) <;> exact (by rw [hA, show 1 + (i + 1) = (1 + i) + 1 by omega, List.range_succ, List.map_append]; rfl))
      · rintro ⟨b, t, R⟩ hA
        try dsimp only at hA
        dsimp only [RSt.at, List.cons_append, List.nil_append]
        repeat' (first | (refine OS.do rfl ?_; first | refine OD.auto rfl rfl ?_ | refine OD.len rfl rfl (fun _ => lenTy_av rfl rfl) ?_ | refine OD.loadP 3 rfl rfl rfl rfl rfl rfl ?_) | refine OS.nil ?_ | refine WS.seq ?_ | refine QS.seqN ?_ | refine WS.region ?_ | refine WS.block ?_)
        have hA2 : R = all0L n.ins.xs.length (c.take 0) := by rw [hA]; simp [all0L]
        refine WS.rangeX (A := Bool × Nat × List Int) (n := n.regs.xs.length) ⟨98, _, fun a => [(13, growA a.1 a.2.1 1 (a.2.2.map intAV))], fun _ => (mb, mkO m 0 []) :: (m.tb, thO m []) :: (cb, .row 1 (c.map natAV)) :: (b1, .row 4 [netAV n]) :: L, fun a => [(a.2.1, a.1), (0, false)], fun i a => a.2.2 = all0L n.ins.xs.length (c.take i)⟩ ((b, t, R)) [1, 4, 7, 8, 11, 97] (hA2) ?_ ?_
        · rintro i ⟨b, t, R⟩ hi hA
          try dsimp only at hA
          have hRl : R.length = 1 + n.ins.xs.length + i := by rw [hA, all0L_len, List.length_take]; omega
          have hci : (c.map natAV)[i]? = some (natAV (c[i]'(by omega))) := by rw [List.getElem?_map, List.getElem?_eq_getElem (by omega)]; rfl
          have hcb : c[i]'(by omega) ≤ i := by
            have := (hC.canon i (by omega)).1
            rw [List.getD_eq_getElem?_getD, List.getElem?_eq_getElem (by omega)] at this
            exact this
          have hw : IntKind.i64.wrap (2 * IntKind.i64.wrap (IntKind.i64.wrap (1 + (n.ins.xs.length : Int)) + ((c[i]'(by omega) : Nat) : Int))) = 2 * ((1 + n.ins.xs.length + c[i]'(by omega) : Nat) : Int) := by
            rw [wrap64 (n := 1 + (n.ins.xs.length : Int)) (by omega) (by omega), wrap64 (n := 1 + (n.ins.xs.length : Int) + ((c[i]'(by omega) : Nat) : Int)) (by omega) (by omega), wrap64 (by omega) (by omega)]; omega
          dsimp only [RSt.at, List.cons_append, List.nil_append]
          repeat' (first | (refine OS.do rfl ?_; first | refine OD.loadP 2 rfl rfl rfl hci rfl rfl ?_ | refine OD.auto rfl rfl ?_ | refine OD.len rfl rfl (fun _ => lenTy_av rfl rfl) ?_ | refine OD.loadP 3 rfl rfl rfl rfl rfl rfl ?_ | refine OD.indexAddr rfl rfl rfl (indexAddrA_sl rfl rfl rfl rfl (by omega)) ?_ | refine OD.appendG 0 (xs := R.map intAV) (ys := [.int .i64 (IntKind.i64.wrap (2 * IntKind.i64.wrap (IntKind.i64.wrap (1 + (n.ins.xs.length : Int)) + ((c[i]'(by omega) : Nat) : Int))))]) rfl rfl rfl rfl rfl rfl rfl rfl rfl rfl rfl (.inr ⟨⟨_, rfl⟩, rfl⟩) (fun _ => rfl) rfl rfl (roomB rfl (by simp only [List.length_map, List.length_singleton]; omega)) (fun t' => ?_)) | refine OS.nil ?_ | refine WS.seq ?_ | refine QS.seqN ?_ | refine WS.region ?_ | refine WS.draw rfl rfl ?_)
          have hm : R.map intAV ++ [.int .i64 (2 * ((1 + n.ins.xs.length + c[i]'(by omega) : Nat) : Int))] = (R ++ [2 * ((1 + n.ins.xs.length + c[i]'(by omega) : Nat) : Int)]).map intAV := by simp [intAV]
          rw [hw, hm, show (b || !([AV.int .i64 (2 * ((1 + n.ins.xs.length + c[i]'(by omega) : Nat) : Int))] : List AV).isEmpty) = true by simp]
          exact QS.rangeX ((true, t', R ++ [2 * ((1 + n.ins.xs.length + c[i]'(by omega) : Nat) : Int)])) (by (try dsimp only) <;> exact ((congrArg (fun z => z ++ [2 * ((1 + n.ins.xs.length + c[i]'(by omega) : Nat) : Int)]) hA).trans (all0_succ (by omega)).symm))
        · rintro ⟨b, t, R⟩ hA
          try dsimp only at hA
          rw [List.take_of_length_le (by omega)] at hA
          have hkc : m.k = 1 + n.ins.xs.length + c.length := by omega
          have hgo : okG (1 + n.ins.xs.length + c.length) n.gates.xs := okG_of (by rw [hcl]; unfold GNet.first; omega) (validM_iff.1 hv).gates
          dsimp only [RSt.at, List.cons_append, List.nil_append]
          repeat' (first | (refine OS.do rfl ?_; first | refine OD.auto rfl rfl ?_ | refine OD.len rfl rfl (fun _ => lenTy_av rfl rfl) ?_ | refine OD.loadP 3 rfl rfl rfl rfl rfl rfl ?_) | refine OS.nil ?_ | refine WS.seq ?_ | refine QS.seqN ?_ | refine WS.region ?_ | refine WS.block ?_)
          refine WS.rangeX (A := (Bool × Nat × List Int) × Nat × List (Int × Int)) (n := n.gates.xs.length) ⟨118, _, fun a => [(13, growA a.1.1 a.1.2.1 1 (a.1.2.2.map intAV))], fun a => (mb, mkO m a.2.1 a.2.2) :: (m.tb, thO m a.2.2) :: (cb, .row 1 (c.map natAV)) :: (b1, .row 4 [netAV n]) :: L, fun a => [(a.1.2.1, a.1.1), (a.2.1, !a.2.2.isEmpty)], fun i a => (a.1.2.2, a.2.2) = shareM m.k (all0L n.ins.xs.length c) (n.gates.xs.take i)⟩ (((b, t, R), 0, [])) [1, 4, 7, 8, 11, 116, 117] (by rw [hA]; rfl) ?_ ?_
          · rintro i ⟨⟨b, t, R⟩, tg, G⟩ hi hA
            try dsimp only at hA
            have hs := share_ok hC.canon hgo (Nat.le_of_lt hi)
            rw [← hkc, ← hA] at hs
            have hRl := hs.len
            have hGl := hs.gates
            try dsimp only at hRl hGl
            obtain ⟨⟨g1, g2⟩, g3, g4⟩ := hgo i hi
            have r1 := hs.range (n.gates.xs[i].1 / 2).toNat
            have r2 := hs.range (n.gates.xs[i].2 / 2).toNat
            have a1 := at_range hs n.gates.xs[i].1
            have a2 := at_range hs n.gates.xs[i].2
            try dsimp only at r1 r2 a1 a2
            have u1 := use67g h67 (b := b) (t := t) (v := R) (k := n.gates.xs[i].1) (by omega) (by omega)
            have u2 := use67g h67 (b := b) (t := t) (v := R) (k := n.gates.xs[i].2) (by omega) (by omega)
            have c62 := fun {L' : List (Nat × AObj)} {K : List (Nat × Bool)} (km kt kg : Nat) (hm : L'[km]? = some (mb, mkO m tg G)) (ht : L'[kt]? = some (m.tb, thO m G)) (hg : K[kg]? = some (tg, !G.isEmpty)) (hne : km ≠ kt) (st : St) (hS : SFa L' K st) => run62 h62 h95 h117 h94 km kt kg hm ht hg hne hmf (by omega) a1 a2 hS
            obtain ⟨⟨lit, G'⟩, hAnd⟩ : ∃ res, res = andG m.k G (atL R n.gates.xs[i].1) (atL R n.gates.xs[i].2) := ⟨_, rfl⟩
            simp only [← hAnd] at c62
            have hstep : (R ++ [lit], G') = stepM m.k (R, G) n.gates.xs[i] := by unfold stepM; rw [← hAnd]
            dsimp only [RSt.at, List.cons_append, List.nil_append]
            repeat' (first | (refine OS.do rfl ?_; first | refine OD.auto rfl rfl ?_ | refine OD.indexAddr rfl rfl rfl (indexAddrA_nat rfl rfl rfl rfl (by first | assumption | exact List.getElem?_eq_getElem (by omega))) ?_ | refine OD.alloc rfl rfl rfl rfl (fun _ => ?_) | refine OD.storeW 0 rfl rfl rfl rfl (by first | rfl | exact net_ok _) rfl rfl rfl ?_) | refine OS.nil ?_ | refine WS.seq ?_ | refine QS.seqN ?_ | refine WS.region ?_)
            refine WS.drawT 9 rfl rfl rfl rfl ?_; (repeat' (first | refine SegT.nil ?_ | refine SegT.auto rfl rfl rfl rfl ?_ | refine SegT.loadP 0 rfl rfl rfl rfl rfl rfl rfl ?_ | refine SegT.loadP 1 rfl rfl rfl rfl rfl rfl rfl ?_ | refine SegT.loadP 2 rfl rfl rfl rfl rfl rfl rfl ?_ | refine SegT.len rfl rfl rfl (fun _ => lenTy_av rfl rfl) ?_ | refine SegT.len rfl rfl rfl (fun _ => rfl) ?_ | refine SegT.indexAddr rfl rfl rfl rfl rfl ?_ | refine SegT.skip rfl rfl rfl ?_ | refine SegT.call rfl rfl rfl rfl h67.eq u1 (fun _ => rfl) ?_))
            dsimp only [RSt.at, List.cons_append, List.nil_append]
            repeat' (first | (refine OS.do rfl ?_; first | refine OD.auto rfl rfl ?_ | refine OD.call rfl rfl rfl h67.eq u2 (fun _ => rfl) ?_ | (refine OD.callM (D := Nat) (fun _ => True) (fun _ => .int .i64 lit) _ _ rfl rfl rfl (c62 1 2 1 rfl rfl rfl (by decide)) (fun _ _ _ => rfl) ?_; rintro tg' _) | refine OD.appendG 0 (xs := R.map intAV) (ys := [.int .i64 lit]) rfl rfl rfl rfl rfl rfl rfl rfl rfl rfl rfl (.inr ⟨⟨_, rfl⟩, rfl⟩) (fun _ => rfl) rfl rfl (roomB rfl (by simp only [List.length_map, List.length_singleton]; omega)) (fun t' => ?_)) | refine OS.nil ?_)
            have hm : R.map intAV ++ [.int .i64 lit] = (R ++ [lit]).map intAV := by simp [intAV]
            rw [hm, show (b || !([AV.int .i64 lit] : List AV).isEmpty) = true by simp]
            exact QS.rangeX (((true, t', R ++ [lit]), tg', G')) (by (try dsimp only) <;> exact (by rw [hstep, hA, shareM_succ hi]))
          · rintro ⟨⟨b, t, R⟩, tg, G⟩ hA
            try dsimp only at hA
            rw [List.take_of_length_le (Nat.le_refl _)] at hA
            dsimp only [RSt.at, List.cons_append, List.nil_append]
            repeat' (first | (refine OS.do rfl ?_; first | refine OD.makeMap rfl rfl rfl (fun lb => ?_) | refine OD.auto rfl rfl ?_ | refine OD.len rfl rfl (fun _ => lenTy_av rfl rfl) ?_ | refine OD.len rfl rfl (fun _ => rfl) ?_ | refine OD.makeSlice rfl rfl rfl rfl rfl rfl rfl rfl (roomB rfl (by omega)) (fun fb => ?_) | refine OD.loadP 5 rfl rfl rfl rfl rfl rfl ?_) | refine OS.nil ?_ | refine WS.seq ?_ | refine QS.seqN ?_ | refine WS.region ?_ | refine WS.block ?_)
            obtain ⟨keys, hkeys⟩ : ∃ keys, keys = keysL n.gates.xs n.ins.xs.length n.nexts c := ⟨_, rfl⟩
            have hnl : n.nexts.length = n.regs.xs.length := by simp [GNet.nexts]
            have hkl : keys.length = n.regs.xs.length := by rw [hkeys, keysL_len (by omega), hcl]
            have hF : finerL n.gates.xs n.ins.xs.length n.nexts c = leastOf keys := by rw [hkeys]; rfl
            have hFl : (leastOf keys).length = n.regs.xs.length := by rw [leastOf_len, hkl]
            have hs := share_ok hC.canon hgo (Nat.le_refl _)
            rw [List.take_length, ← hkc, ← hA] at hs
            have hRl := hs.len
            have hGl := hs.gates
            try dsimp only at hRl hGl
            have hmade : madeL n.gates.xs n.ins.xs.length c = R := by unfold madeL; rw [← hkc, ← hA]
            have e1 : List.replicate n.regs.xs.length ty3.zeroV = (fillL (leastOf keys) 0).map natAV := by rw [fill_zero, hFl]; exact rep_nat _
            rw [e1]
            refine WS.rangeX (A := List ((Int × Int) × Int) × List Nat) (n := n.regs.xs.length) ⟨143, _, fun _ => [], fun a => (lb, .map 53 3 (ents2 a.1)) :: (fb, .row 1 (a.2.map natAV)) :: (mb, mkO m tg G) :: (m.tb, thO m G) :: (cb, .row 1 (c.map natAV)) :: (b1, .row 4 [netAV n]) :: L, fun _ => [], fun i a => a.1 = esM (keysI keys) i ∧ a.2 = fillL (leastOf keys) i⟩ (([], fillL (leastOf keys) 0)) [1, 4, 7, 8, 13, 18, 19, 141, 142] (⟨rfl, rfl⟩) ?_ ?_
            · rintro i ⟨es, f⟩ hi ⟨hes, hf⟩
              try dsimp only at hes hf
              have hci : (c.map natAV)[i]? = some (natAV (c[i]'(by omega))) := by rw [List.getElem?_map, List.getElem?_eq_getElem (by omega)]; rfl
              have hx := List.getElem?_eq_getElem (l := n.regs.xs) hi
              have hnx := (validM_iff.1 hv).nexts
              have hnx : litOk n.regs.xs[i].next n.nodes = true := all_get hnx hi
              have hnx := of_decide_eq_true hnx
              simp only [GNet.nodes, GNet.first] at hnx
              have r1 := hs.range (n.regs.xs[i].next / 2).toNat
              try dsimp only at r1
              have u1 := use67g h67 (b := b) (t := t) (v := R) (k := n.regs.xs[i].next) (by omega) (by omega)
              have hkey : (keysI keys).getD i (0, 0) = (((c[i]'(by omega) : Nat) : Int), atL R n.regs.xs[i].next) := by
                have hki := keysL_get (gs := n.gates.xs) (nins := n.ins.xs.length) (next := n.nexts) (c := c) (by omega) (i := i) (by omega)
                rw [hmade, List.getD_eq_getElem?_getD, List.getD_eq_getElem?_getD, List.getElem?_eq_getElem (by omega), List.getElem?_eq_getElem (by omega)] at hki
                rw [List.getD_eq_getElem?_getD, List.getElem?_eq_getElem (by simp [keysI]; omega)]
                simp only [keysI, List.getElem_map, Option.getD_some]
                subst hkeys
                rw [hki]
                simp [GNet.nexts]
              have hset : (f.map natAV).set i (.int .i64 (((leastOf keys)[i]'(by omega) : Nat) : Int)) = (fillL (leastOf keys) (i + 1)).map natAV := by rw [map_setN, hf, fill_set (by omega)]
              have hleast := es_least (keys := keys) (i := i) (by omega)
              have hfj : (f.map natAV)[i]? = some (natAV (f.getD i 0)) := by
                rw [List.getElem?_map, hf, List.getElem?_eq_getElem (by rw [fill_len (by omega)]; omega), List.getD_eq_getElem?_getD, List.getElem?_eq_getElem (by rw [fill_len (by omega)]; omega)]; rfl
              dsimp only [RSt.at, List.cons_append, List.nil_append]
              repeat' (first | (refine OS.do rfl ?_; first | refine OD.storeW 0 rfl rfl rfl rfl rfl rfl rfl rfl ?_ | refine OD.auto rfl rfl ?_ | refine OD.indexAddr rfl rfl rfl (indexAddrA_nat rfl rfl rfl rfl (by first | assumption | exact List.getElem?_eq_getElem (by omega))) ?_ | refine OD.alloc rfl rfl rfl rfl (fun _ => ?_)) | refine OS.nil ?_ | refine WS.seq ?_ | refine QS.seqN ?_ | refine WS.region ?_)
              refine WS.drawA 9 rfl rfl rfl rfl rfl rfl rfl (fun _ _ => rfl) (fun b22 => ?_); (repeat' (first | refine SegY.nil ?_ | refine SegY.indexAddr rfl rfl rfl rfl (indexAddrA_sl rfl rfl rfl rfl (by omega)) ?_ | refine SegY.loadP 6 rfl rfl rfl rfl hci rfl rfl ?_ | refine SegY.auto rfl rfl rfl rfl ?_ | refine SegY.loadP 0 rfl rfl rfl rfl rfl rfl rfl ?_ | refine SegY.loadP 1 rfl rfl rfl rfl rfl rfl rfl ?_ | refine SegY.loadP 2 rfl rfl rfl rfl rfl rfl rfl ?_ | refine SegY.indexAddr rfl rfl rfl rfl rfl ?_ | refine SegY.call rfl rfl rfl rfl h67.eq u1 (fun _ => rfl) ?_))
              refine ⟨gateAV (((c[i]'(by omega) : Nat) : Int), atL R n.regs.xs[i].next), rfl, rfl, rfl, rfl, ?_⟩
              rw [← hkey]
              dsimp only [RSt.at, List.cons_append, List.nil_append]
              repeat' (first | (refine OS.do rfl ?_; first | refine OD.lookup 2 rfl rfl rfl rfl (fun st hst => look2 true hst) ?_ | refine OD.lookup 2 rfl rfl rfl rfl (fun st hst => look2 false hst) ?_ | refine OD.mapUpdate 2 rfl rfl rfl rfl rfl rfl rfl (fun st hst => put2 (none_of (by assumption)) hst) ?_ | refine OD.loadP 0 rfl rfl rfl rfl rfl rfl ?_ | refine OD.auto rfl rfl ?_ | refine OD.indexAddr rfl rfl rfl (indexAddrA_sl rfl rfl rfl rfl (by omega)) ?_ | refine OD.storeI 3 rfl rfl rfl rfl rfl hfj ?_) | refine OS.nil ?_ | refine WS.seq ?_ | refine QS.seqN ?_ | refine WS.region ?_ | refine WS.skip ?_ | refine WS.condN rfl (fun _ => ?_) (fun _ => ?_))
              · rename_i hno
                have ee := es_no hes hno
                rw [ee, hleast, hset]
                exact QS.rangeX ((esM (keysI keys) (i + 1), fillL (leastOf keys) (i + 1))) (by (try dsimp only) <;> exact (⟨rfl, rfl⟩))
              · rename_i hyes
                have ee := es_yes hes hyes
                have hv' : (assocI ((keysI keys).getD i (0, 0)) es).getD 0 = (((leastOf keys)[i]'(by omega) : Nat) : Int) := by rw [ee]; exact hleast
                rw [hv', hset]
                exact QS.rangeX ((es, fillL (leastOf keys) (i + 1))) (by (try dsimp only) <;> exact (⟨ee, rfl⟩))
            · rintro ⟨es, f⟩ ⟨hes, hf⟩
              try dsimp only at hes hf
              rw [← hFl, fill_all] at hf
              subst hf
              have c68 := fun {L' : List (Nat × AObj)} {K : List (Nat × Bool)} (k1 k2 : Nat) (h1 : L'[k1]? = some (fb, .row 1 ((leastOf keys).map natAV))) (h2 : L'[k2]? = some (cb, .row 1 (c.map natAV))) (st : St) (hS : SFa L' K st) => run68 h68 k1 k2 (by rw [hFl, hcl]) (by rw [hFl]; omega) h1 h2 hS
              rw [hFl] at c68
              rw [hcl] at c68
              dsimp only [RSt.at, List.cons_append, List.nil_append]
              repeat' (first | (refine OS.do rfl ?_; first | refine OD.auto rfl rfl ?_ | (refine OD.callP (fun v => v = .bool (decide (leastOf keys = c))) rfl rfl rfl (c68 1 4 rfl rfl) (by rintro v st rfl; rfl) ?_; rintro v rfl)) | refine OS.nil ?_ | refine WS.seq ?_ | refine QS.seqN ?_ | refine WS.region ?_ | refine WS.condD rfl (fun _ => ?_) (fun _ => ?_) | refine WS.skip ?_ | refine WS.ret ?_ | refine QS.seqR ?_ | refine QS.blockR ?_ | refine QS.loopR ?_ | refine QS.blockN ?_)
              · rename_i heq
                exact QS.retRS (by rfl) fun st hs => ⟨(c, cb), ⟨hR, hF.trans heq⟩, rfl, hs.subO (.drop (.drop (.drop (.drop (.keep (.drop (.refl _)))))))⟩
              · rename_i hne
                have hlt := fixN_lt (gs := n.gates.xs) (nins := n.ins.xs.length) (next := n.nexts) (c := c) (by omega) hC.canon (by rw [hF]; exact hne)
                rw [hF] at hlt
                have hle := fixN_le (leastOf keys)
                exact QS.loopX ((leastOf keys, fb)) (by exact (by rw [← hF]; exact .succ hR)) (by exact (by dsimp only; omega))
end
end Go.OptEnv

namespace Go.OptEnv
open Go Go.Proofs Go.Abs Go.RowKit Go.NetM
set_option maxRecDepth 10000
def sharedL (n : GNet) (c : List Nat) : List Int := n.nexts.map (atL (madeL n.gates.xs n.ins.xs.length c))
theorem sharedL_len (n : GNet) (c : List Nat) : (sharedL n c).length = n.regs.xs.length := by simp [sharedL, GNet.nexts]
def Rel69 : Rel := RelF (fun p : GNet × GSl Nat => (validM p.1 = true ∧ FitsN p.1) ∧ p.2.xs.length = p.1.regs.xs.length ∧ Canon p.2.xs) (fun p => [netAV p.1, p.2.av 1 natAV]) fun p => (GSl.of (sharedL p.1 p.2.xs)).av 1 intAV
theorem bare_same (s : GSl ByteArray) (rs : List GReg) : SameC (bareN (GSl.some s.xs) rs) (bareN (cloneG s) rs) := ⟨(clone_xs s).symm, rfl, rfl, rfl⟩
theorem all0_range {nins : Nat} {c : List Nat} (hc : Canon c) (j : Nat) : 0 ≤ (all0L nins c).getD j 0 ∧ (all0L nins c).getD j 0 < 2 * ((1 + nins + c.length : Nat) : Int) := by
  by_cases hj : j < 1 + nins + c.length
  · rw [all0L_get hj]
    split
    · omega
    · have := (hc (j - (1 + nins)) (by omega)).1
      omega
  · rw [List.getD_eq_getElem?_getD, List.getElem?_eq_none (by rw [all0L_len]; omega)]
    simp only [Option.getD_none]; omega
theorem nat_free (k : Nat) : AV.free (natAV k) = true := rfl
theorem nat_plain (k : Nat) : AV.plain (natAV k) = natAV k := rfl
attribute [local irreducible] WS QS OS OD Abs.Sub SubO SubK CW GSl.av accA growA
section
variable {pr : Prims} {L : List (Nat × AObj)} {K : List (Nat × Bool)} {st : St}
set_option maxHeartbeats 4000000 in
theorem run69 (h1 : pr 69 = none) (h113 : pr 113 = none) (h31 : Has pr 31 Rel31) (h98 : pr 98 = none) (h126 : pr 126 = none) (h72 : Has pr 72 Rel72) (h73 : Has pr 73 Rel73) (n : GNet) (hV : validM n = true) (hn : FitsN n) (c : GSl Nat) (hcl : c.xs.length = n.regs.xs.length) (hcan : Canon c.xs) (st : St) :
    CW (En pr) 69 [netAV n, c.av 1 natAV] st fun r _ => AV.free r = true ∧ AV.plain r = (GSl.of (sharedL n c.xs)).av 1 intAV := by
  obtain ⟨f1, f2, f3, f4⟩ := valid_len hV
  obtain ⟨hgo, hrn, hol⟩ := valid_lits hV
  have hr500 : n.regs.xs.length ≤ 500 := by
    have := names_len (validM_iff.1 hV).regs
    simp only [List.length_map] at this
    exact this
  have hbf : FitsN (bareN (GSl.some n.ins.xs) (n.regs.xs.map zeroR)) := (bare_same _ _).fits (bare_fits hn)
  have hbv : validM (bareN (GSl.some n.ins.xs) (n.regs.xs.map zeroR)) = true := (bare_same _ _).valid.trans (bare_valid hV)
  have hfst := mkB_first h73 (s := n.ins) (rs := n.regs.xs.map zeroR) f1 (by rw [List.length_map]; exact f2) hbf
  rw [List.length_map] at hfst
  have hkN : n.kN = 1 + n.ins.xs.length + n.regs.xs.length := rfl
  rw [← hkN] at hfst
  have c113 := fun {L' : List (Nat × AObj)} {K' : List (Nat × Bool)} (tn ti : Nat) (st : St) (hS : SFa L' K' st) => run113 h113 h31 n.ins n.regs.xs tn ti f1 hr500 hbf hbv hS
  refine CW.start (N := 136) h1 rfl rfl ?_
  repeat' (first | (refine OS.do rfl ?_; first | refine OD.box rfl rfl rfl rfl (net_ok _) rfl (fun b1 => ?_) | refine OD.loadP 0 rfl rfl rfl rfl rfl rfl ?_ | refine OD.auto rfl rfl ?_ | refine OD.len rfl rfl (fun _ => lenTy_av rfl rfl) ?_) | refine OS.nil ?_ | refine WS.seq ?_ | refine QS.seqN ?_ | refine WS.region ?_ | refine WS.block ?_)
  refine WS.rangeX (A := Nat × Nat × List GReg) (n := n.regs.xs.length) ⟨25, _, fun a => [(5, accA a.1 1 ((a.2.2.map (·.name)).map strAV)), (6, accA a.2.1 1 ((a.2.2.map (·.init)).map bitAV))], fun _ => [(b1, .row 4 [netAV n])], fun a => [(a.1, !a.2.2.isEmpty), (a.2.1, !a.2.2.isEmpty)], fun i a => a.2.2 = n.regs.xs.take i⟩ ((0, 0, [])) [1, 2, 23, 24] (rfl) ?_ ?_ (hm := by (try dsimp only); repeat' (first | exact Sub.nil _ | refine Sub.cons (congrArg some (accA_nil2 _ _).symm) ?_ | refine Sub.cons (congrArg (fun z => some (AV.int .i64 z)) (wrap_succ (by omega))) ?_ | refine Sub.cons rfl ?_))
  · rintro i ⟨tn, ti, R⟩ hi hR
    try dsimp only at hR
    have hRl : R.length = i := by rw [hR, List.length_take]; omega
    dsimp only [RSt.at, List.cons_append, List.nil_append]
    repeat' (first | (refine OS.do rfl ?_; first | refine OD.auto rfl rfl ?_ | refine OD.indexAddr rfl rfl rfl (indexAddrA_nat rfl rfl rfl rfl (by first | assumption | exact List.getElem?_eq_getElem (by omega))) ?_ | refine OD.alloc rfl rfl rfl rfl (fun _ => ?_) | refine OD.storeW 0 rfl rfl rfl rfl (by first | rfl | exact net_ok _) rfl rfl rfl ?_) | refine OS.nil ?_ | refine WS.seq ?_ | refine QS.seqN ?_ | refine WS.region ?_)
    refine WS.drawY 8 [(tn, !R.isEmpty), (ti, !R.isEmpty)] (K := []) rfl rfl rfl rfl ?_; (repeat' (first | refine SegY.nil ?_ | refine SegY.auto rfl rfl rfl rfl ?_ | refine SegY.loadP 0 rfl rfl rfl rfl rfl rfl rfl ?_ | refine SegY.loadP 1 rfl rfl rfl rfl rfl rfl rfl ?_ | refine SegY.loadP 2 rfl rfl rfl rfl rfl rfl rfl ?_ | refine SegY.indexAddr rfl rfl rfl rfl rfl ?_ | refine SegY.append 0 (xs := (R.map (·.name)).map strAV) (ys := [strAV n.regs.xs[i].name]) rfl rfl rfl rfl rfl (by simp only [List.isEmpty_map]; rfl) rfl rfl rfl rfl rfl rfl (.inr ⟨⟨_, rfl⟩, rfl⟩) (fun _ => rfl) rfl rfl (roomB rfl (by simp only [List.length_map, List.length_singleton]; omega)) (by simp) (fun tn' => ?_)))
    dsimp only [RSt.at, List.cons_append, List.nil_append]
    repeat' (first | (refine OS.do rfl ?_; first | refine OD.auto rfl rfl ?_ | refine OD.append 1 (xs := (R.map (·.init)).map bitAV) (ys := [bitAV n.regs.xs[i].init]) rfl rfl rfl rfl (by simp only [List.isEmpty_map]; rfl) rfl rfl rfl rfl rfl rfl (.inr ⟨⟨_, rfl⟩, rfl⟩) (fun _ => rfl) rfl rfl (roomB rfl (by simp only [List.length_map, List.length_singleton]; omega)) (fun ti' => ?_)) | refine OS.nil ?_)
    have hm1 : (R.map (·.name)).map strAV ++ [strAV n.regs.xs[i].name] = ((R ++ [n.regs.xs[i]]).map (·.name)).map strAV := by simp
    have hm2 : (R.map (·.init)).map bitAV ++ [bitAV n.regs.xs[i].init] = ((R ++ [n.regs.xs[i]]).map (·.init)).map bitAV := by simp
    rw [show (!((R.map (·.init)).map bitAV ++ [bitAV n.regs.xs[i].init]).isEmpty) = true by simp, hm1, hm2]
    exact QS.rangeX ((tn', ti', R ++ [n.regs.xs[i]])) (by (try dsimp only) <;> exact (by rw [hR, List.take_succ_eq_append_getElem hi]))
  rintro ⟨tn, ti, R⟩ hR
  try dsimp only at hR
  rw [List.take_of_length_le (Nat.le_refl _)] at hR
  subst hR
  dsimp only [RSt.at, List.cons_append, List.nil_append]
  repeat' (first | (refine OS.do rfl ?_; first | refine OD.loadP 0 rfl rfl rfl rfl rfl rfl ?_ | refine OD.auto rfl rfl ?_ | (refine OD.callM (D := Nat × (Bool × Nat) × Nat) (fun _ => True) (fun d => .tup [.ptr d.1 0 0, .int .i64 0]) (fun d => (d.1, (mkB n.ins (n.regs.xs.map zeroR) d.2.1 d.2.2).obj 0 []) :: _) (fun _ => [(0, false)]) rfl rfl rfl (fun st hS => c113 tn ti st hS.noK) (fun _ _ _ => rfl) ?_; rintro ⟨mb, g, tr⟩ _)) | refine OS.nil ?_ | refine WS.seq ?_ | refine QS.seqN ?_ | refine WS.region ?_ | refine WS.block ?_)
  refine WS.newK ?_
  refine WS.loopX (D := Nat × Nat) [1, 2, 9] (fun d => [(11, accA d.1 1 ((idL d.2).map intAV)), (12, .int .i64 (d.2 : Int))]) (fun _ => [(mb, (mkB n.ins (n.regs.xs.map zeroR) g tr).obj 0 []), (b1, .row 4 [netAV n])]) (fun d => [(d.1, !(idL d.2).isEmpty), (0, false)]) (fun d => d.2 ≤ 1 + n.ins.xs.length) (fun d => 1 + n.ins.xs.length - d.2) ((0, 0)) (Nat.zero_le _) ?_ (hm := by (try dsimp only); repeat' (first | exact Sub.nil _ | refine Sub.cons (congrArg some (accA_nil2 _ _).symm) ?_ | refine Sub.cons (congrArg (fun z => some (AV.int .i64 z)) (wrap_succ (by omega))) ?_ | refine Sub.cons rfl ?_))
  rintro ⟨t, j⟩ hj
  try dsimp only at hj
  have hw : IntKind.i64.wrap (2 * (j : Int)) = 2 * (j : Int) := wrap64 (by omega) (by omega)
  have hgm : (idL j).map intAV ++ [.int .i64 (2 * (j : Int))] = (idL (j + 1)).map intAV := by rw [idL_succ, List.map_append]; rfl
  dsimp only [RSt.at, List.cons_append, List.nil_append]
  repeat' (first | (refine OS.do rfl ?_; first | refine OD.auto rfl rfl ?_ | refine OD.loadP 1 rfl rfl rfl rfl rfl rfl ?_ | refine OD.len rfl rfl (fun _ => lenTy_av rfl rfl) ?_ | (rw [hw]; refine OD.append 0 (xs := (idL j).map intAV) (ys := [.int .i64 (2 * (j : Int))]) rfl rfl rfl rfl (by rw [List.isEmpty_map]; rfl) rfl rfl rfl rfl rfl rfl (.inr ⟨⟨_, rfl⟩, rfl⟩) (fun _ => rfl) rfl rfl (roomB rfl (by simp only [List.length_map, List.length_singleton, idL_len]; omega)) (fun t' => ?_))) | refine OS.nil ?_ | refine WS.seq ?_ | refine QS.seqN ?_ | refine WS.region ?_ | refine WS.condD rfl (fun _ => ?_) (fun _ => ?_) | refine WS.skip ?_ | refine WS.block ?_ | refine QS.blockN ?_ | refine WS.exit ?_ | refine QS.seqE ?_ | refine QS.blockH ?_ | refine QS.loopE ?_)
  · rename_i hc
    rw [hgm, List.isEmpty_map]
    exact QS.loopX ((t', j + 1)) (by exact (by dsimp only; omega)) (by exact (by dsimp only; omega))
  rename_i hc
  have hjk : j = 1 + n.ins.xs.length := by omega
  subst hjk
  have hA0 : idL (1 + n.ins.xs.length) = all0L n.ins.xs.length (c.xs.take 0) := by simp [all0L, idL]
  refine WS.rangeX (A := Nat × List Int) (n := c.xs.length) ⟨62, _, fun a => [(11, accA a.1 1 (a.2.map intAV))], fun _ => [(mb, (mkB n.ins (n.regs.xs.map zeroR) g tr).obj 0 []), (b1, .row 4 [netAV n])], fun a => [(a.1, !a.2.isEmpty), (0, false)], fun i a => a.2 = all0L n.ins.xs.length (c.xs.take i)⟩ ((t, idL (1 + n.ins.xs.length))) [2, 9, 60, 61] (hA0) ?_ ?_
  · rintro i ⟨t, R⟩ hi hA
    try dsimp only at hA
    have hRl : R.length = 1 + n.ins.xs.length + i := by rw [hA, all0L_len, List.length_take]; omega
    have hci : c.xs[i]? = some c.xs[i] := List.getElem?_eq_getElem hi
    have hcb : c.xs[i] ≤ i := by
      have := (hcan i hi).1
      rw [List.getD_eq_getElem?_getD, hci] at this
      exact this
    have hw : IntKind.i64.wrap (2 * IntKind.i64.wrap (IntKind.i64.wrap (1 + (n.ins.xs.length : Int)) + (c.xs[i] : Int))) = 2 * ((1 + n.ins.xs.length + c.xs[i] : Nat) : Int) := by
      rw [wrap64 (n := 1 + (n.ins.xs.length : Int)) (by omega) (by omega), wrap64 (n := 1 + (n.ins.xs.length : Int) + (c.xs[i] : Int)) (by omega) (by omega), wrap64 (by omega) (by omega)]; omega
    have hgm : R.map intAV ++ [.int .i64 (2 * ((1 + n.ins.xs.length + c.xs[i] : Nat) : Int))] = (R ++ [2 * ((1 + n.ins.xs.length + c.xs[i] : Nat) : Int)]).map intAV := by rw [List.map_append]; rfl
    dsimp only [RSt.at, List.cons_append, List.nil_append]
    repeat' (first | (refine OS.do rfl ?_; first | refine OD.indexAddr rfl rfl rfl (indexAddrA_nat rfl rfl rfl rfl hci) ?_ | refine OD.auto rfl rfl ?_ | refine OD.loadP 1 rfl rfl rfl rfl rfl rfl ?_ | refine OD.len rfl rfl (fun _ => lenTy_av rfl rfl) ?_ | refine OD.append 0 (xs := R.map intAV) (ys := [.int .i64 (IntKind.i64.wrap (2 * IntKind.i64.wrap (IntKind.i64.wrap (1 + (n.ins.xs.length : Int)) + (c.xs[i] : Int))))]) rfl rfl rfl rfl (by rw [List.isEmpty_map]; rfl) rfl rfl rfl rfl rfl rfl (.inr ⟨⟨_, rfl⟩, rfl⟩) (fun _ => rfl) rfl rfl (roomB rfl (by simp only [List.length_map, List.length_singleton]; omega)) (fun t' => ?_)) | refine OS.nil ?_ | refine WS.seq ?_ | refine QS.seqN ?_ | refine WS.region ?_)
    rw [hw, hgm, List.isEmpty_map]
    exact QS.rangeX ((t', R ++ [2 * ((1 + n.ins.xs.length + c.xs[i] : Nat) : Int)])) (by (try dsimp only) <;> exact ((congrArg (fun z => z ++ [2 * ((1 + n.ins.xs.length + c.xs[i] : Nat) : Int)]) hA).trans (all0_succ (by omega)).symm))
  rintro ⟨t, R⟩ hA
  try dsimp only at hA
  rw [List.take_of_length_le (Nat.le_refl _)] at hA
  have hkc : n.kN = 1 + n.ins.xs.length + c.xs.length := by rw [hcl]; rfl
  have hk1 : 1 ≤ n.kN ∧ n.kN ≤ 2001 := by omega
  have hsh : ∀ {i : Nat}, i ≤ n.gates.xs.length → ShOk n.kN (n.kN + i) i (shareM n.kN (all0L n.ins.xs.length c.xs) (n.gates.xs.take i)) := fun {i} hi => by
    have := ShOk.share (k := n.kN) (by omega) (by rw [hkc]; exact all0_range hcan) n.gates.xs i hi
    rw [all0L_len, ← hkc] at this
    exact this
  dsimp only [RSt.at, List.cons_append, List.nil_append]
  repeat' (first | (refine OS.do rfl ?_; first | refine OD.auto rfl rfl ?_ | refine OD.loadP 1 rfl rfl rfl rfl rfl rfl ?_ | refine OD.len rfl rfl (fun _ => lenTy_av rfl rfl) ?_) | refine OS.nil ?_ | refine WS.seq ?_ | refine QS.seqN ?_ | refine WS.region ?_ | refine WS.block ?_)
  refine WS.rangeX (A := (Nat × List Int) × Nat × List (Int × Int)) (n := n.gates.xs.length) ⟨80, _, fun a => [(11, accA a.1.1 1 (a.1.2.map intAV))], fun a => [(mb, (mkB n.ins (n.regs.xs.map zeroR) g tr).obj a.2.1 a.2.2), (b1, .row 4 [netAV n])], fun a => [(a.1.1, !a.1.2.isEmpty), (a.2.1, !a.2.2.isEmpty)], fun i a => (a.1.2, a.2.2) = shareM n.kN (all0L n.ins.xs.length c.xs) (n.gates.xs.take i)⟩ (((t, R), 0, [])) [2, 9, 78, 79] (by rw [hA]; rfl) ?_ ?_
  · rintro i ⟨⟨t, R⟩, tg, G⟩ hi hA
    try dsimp only at hA
    have hs := hsh (Nat.le_of_lt hi)
    rw [← hA] at hs
    have hRl := hs.len
    have hGl := hs.gates
    try dsimp only at hRl hGl
    obtain ⟨⟨g1, g2⟩, g3, g4⟩ := hgo i hi
    have r1 := hs.range (n.gates.xs[i].1 / 2).toNat
    have r2 := hs.range (n.gates.xs[i].2 / 2).toNat
    have a1 := hs.at_ n.gates.xs[i].1
    have a2 := hs.at_ n.gates.xs[i].2
    try dsimp only at r1 r2 a1 a2
    have hw1 : IntKind.i64.wrap (n.gates.xs[i].1.tdiv 2) = n.gates.xs[i].1 / 2 := by rw [Int.tdiv_eq_ediv_of_nonneg g1]; exact wrap64 (by omega) (by omega)
    have hw2 : IntKind.i64.wrap (n.gates.xs[i].2.tdiv 2) = n.gates.xs[i].2 / 2 := by rw [Int.tdiv_eq_ediv_of_nonneg g3]; exact wrap64 (by omega) (by omega)
    have hx1 : R[(n.gates.xs[i].1 / 2).toNat]? = some (R.getD (n.gates.xs[i].1 / 2).toNat 0) := by rw [List.getD_eq_getElem?_getD, List.getElem?_eq_getElem (by omega)]; rfl
    have hx2 : R[(n.gates.xs[i].2 / 2).toNat]? = some (R.getD (n.gates.xs[i].2 / 2).toNat 0) := by rw [List.getD_eq_getElem?_getD, List.getElem?_eq_getElem (by omega)]; rfl
    have ex1 : IntKind.i64.wrap ((BitVec.ofInt IntKind.i64.bits (R.getD (n.gates.xs[i].1 / 2).toNat 0) ^^^ BitVec.ofInt IntKind.i64.bits (IntKind.i64.wrap ((BitVec.ofInt IntKind.i64.bits n.gates.xs[i].1 &&& BitVec.ofInt IntKind.i64.bits 1).toNat : Int))).toNat : Int) = atL R n.gates.xs[i].1 := by rw [and1 g1, xor_flip (by omega) (by omega)]; rfl
    have ex2 : IntKind.i64.wrap ((BitVec.ofInt IntKind.i64.bits (R.getD (n.gates.xs[i].2 / 2).toNat 0) ^^^ BitVec.ofInt IntKind.i64.bits (IntKind.i64.wrap ((BitVec.ofInt IntKind.i64.bits n.gates.xs[i].2 &&& BitVec.ofInt IntKind.i64.bits 1).toNat : Int))).toNat : Int) = atL R n.gates.xs[i].2 := by rw [and1 g3, xor_flip (by omega) (by omega)]; rfl
    have c98 := fun {L' : List (Nat × AObj)} {K : List (Nat × Bool)} (km kg : Nat) (hm : L'[km]? = some (mb, (mkB n.ins (n.regs.xs.map zeroR) g tr).obj tg G)) (hg : K[kg]? = some (tg, !G.isEmpty)) (st : St) (hS : SFa L' K st) => run98 h98 h126 h72 h73 km kg hm hg (hfst g tr) (fun p hp => by cases hp) ⟨by omega, by omega⟩ (by omega) hs.ok a1 a2 hS
    obtain ⟨⟨lit, G'⟩, hAnd⟩ : ∃ res, res = andG n.kN G (atL R n.gates.xs[i].1) (atL R n.gates.xs[i].2) := ⟨_, rfl⟩
    simp only [← hAnd] at c98
    have hstep : (R ++ [lit], G') = stepM n.kN (R, G) n.gates.xs[i] := by unfold stepM; rw [← hAnd]
    have hgm : R.map intAV ++ [.int .i64 lit] = (R ++ [lit]).map intAV := by rw [List.map_append]; rfl
    dsimp only [RSt.at, List.cons_append, List.nil_append]
    repeat' (first | (refine OS.do rfl ?_; first | refine OD.indexAddr rfl rfl rfl (indexAddrA_accm rfl rfl rfl rfl (by rw [hw1]; omega) (by rw [hw1]; exact hx1)) ?_ | refine OD.indexAddr rfl rfl rfl (indexAddrA_accm rfl rfl rfl rfl (by rw [hw2]; omega) (by rw [hw2]; exact hx2)) ?_ | refine OD.loadP 0 rfl rfl rfl rfl rfl rfl ?_ | refine OD.auto rfl rfl ?_ | refine OD.indexAddr rfl rfl rfl (indexAddrA_nat rfl rfl rfl rfl (by first | assumption | exact List.getElem?_eq_getElem (by omega))) ?_ | refine OD.alloc rfl rfl rfl rfl (fun _ => ?_) | refine OD.storeW 0 rfl rfl rfl rfl (by first | rfl | exact net_ok _) rfl rfl rfl ?_ | refine OD.indexAddr rfl rfl rfl rfl ?_ | (rw [ex1, ex2]; refine OD.callM (D := Nat) (fun _ => True) (fun _ => .tup [.int .i64 lit, .int .i64 0]) _ _ rfl rfl rfl (c98 1 1 rfl rfl) (fun _ _ _ => rfl) ?_; rintro tg' _) | refine OD.append 0 (xs := R.map intAV) (ys := [.int .i64 lit]) rfl rfl rfl rfl (by rw [List.isEmpty_map]; rfl) rfl rfl rfl rfl rfl rfl (.inr ⟨⟨_, rfl⟩, rfl⟩) (fun _ => rfl) rfl rfl (roomB rfl (by simp only [List.length_map, List.length_singleton]; omega)) (fun t' => ?_)) | refine OS.nil ?_ | refine WS.seq ?_ | refine QS.seqN ?_ | refine WS.region ?_ | refine WS.draw rfl rfl ?_)
    rw [hgm, List.isEmpty_map]
    exact QS.rangeX (((t', R ++ [lit]), tg', G')) (by (try dsimp only) <;> exact (by rw [hstep, hA, shareM_succ hi])) (hL := by (try dsimp only); exact SubO.drop (SubO.refl _))
  rintro ⟨⟨t, R⟩, tg, G⟩ hA
  try dsimp only at hA
  rw [List.take_of_length_le (Nat.le_refl _)] at hA
  have hs := hsh (Nat.le_refl n.gates.xs.length)
  rw [List.take_length, ← hA] at hs
  have hRl := hs.len
  try dsimp only at hRl
  have hGl := hs.gates
  try dsimp only at hGl
  have hmade : madeL n.gates.xs n.ins.xs.length c.xs = R := by unfold madeL; rw [← hkc, ← hA]
  dsimp only [RSt.at, List.cons_append, List.nil_append]
  repeat' (first | (refine OS.do rfl ?_; first | refine OD.auto rfl rfl ?_ | refine OD.loadP 1 rfl rfl rfl rfl rfl rfl ?_ | refine OD.len rfl rfl (fun _ => lenTy_av rfl rfl) ?_) | refine OS.nil ?_ | refine WS.seq ?_ | refine QS.seqN ?_ | refine WS.region ?_ | refine WS.block ?_)
  refine WS.newK ?_
  refine WS.rangeX (A := Nat × List Int) (n := n.regs.xs.length) ⟨117, _, fun a => [(19, accA a.1 1 (a.2.map intAV))], fun _ => [(b1, .row 4 [netAV n])], fun a => [(a.1, !a.2.isEmpty)], fun i a => a.2 = (n.regs.xs.take i).map (fun r => atL R r.next)⟩ ((0, [])) [11, 115, 116] (rfl) ?_ ?_ (hm := by (try dsimp only); repeat' (first | exact Sub.nil _ | refine Sub.cons (congrArg some (accA_nil2 _ _).symm) ?_ | refine Sub.cons (congrArg (fun z => some (AV.int .i64 z)) (wrap_succ (by omega))) ?_ | refine Sub.cons rfl ?_))
  · rintro i ⟨tx, X⟩ hi hX
    try dsimp only at hX
    have hXl : X.length = i := by rw [hX, List.length_map, List.length_take]; omega
    obtain ⟨g1, g2⟩ := hrn _ (List.getElem_mem hi)
    have r1 := hs.range (n.regs.xs[i].next / 2).toNat
    try dsimp only at r1
    have hw1 : IntKind.i64.wrap (n.regs.xs[i].next.tdiv 2) = n.regs.xs[i].next / 2 := by rw [Int.tdiv_eq_ediv_of_nonneg g1]; exact wrap64 (by omega) (by omega)
    have hx1 : R[(n.regs.xs[i].next / 2).toNat]? = some (R.getD (n.regs.xs[i].next / 2).toNat 0) := by rw [List.getD_eq_getElem?_getD, List.getElem?_eq_getElem (by omega)]; rfl
    have ex1 : IntKind.i64.wrap ((BitVec.ofInt IntKind.i64.bits (R.getD (n.regs.xs[i].next / 2).toNat 0) ^^^ BitVec.ofInt IntKind.i64.bits (IntKind.i64.wrap ((BitVec.ofInt IntKind.i64.bits n.regs.xs[i].next &&& BitVec.ofInt IntKind.i64.bits 1).toNat : Int))).toNat : Int) = atL R n.regs.xs[i].next := by rw [and1 g1, xor_flip (by omega) (by omega)]; rfl
    have hgm : X.map intAV ++ [.int .i64 (atL R n.regs.xs[i].next)] = (X ++ [atL R n.regs.xs[i].next]).map intAV := by rw [List.map_append]; rfl
    dsimp only [RSt.at, List.cons_append, List.nil_append]
    repeat' (first | (refine OS.do rfl ?_; first | refine OD.indexAddr rfl rfl rfl (indexAddrA_accm rfl rfl rfl rfl (by rw [hw1]; omega) (by rw [hw1]; exact hx1)) ?_ | refine OD.loadP 0 rfl rfl rfl rfl rfl rfl ?_ | refine OD.auto rfl rfl ?_ | refine OD.indexAddr rfl rfl rfl (indexAddrA_nat rfl rfl rfl rfl (by first | assumption | exact List.getElem?_eq_getElem (by omega))) ?_ | refine OD.alloc rfl rfl rfl rfl (fun _ => ?_) | refine OD.storeW 0 rfl rfl rfl rfl (by first | rfl | exact net_ok _) rfl rfl rfl ?_ | (rw [ex1]; refine OD.append 0 (xs := X.map intAV) (ys := [.int .i64 (atL R n.regs.xs[i].next)]) rfl rfl rfl rfl (by rw [List.isEmpty_map]; rfl) rfl rfl rfl rfl rfl rfl (.inr ⟨⟨_, rfl⟩, rfl⟩) (fun _ => rfl) rfl rfl (roomB rfl (by simp only [List.length_map, List.length_singleton]; omega)) (fun t' => ?_))) | refine OS.nil ?_ | refine WS.seq ?_ | refine QS.seqN ?_ | refine WS.region ?_ | refine WS.draw rfl rfl ?_)
    rw [hgm, List.isEmpty_map]
    exact QS.rangeX ((t', X ++ [atL R n.regs.xs[i].next])) (by (try dsimp only) <;> exact (by rw [map_take_succ hi, hX])) (hL := by (try dsimp only); exact SubO.drop (SubO.refl _))
  rintro ⟨tx, X⟩ hX
  try dsimp only at hX
  rw [List.take_of_length_le (Nat.le_refl _)] at hX
  dsimp only [RSt.at, List.cons_append, List.nil_append]
  repeat' (first | (refine OS.do rfl ?_; first | refine OD.auto rfl rfl ?_) | refine OS.nil ?_ | refine WS.seq ?_ | refine QS.seqN ?_ | refine WS.region ?_ | refine WS.ret ?_)
  refine QS.retR (by rfl) fun _ => ⟨free_acc int_free, ?_⟩
  have e : sharedL n c.xs = X := by
    unfold sharedL GNet.nexts
    rw [hmade, hX, List.map_map]; rfl
  rw [plain_acc int_plain, e]
theorem con69 (h1 : pr 69 = none) (h113 : pr 113 = none) (h31 : Has pr 31 Rel31) (h98 : pr 98 = none) (h126 : pr 126 = none) (h72 : Has pr 72 Rel72) (h73 : Has pr 73 Rel73) : Con2 (En pr) 69 Rel69 := con_of (fun d => by simp [AV.freeL, net_free, free_av nat_free]) fun d hd st => run69 h1 h113 h31 h98 h126 h72 h73 d.1 hd.1.1 hd.1.2 d.2 hd.2.1 hd.2.2 st
end
end Go.OptEnv
