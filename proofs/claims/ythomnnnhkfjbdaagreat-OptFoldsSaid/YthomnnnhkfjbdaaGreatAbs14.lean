/- Own text of this claim: part 14 of an interpreter that is proved sound against the model, and of what it shows of the law. -/
import Derived.Test.YthomnnnhkfjbdaaGreatAbs13
/- What outputs need, found in passes. -/
namespace Go.OptEnv
open Go Go.Proofs Go.Abs Go.RowKit Go.NetM
set_option maxRecDepth 10000
def GNet.k0 (n : GNet) : Nat := 1 + n.ins.xs.length
def GNet.olits (n : GNet) : List Int := n.outs.xs.map (·.lit)
def GNet.Need (n : GNet) (j : Nat) : Prop := Nd n.k0 n.kN n.gates.xs n.nexts n.olits j
noncomputable def needN (n : GNet) : List Bool := needL n.k0 n.kN n.gates.xs n.nexts n.olits
def clP (n : GNet) (v : List Bool) (i : Nat) : Prop := clG n.kN n.gates.xs v i
def clQ (n : GNet) (v : List Bool) (i : Nat) : Prop := clG n.kN n.gates.xs v n.gates.xs.length ∧ clR n.k0 n.nexts v i
def Rel56 : Rel := RelF (fun n => validM n = true) (fun n => [netAV n]) fun n => (GSl.some (needN n)).av 1 boolAV
attribute [local irreducible] WS QS OS OD Abs.Sub SubO SubK CW GSl.av accA growA
section
variable {pr : Prims}
set_option maxHeartbeats 1000000 in
theorem run56 (h1 : pr 56 = none) (n : GNet) (hV : validM n = true) (st : St) :
    CW (En pr) 56 [netAV n] st fun r st' => ∃ r' st2, freezeA st' r = some (r', st2) ∧ AV.plain r' = (GSl.some (needN n)).av 1 boolAV ∧ AV.free r' = true := by
  obtain ⟨f1, f2, f4, f3⟩ := valid_len hV
  obtain ⟨hg, hlr, hlo⟩ := valid_lits hV
  have e1 := wrap64 (n := 1 + (n.ins.xs.length : Int)) (by omega) (by omega)
  have e2 := wrap64 (n := 1 + (n.ins.xs.length : Int) + (n.regs.xs.length : Int)) (by omega) (by omega)
  have e3 := wrap64 (n := 1 + (n.ins.xs.length : Int) + (n.regs.xs.length : Int) + (n.gates.xs.length : Int)) (by omega) (by omega)
  have hk0 : (n.k0 : Int) = 1 + n.ins.xs.length := by unfold GNet.k0; omega
  have hk : (n.kN : Int) = 1 + n.ins.xs.length + n.regs.xs.length := by unfold GNet.kN; omega
  have hk' : n.kN = n.k0 + n.regs.xs.length := rfl
  have hw : IntKind.i64.wrap (IntKind.i64.wrap (IntKind.i64.wrap (1 + (n.ins.xs.length : Int)) + (n.regs.xs.length : Int)) + (n.gates.xs.length : Int)) = ((n.kN + n.gates.xs.length : Nat) : Int) := by rw [e1, e2, e3]; omega
  refine CW.start (N := 116) h1 rfl rfl ?_
  repeat' (first | (refine OS.do rfl ?_; first | refine OD.box rfl rfl rfl rfl (net_ok _) rfl (fun b1 => ?_) | refine OD.loadP 0 rfl rfl rfl rfl rfl rfl ?_ | refine OD.auto rfl rfl ?_ | refine OD.loadP 1 rfl rfl rfl rfl rfl rfl ?_ | refine OD.len rfl rfl (fun _ => lenTy_av rfl rfl) ?_ | refine OD.makeSlice (n := n.kN + n.gates.xs.length) rfl (congrArg (fun z => some (AV.int .i64 z)) hw) (congrArg (fun z => some (AV.int .i64 z)) hw) rfl rfl rfl rfl rfl (roomB rfl (by unfold GNet.kN; omega)) (fun ob => ?_)) | refine OS.nil ?_ | refine WS.seq ?_ | refine QS.seqN ?_ | refine WS.region ?_ | refine WS.block ?_)
  rw [e1, ← hk0, show IntKind.i64.wrap ((n.k0 : Int) + n.regs.xs.length) = (n.kN : Int) by rw [wrap64 (by omega) (by omega)]; omega, show List.replicate (n.kN + n.gates.xs.length) ty4.zeroV = (List.replicate (n.kN + n.gates.xs.length) false).map boolAV from rep_bool _]
  have half : ∀ l : Int, 0 ≤ l ∧ l < 2 * ((n.kN + n.gates.xs.length : Nat) : Int) → indexAddrA (En pr) 69 (.sl ty4.size ob 0 (n.kN + n.gates.xs.length)) (.int .i64 (IntKind.i64.wrap (l.tdiv 2))) = some (.ptr ob (l / 2).toNat 0) := fun l h => by
    have : IntKind.i64.wrap (l.tdiv 2) = (((l / 2).toNat : Nat) : Int) := by
      rw [Int.tdiv_eq_ediv_of_nonneg h.1, wrap64 (by omega) (by omega)]; omega
    rw [this]
    exact indexAddrA_sl rfl rfl rfl rfl (by omega)
  have hbr : ∀ {v : List Bool} {j : Nat}, j < v.length → (v.map boolAV)[j]? = some (.bool (v.getD j false)) := fun {v j} h => by
    rw [List.getElem?_map, List.getD_eq_getElem?_getD, List.getElem?_eq_getElem h]; rfl
  have hst : ∀ {v : List Bool} {j : Nat}, (v.map boolAV).set j (.bool true) = (v.set j true).map boolAV := fun {v j} => by rw [List.map_set]; rfl
  have hz : ∀ (k j : Nat), (List.replicate k false).getD j false = false := fun k j => by
    rw [List.getD_eq_getElem?_getD, List.getElem?_replicate]; split <;> rfl
  have hnl : n.nexts.length = n.regs.xs.length := by unfold GNet.nexts; rw [List.length_map]
  refine WS.range (A := List Bool) (n := n.outs.xs.length) ⟨29, _, fun _ => [], fun v => [(ob, .row ty4.size (v.map boolAV)), (b1, .row ty27.size [netAV n])], fun _ => [], fun i v => v.length = n.kN + n.gates.xs.length ∧ (∀ j, v.getD j false = true → n.Need j) ∧ ∀ j, (h : j < n.outs.xs.length) → j < i → v.getD (n.outs.xs[j].lit / 2).toNat false = true⟩ (List.replicate (n.kN + n.gates.xs.length) false) [1, 3, 4, 27, 28] (by rfl) (by omega) (⟨List.length_replicate, fun j h => (by rw [hz] at h; cases h), fun j _ h => absurd h (by omega)⟩) (by rfl) (by (try dsimp only); repeat' (first | exact Sub.nil _ | refine Sub.cons (congrArg (fun z => some (AV.int .i64 z)) (wrap_succ (by omega))) ?_ | refine Sub.cons rfl ?_)) (by (try dsimp only); repeat' (first | exact SubO.nil _ | exact SubO.refl _ | refine SubO.keep ?_ | refine SubO.drop ?_)) (by (try dsimp only); repeat' (first | exact SubK.nil _ | exact SubK.refl _ | refine SubK.keep (by simp) ?_ | refine SubK.new ?_ | refine SubK.drop ?_)) (by rfl) (by rfl) (by rfl) (by rfl) (by rfl) (by rfl) (fun _ _ => by rfl) (fun _ => by rfl) (fun _ _ => by rfl) (fun _ _ => by rfl) ?_ ?_
  · rintro i v hi ⟨hvl, hs, ho⟩
    try dsimp only at hvl hs ho
    have hlm := hlo _ (List.getElem_mem hi)
    have hb := hbr (v := v) (j := (n.outs.xs[i].lit / 2).toNat) (by omega)
    dsimp only [RSt.at, List.cons_append, List.nil_append]
    repeat' (first | (refine OS.do rfl ?_; first | refine OD.indexAddr rfl rfl rfl (half _ hlm) ?_ | refine OD.loadP 0 rfl rfl rfl rfl rfl rfl ?_ | refine OD.auto rfl rfl ?_ | refine OD.indexAddr rfl rfl rfl (indexAddrA_nat rfl rfl rfl rfl (by first | assumption | exact List.getElem?_eq_getElem (by omega))) ?_ | refine OD.alloc rfl rfl rfl rfl (fun _ => ?_) | refine OD.storeW 0 rfl rfl rfl rfl (by first | rfl | exact net_ok _) rfl rfl rfl ?_ | refine OD.storeB 1 rfl rfl rfl rfl rfl hb ?_) | refine OS.nil ?_ | refine WS.seq ?_ | refine QS.seqN ?_ | refine WS.region ?_)
    refine QS.rangeN (v.set (n.outs.xs[i].lit / 2).toNat true) (by (try dsimp only) <;> exact (⟨by rw [List.length_set]; exact hvl, fun j hj => (by
      rcases set_getB.1 hj with hj | ⟨rfl, _⟩
      · exact hs j hj
      · exact .out (l := n.outs.xs[i].lit) (by unfold GNet.olits; exact List.mem_map_of_mem (List.getElem_mem hi))), fun j hj hji => (by
      by_cases e : j = i
      · subst e; exact set_getB.2 (.inr ⟨rfl, by omega⟩)
      · exact set_getB.2 (.inl (ho j hj (by omega))))⟩)) (by (try dsimp only [RSt.at, List.cons_append, List.nil_append]); repeat' (first | exact Sub.nil _ | refine Sub.cons (congrArg (fun z => some (AV.int .i64 z)) (wrap_succ (by omega))) ?_ | refine Sub.cons rfl ?_)) (by (try dsimp only); rw [← hst]; exact SubO.drop (SubO.refl _)) (by (try dsimp only); repeat' (first | exact SubK.nil _ | exact SubK.refl _ | refine SubK.keep (by simp) ?_ | refine SubK.new ?_ | refine SubK.drop ?_))
  rintro v0 ⟨hv0l, hv0s, hv0o⟩
  try dsimp only at hv0l hv0s hv0o
  dsimp only [RSt.at, List.cons_append, List.nil_append]
  repeat' (first | (refine OS.do rfl ?_; first | refine OD.auto rfl rfl ?_) | refine OS.nil ?_ | refine WS.seq ?_ | refine QS.seqN ?_ | refine WS.region ?_ | refine WS.block ?_)
  refine WS.loopK (D := List Bool × Bool) [1, 3, 4] (by rfl) (fun d => [(7, .bool d.2)]) (fun d => [(ob, .row ty4.size (d.1.map boolAV)), (b1, .row ty27.size [netAV n])]) (fun _ => []) (fun d => d.1.length = n.kN + n.gates.xs.length ∧ (∀ j, d.1.getD j false = true → n.Need j) ∧ (∀ j, (h : j < n.outs.xs.length) → d.1.getD (n.outs.xs[j].lit / 2).toNat false = true) ∧ (d.2 = false → clQ n d.1 n.regs.xs.length)) (fun d => if d.2 = true then offN d.1 + 1 else 0) ((v0, true)) (⟨hv0l, hv0s, fun j h => hv0o j h h, fun h => by cases h⟩) (by (try dsimp only); repeat' (first | exact Sub.nil _ | refine Sub.cons (congrArg (fun z => some (AV.int .i64 z)) (wrap_succ (by omega))) ?_ | refine Sub.cons rfl ?_)) (by (try dsimp only); repeat' (first | exact SubO.nil _ | exact SubO.refl _ | refine SubO.keep ?_ | refine SubO.drop ?_)) (by (try dsimp only); repeat' (first | exact SubK.nil _ | exact SubK.refl _ | refine SubK.keep (by simp) ?_ | refine SubK.new ?_ | refine SubK.drop ?_)) ?_
  rintro ⟨v, ag⟩ ⟨hvl, hvs, hvo, hvc⟩
  try dsimp only at hvl hvs hvo hvc
  cases ag with
  | false =>
    have hd : v = needN n := need_done hvl hvs (fun l hl => (by
      obtain ⟨p, hp, rfl⟩ := List.mem_map.1 hl
      obtain ⟨j, hj, rfl⟩ := List.getElem_of_mem hp
      exact hvo j hj)) (hvc rfl).1 (by rw [hnl]; exact (hvc rfl).2)
    dsimp only [RSt.at, List.cons_append, List.nil_append]
    repeat' (first | (refine OS.do rfl ?_; first | refine OD.auto rfl rfl ?_) | refine OS.nil ?_ | refine WS.seq ?_ | refine QS.seqN ?_ | refine WS.region ?_ | refine WS.condF rfl ?_ | refine WS.ret ?_ | refine WS.exit ?_ | refine QS.seqE ?_ | refine QS.blockH ?_ | refine QS.loopE ?_)
    refine QS.retRS (by rfl) fun st hs => ?_
    obtain ⟨z1, z2⟩ := freeze_sl (n := n.kN + n.gates.xs.length) (by rw [List.length_map, hvl]) hs
    refine ⟨_, _, z1, ?_, ?_⟩
    · rw [plain_some bool_plain, ← hd]; rfl
    · simp only [AV.free]; exact freeL_map bool_free v
  | true =>
    clear hvc
    dsimp only [RSt.at, List.cons_append, List.nil_append]
    repeat' (first | (refine OS.do rfl ?_; first | refine OD.auto rfl rfl ?_ | refine OD.loadP 1 rfl rfl rfl rfl rfl rfl ?_ | refine OD.len rfl rfl (fun _ => lenTy_av rfl rfl) ?_) | refine OS.nil ?_ | refine WS.seq ?_ | refine QS.seqN ?_ | refine WS.region ?_ | refine WS.condT rfl ?_ | refine WS.skip ?_ | refine WS.block ?_)
    refine WS.range (A := List Bool × Bool) (n := n.gates.xs.length) ⟨43, _, fun d => [(7, .bool d.2)], fun d => [(ob, .row ty4.size (d.1.map boolAV)), (b1, .row ty27.size [netAV n])], fun _ => [], fun i d => Pass (n.kN + n.gates.xs.length) n.Need v d.1 d.2 (clP n v i)⟩ ((v, false)) [1, 3, 4, 41, 42] (by rfl) (by omega) (Pass.begin hvl hvs fun j _ h => absurd h (by omega)) (by rfl) (by (try dsimp only); repeat' (first | exact Sub.nil _ | refine Sub.cons (congrArg (fun z => some (AV.int .i64 z)) (wrap_succ (by omega))) ?_ | refine Sub.cons rfl ?_)) (by (try dsimp only); repeat' (first | exact SubO.nil _ | exact SubO.refl _ | refine SubO.keep ?_ | refine SubO.drop ?_)) (by (try dsimp only); repeat' (first | exact SubK.nil _ | exact SubK.refl _ | refine SubK.keep (by simp) ?_ | refine SubK.new ?_ | refine SubK.drop ?_)) (by rfl) (by rfl) (by rfl) (by rfl) (by rfl) (by rfl) (fun _ _ => by rfl) (fun _ => by rfl) (fun _ _ => by rfl) (fun _ _ => by rfl) ?_ ?_
    · rintro i ⟨w, ag⟩ hi hP
      try dsimp only at hP
      have hwl := hP.len
      obtain ⟨g1, g2⟩ := hg i (by omega)
      have hki : indexAddrA (En pr) 69 (.sl ty4.size ob 0 (n.kN + n.gates.xs.length)) (.int .i64 (IntKind.i64.wrap (IntKind.i64.wrap ((n.k0 : Int) + n.regs.xs.length) + (i : Int)))) = some (.ptr ob (n.kN + i) 0) := by
        rw [show IntKind.i64.wrap ((n.k0 : Int) + n.regs.xs.length) = (n.kN : Int) by rw [wrap64 (by omega) (by omega)]; omega, show IntKind.i64.wrap ((n.kN : Int) + (i : Int)) = ((n.kN + i : Nat) : Int) by rw [wrap64 (by omega) (by omega)]; omega]
        exact indexAddrA_sl rfl rfl rfl rfl (by omega)
      have b0 := hbr (v := w) (j := n.kN + i) (by omega)
      have b1' := hbr (v := w) (j := (n.gates.xs[i].1 / 2).toNat) (by omega)
      have b2' := hbr (v := w) (j := (n.gates.xs[i].2 / 2).toNat) (by omega)
      have b2 := hbr (v := w.set (n.gates.xs[i].1 / 2).toNat true) (j := (n.gates.xs[i].2 / 2).toNat) (by rw [List.length_set]; omega)
      rw [← hst] at b2
      dsimp only [RSt.at, List.cons_append, List.nil_append]
      have done : (w.getD (n.gates.xs[i].1 / 2).toNat false = false ∨ w.getD (n.gates.xs[i].2 / 2).toNat false = false) → w.getD (n.kN + i) false = true → Pass (n.kN + n.gates.xs.length) n.Need v ((w.set (n.gates.xs[i].1 / 2).toNat true).set (n.gates.xs[i].2 / 2).toNat true) true (clP n v (i + 1)) := fun hn hm =>
        hP.two (by omega) (by omega) hn (.g1 hi (hP.sound _ hm)) (.g2 hi (hP.sound _ hm))
      have stay : (w.getD (n.kN + i) false = true → w.getD (n.gates.xs[i].1 / 2).toNat false = true ∧ w.getD (n.gates.xs[i].2 / 2).toNat false = true) → Pass (n.kN + n.gates.xs.length) n.Need v w ag (clP n v (i + 1)) := fun h => hP.none fun ew hc j hj hji hm => by
        by_cases e : j = i
        · subst e; rw [← ew] at hm ⊢; exact h hm
        · exact hc j hj (by omega) hm
      repeat' (first | (refine OS.do rfl ?_; first | refine OD.indexAddr rfl rfl rfl hki ?_ | refine OD.loadP 1 rfl rfl rfl b0 rfl rfl ?_ | refine OD.loadP 1 rfl rfl rfl b1' rfl rfl ?_ | refine OD.loadP 1 rfl rfl rfl b2' rfl rfl ?_ | refine OD.indexAddr rfl rfl rfl (half _ (by omega)) ?_ | refine OD.loadP 0 rfl rfl rfl rfl rfl rfl ?_ | refine OD.auto rfl rfl ?_ | refine OD.len rfl rfl (fun _ => lenTy_av rfl rfl) ?_ | refine OD.indexAddr rfl rfl rfl (indexAddrA_nat rfl rfl rfl rfl (by first | assumption | exact List.getElem?_eq_getElem (by omega))) ?_ | refine OD.loadP 2 rfl rfl rfl rfl rfl rfl ?_ | refine OD.alloc rfl rfl rfl rfl (fun _ => ?_) | refine OD.storeW 0 rfl rfl rfl rfl (by first | rfl | exact net_ok _) rfl rfl rfl ?_ | refine OD.indexAddr rfl rfl rfl rfl ?_) | refine OS.nil ?_ | refine OS.skip rfl rfl rfl ?_ | refine WS.seq ?_ | refine QS.seqN ?_ | refine WS.region ?_ | refine WS.condT rfl ?_ | refine WS.condF rfl ?_ | refine WS.skip ?_ | refine WS.condN rfl (fun _ => ?_) (fun _ => ?_) | ((fail_if_success (refine OS.do rfl ?_)); first | refine OS.split rfl rfl rfl (fun _ => ?_) (fun _ => ?_)))
      · refine WS.objs SubO.swap ?_
        refine WS.drawX 10 [(ob, .row ty4.size (w.map boolAV))] [] (K := []) rfl rfl rfl rfl ?_; (repeat' (first | refine SegY.nil ?_ | refine SegY.loadP 0 rfl rfl rfl rfl rfl rfl rfl ?_ | refine SegY.indexAddr rfl rfl rfl rfl (half _ (by omega)) ?_ | refine SegY.storeB 0 rfl rfl rfl rfl rfl rfl b1' ?_ | refine SegY.auto rfl rfl rfl rfl ?_ | refine SegY.loadP 0 rfl rfl rfl rfl rfl rfl rfl ?_ | refine SegY.loadP 1 rfl rfl rfl rfl rfl rfl rfl ?_ | refine SegY.loadP 2 rfl rfl rfl rfl rfl rfl rfl ?_ | refine SegY.indexAddr rfl rfl rfl rfl rfl ?_))
        repeat' (first | (refine OS.do rfl ?_; first | refine OD.indexAddr rfl rfl rfl (half _ (by omega)) ?_ | refine OD.auto rfl rfl ?_ | refine OD.storeB 0 rfl rfl rfl rfl rfl b2 ?_) | refine OS.nil ?_)
        dsimp only [List.set_cons_zero, List.cons_append, List.nil_append]
        rw [hst, hst]
        refine QS.rangeN (((w.set (n.gates.xs[i].1 / 2).toNat true).set (n.gates.xs[i].2 / 2).toNat true, true)) (by (try dsimp only) <;> exact (done (by first | exact .inr (by assumption) | exact .inl (by assumption)) (by assumption))) (by (try dsimp only [RSt.at, List.cons_append, List.nil_append]); repeat' (first | exact Sub.nil _ | refine Sub.cons (congrArg (fun z => some (AV.int .i64 z)) (wrap_succ (by omega))) ?_ | refine Sub.cons rfl ?_)) (by (try dsimp only); refine SubO.keep (SubO.drop (SubO.refl _))) (by (try dsimp only); repeat' (first | exact SubK.nil _ | exact SubK.refl _ | refine SubK.keep (by simp) ?_ | refine SubK.new ?_ | refine SubK.drop ?_))
      · refine QS.rangeN ((w, ag)) (by (try dsimp only) <;> exact (stay (by first | exact fun _ => ⟨by assumption, by assumption⟩ | exact fun hm => absurd (hm.symm.trans (show w.getD (n.kN + i) false = false by assumption)) (by simp)))) (by (try dsimp only [RSt.at, List.cons_append, List.nil_append]); repeat' (first | exact Sub.nil _ | refine Sub.cons (congrArg (fun z => some (AV.int .i64 z)) (wrap_succ (by omega))) ?_ | refine Sub.cons rfl ?_)) (by (try dsimp only); refine SubO.drop (SubO.refl _)) (by (try dsimp only); repeat' (first | exact SubK.nil _ | exact SubK.refl _ | refine SubK.keep (by simp) ?_ | refine SubK.new ?_ | refine SubK.drop ?_))
      · refine WS.objs SubO.swap ?_
        refine WS.drawX 10 [(ob, .row ty4.size (w.map boolAV))] [] (K := []) rfl rfl rfl rfl ?_; (repeat' (first | refine SegY.nil ?_ | refine SegY.loadP 0 rfl rfl rfl rfl rfl rfl rfl ?_ | refine SegY.indexAddr rfl rfl rfl rfl (half _ (by omega)) ?_ | refine SegY.storeB 0 rfl rfl rfl rfl rfl rfl b1' ?_ | refine SegY.auto rfl rfl rfl rfl ?_ | refine SegY.loadP 0 rfl rfl rfl rfl rfl rfl rfl ?_ | refine SegY.loadP 1 rfl rfl rfl rfl rfl rfl rfl ?_ | refine SegY.loadP 2 rfl rfl rfl rfl rfl rfl rfl ?_ | refine SegY.indexAddr rfl rfl rfl rfl rfl ?_))
        repeat' (first | (refine OS.do rfl ?_; first | refine OD.indexAddr rfl rfl rfl (half _ (by omega)) ?_ | refine OD.auto rfl rfl ?_ | refine OD.storeB 0 rfl rfl rfl rfl rfl b2 ?_) | refine OS.nil ?_)
        dsimp only [List.set_cons_zero, List.cons_append, List.nil_append]
        rw [hst, hst]
        refine QS.rangeN (((w.set (n.gates.xs[i].1 / 2).toNat true).set (n.gates.xs[i].2 / 2).toNat true, true)) (by (try dsimp only) <;> exact (done (by first | exact .inr (by assumption) | exact .inl (by assumption)) (by assumption))) (by (try dsimp only [RSt.at, List.cons_append, List.nil_append]); repeat' (first | exact Sub.nil _ | refine Sub.cons (congrArg (fun z => some (AV.int .i64 z)) (wrap_succ (by omega))) ?_ | refine Sub.cons rfl ?_)) (by (try dsimp only); refine SubO.keep (SubO.drop (SubO.refl _))) (by (try dsimp only); repeat' (first | exact SubK.nil _ | exact SubK.refl _ | refine SubK.keep (by simp) ?_ | refine SubK.new ?_ | refine SubK.drop ?_))
      · refine QS.rangeN ((w, ag)) (by (try dsimp only) <;> exact (stay (by first | exact fun _ => ⟨by assumption, by assumption⟩ | exact fun hm => absurd (hm.symm.trans (show w.getD (n.kN + i) false = false by assumption)) (by simp)))) (by (try dsimp only [RSt.at, List.cons_append, List.nil_append]); repeat' (first | exact Sub.nil _ | refine Sub.cons (congrArg (fun z => some (AV.int .i64 z)) (wrap_succ (by omega))) ?_ | refine Sub.cons rfl ?_)) (by (try dsimp only); refine SubO.drop (SubO.refl _)) (by (try dsimp only); repeat' (first | exact SubK.nil _ | exact SubK.refl _ | refine SubK.keep (by simp) ?_ | refine SubK.new ?_ | refine SubK.drop ?_))
    rintro ⟨w, ag⟩ hw0
    try dsimp only at hw0
    dsimp only [RSt.at, List.cons_append, List.nil_append]
    repeat' (first | (refine OS.do rfl ?_; first | refine OD.auto rfl rfl ?_ | refine OD.loadP 1 rfl rfl rfl rfl rfl rfl ?_ | refine OD.len rfl rfl (fun _ => lenTy_av rfl rfl) ?_) | refine OS.nil ?_ | refine WS.seq ?_ | refine QS.seqN ?_ | refine WS.region ?_ | refine WS.block ?_)
    refine WS.range (A := List Bool × Bool) (n := n.regs.xs.length) ⟨89, _, fun d => [(7, .bool d.2)], fun d => [(ob, .row ty4.size (d.1.map boolAV)), (b1, .row ty27.size [netAV n])], fun _ => [], fun i d => Pass (n.kN + n.gates.xs.length) n.Need v d.1 d.2 (clQ n v i)⟩ ((w, ag)) [1, 3, 4, 87, 88] (by rfl) (by omega) (hw0.none fun _ h => ⟨h, fun j _ h => absurd h (by omega)⟩) (by rfl) (by (try dsimp only); repeat' (first | exact Sub.nil _ | refine Sub.cons (congrArg (fun z => some (AV.int .i64 z)) (wrap_succ (by omega))) ?_ | refine Sub.cons rfl ?_)) (by (try dsimp only); repeat' (first | exact SubO.nil _ | exact SubO.refl _ | refine SubO.keep ?_ | refine SubO.drop ?_)) (by (try dsimp only); repeat' (first | exact SubK.nil _ | exact SubK.refl _ | refine SubK.keep (by simp) ?_ | refine SubK.new ?_ | refine SubK.drop ?_)) (by rfl) (by rfl) (by rfl) (by rfl) (by rfl) (by rfl) (fun _ _ => by rfl) (fun _ => by rfl) (fun _ _ => by rfl) (fun _ _ => by rfl) ?_ ?_
    · clear hw0
      rintro i ⟨w, ag⟩ hi hP
      try dsimp only at hP
      have hwl := hP.len
      have hlm := hlr _ (List.getElem_mem hi)
      have hin : i < n.nexts.length := by omega
      have hx : n.nexts[i] = n.regs.xs[i].next := by simp [GNet.nexts]
      have hki : indexAddrA (En pr) 69 (.sl ty4.size ob 0 (n.kN + n.gates.xs.length)) (.int .i64 (IntKind.i64.wrap ((n.k0 : Int) + (i : Int)))) = some (.ptr ob (n.k0 + i) 0) := by
        rw [show IntKind.i64.wrap ((n.k0 : Int) + (i : Int)) = ((n.k0 + i : Nat) : Int) by rw [wrap64 (by omega) (by omega)]; omega]
        exact indexAddrA_sl rfl rfl rfl rfl (by omega)
      have b0 := hbr (v := w) (j := n.k0 + i) (by omega)
      have b1' := hbr (v := w) (j := (n.regs.xs[i].next / 2).toNat) (by omega)
      have done : w.getD (n.regs.xs[i].next / 2).toNat false = false → w.getD (n.k0 + i) false = true → Pass (n.kN + n.gates.xs.length) n.Need v (w.set (n.regs.xs[i].next / 2).toNat true) true (clQ n v (i + 1)) := fun hn hm =>
        hP.one (by omega) hn (by rw [← hx]; exact .reg hin (hP.sound _ hm))
      have stay : (w.getD (n.k0 + i) false = true → w.getD (n.regs.xs[i].next / 2).toNat false = true) → Pass (n.kN + n.gates.xs.length) n.Need v w ag (clQ n v (i + 1)) := fun h => hP.none fun ew hc => ⟨hc.1, fun j hj hji hm => by
        by_cases e : j = i
        · subst e; rw [← ew] at hm ⊢; rw [hx]; exact h hm
        · exact hc.2 j hj (by omega) hm⟩
      dsimp only [RSt.at, List.cons_append, List.nil_append]
      repeat' (first | (refine OS.do rfl ?_; first | refine OD.indexAddr rfl rfl rfl hki ?_ | refine OD.loadP 1 rfl rfl rfl b0 rfl rfl ?_ | refine OD.loadP 1 rfl rfl rfl b1' rfl rfl ?_ | refine OD.indexAddr rfl rfl rfl (half _ (by omega)) ?_ | refine OD.loadP 0 rfl rfl rfl rfl rfl rfl ?_ | refine OD.auto rfl rfl ?_ | refine OD.indexAddr rfl rfl rfl (indexAddrA_nat rfl rfl rfl rfl (by first | assumption | exact List.getElem?_eq_getElem (by omega))) ?_ | refine OD.alloc rfl rfl rfl rfl (fun _ => ?_) | refine OD.storeW 0 rfl rfl rfl rfl (by first | rfl | exact net_ok _) rfl rfl rfl ?_ | refine OD.storeB 1 rfl rfl rfl rfl rfl b1' ?_) | refine OS.nil ?_ | refine OS.skip rfl rfl rfl ?_ | refine WS.seq ?_ | refine QS.seqN ?_ | refine WS.region ?_ | refine WS.condF rfl ?_ | refine WS.skip ?_ | refine WS.condN rfl (fun _ => ?_) (fun _ => ?_) | ((fail_if_success (refine OS.do rfl ?_)); first | refine OS.split rfl rfl rfl (fun _ => ?_) (fun _ => ?_)))
      · dsimp only [List.set_cons_zero, List.set_cons_succ]
        rw [hst]
        refine QS.rangeN ((w.set (n.regs.xs[i].next / 2).toNat true, true)) (by (try dsimp only) <;> exact (done (by assumption) (by assumption))) (by (try dsimp only [RSt.at, List.cons_append, List.nil_append]); repeat' (first | exact Sub.nil _ | refine Sub.cons (congrArg (fun z => some (AV.int .i64 z)) (wrap_succ (by omega))) ?_ | refine Sub.cons rfl ?_)) (by (try dsimp only); refine SubO.drop (SubO.refl _)) (by (try dsimp only); repeat' (first | exact SubK.nil _ | exact SubK.refl _ | refine SubK.keep (by simp) ?_ | refine SubK.new ?_ | refine SubK.drop ?_))
      · refine QS.rangeN ((w, ag)) (by (try dsimp only) <;> exact (stay (fun _ => by assumption))) (by (try dsimp only [RSt.at, List.cons_append, List.nil_append]); repeat' (first | exact Sub.nil _ | refine Sub.cons (congrArg (fun z => some (AV.int .i64 z)) (wrap_succ (by omega))) ?_ | refine Sub.cons rfl ?_)) (by (try dsimp only); refine SubO.drop (SubO.refl _)) (by (try dsimp only); repeat' (first | exact SubK.nil _ | exact SubK.refl _ | refine SubK.keep (by simp) ?_ | refine SubK.new ?_ | refine SubK.drop ?_))
      · refine QS.rangeN ((w, ag)) (by (try dsimp only) <;> exact (stay (fun hm => absurd (hm.symm.trans (show w.getD (n.k0 + i) false = false by assumption)) (by simp)))) (by (try dsimp only [RSt.at, List.cons_append, List.nil_append]); repeat' (first | exact Sub.nil _ | refine Sub.cons (congrArg (fun z => some (AV.int .i64 z)) (wrap_succ (by omega))) ?_ | refine Sub.cons rfl ?_)) (by (try dsimp only); refine SubO.drop (SubO.refl _)) (by (try dsimp only); repeat' (first | exact SubK.nil _ | exact SubK.refl _ | refine SubK.keep (by simp) ?_ | refine SubK.new ?_ | refine SubK.drop ?_))
    rintro ⟨w2, ag2⟩ hP
    try dsimp only at hP
    dsimp only [RSt.at, List.cons_append, List.nil_append]
    repeat' (first | refine QS.blockN ?_)
    refine QS.loopN ((w2, ag2)) (by exact (⟨hP.len, hP.sound, fun j hj => hP.mono _ (hvo j hj), fun h => (by have := (hP.no h); rw [this.1]; exact this.2)⟩)) (by exact (by (cases ag2 with | false => simp | true => (have := hP.yes rfl; simp; omega)))) (by (try dsimp only [List.cons_append, List.nil_append]); repeat' (first | exact Sub.nil _ | refine Sub.cons (congrArg (fun z => some (AV.int .i64 z)) (wrap_succ (by omega))) ?_ | refine Sub.cons rfl ?_)) (by (try dsimp only); repeat' (first | exact SubO.nil _ | exact SubO.refl _ | refine SubO.keep ?_ | refine SubO.drop ?_)) (by (try dsimp only); repeat' (first | exact SubK.nil _ | exact SubK.refl _ | refine SubK.keep (by simp) ?_ | refine SubK.new ?_ | refine SubK.drop ?_))
theorem con56 (h1 : pr 56 = none) : Con2 (En pr) 56 Rel56 := con_ofz (fun d => by simp [AV.freeL, net_free]) fun d hd st => run56 h1 d hd st
theorem use56 (h : Has pr 56 Rel56) {n : GNet} (hv : validM n = true) (st : St) : primOf Rel56 [netAV n] st = some ((GSl.some (needN n)).av 1 boolAV, st) := h.use ⟨n, hv, by simp [AV.plainL, net_plain], rfl⟩ st
end
end Go.OptEnv

/- The nodes that stay: the literals that stand for all, in plain Lean. -/
namespace Go.NetM
theorem selR_range {k0 : Nat} {keep : List Bool} {s : List Int × Nat} {j : Nat} (hk : 0 < k0) (ih : 0 ≤ s.1.getD j 0 ∧ s.1.getD j 0 < 2 * ((k0 + s.2 : Nat) : Int)) : 0 ≤ (selR k0 keep s).1.getD j 0 ∧ (selR k0 keep s).1.getD j 0 < 2 * ((k0 + (selR k0 keep s).2 : Nat) : Int) := by
  unfold selR
  split
  · simp only [getD_snocI]
    split
    · omega
    · split <;> omega
  · simp only [getD_snocI]
    split
    · omega
    · split <;> omega
theorem selRM_range {k0 : Nat} (hk : 0 < k0) {keep : List Bool} : ∀ i j, 0 ≤ (selRM k0 keep i).1.getD j 0 ∧ (selRM k0 keep i).1.getD j 0 < 2 * ((k0 + (selRM k0 keep i).2 : Nat) : Int)
  | 0, j => idL_range hk j
  | i + 1, j => selR_range hk (selRM_range hk i j)
theorem sel_ok {k0 nregs : Nat} (hk : 0 < k0) {keep : List Bool} (gs : List (Int × Int)) : ∀ i, i ≤ gs.length → ShOk (k0 + (selRM k0 keep nregs).2) (k0 + nregs + i) i (selM k0 nregs keep (gs.take i))
  | 0, _ => by
    have := ShOk.zero (k := k0 + (selRM k0 keep nregs).2) (all0 := (selRM k0 keep nregs).1) (selRM_range hk nregs)
    rw [selRM_len] at this
    exact this
  | i + 1, h => by
    rw [selM_succ (by omega)]
    exact (sel_ok hk gs i (by omega)).keepS (by omega) _
/-- One more register. -/
theorem selRM_yes {k0 : Nat} {keep : List Bool} {i c : Nat} {lits : List Int} (h : (lits, c) = selRM k0 keep i) (hk : keep.getD (k0 + i) false = true) : selRM k0 keep (i + 1) = (lits ++ [2 * ((k0 + c : Nat) : Int)], c + 1) := by
  have hl := selRM_len (k0 := k0) (keep := keep) i
  show selR k0 keep (selRM k0 keep i) = _
  rw [← h] at hl ⊢
  unfold selR
  rw [if_pos (by dsimp only at hl ⊢; rw [hl]; exact hk)]
theorem selRM_no {k0 : Nat} {keep : List Bool} {i c : Nat} {lits : List Int} (h : (lits, c) = selRM k0 keep i) (hk : keep.getD (k0 + i) false = false) : selRM k0 keep (i + 1) = (lits ++ [0], c) := by
  have hl := selRM_len (k0 := k0) (keep := keep) i
  show selR k0 keep (selRM k0 keep i) = _
  rw [← h] at hl ⊢
  unfold selR
  rw [if_neg (by dsimp only at hl ⊢; rw [hl, hk]; simp)]
theorem selM_yes {k0 nregs : Nat} {keep : List Bool} {gs G : List (Int × Int)} {i : Nat} {lits : List Int} (hi : i < gs.length) (h : (lits, G) = selM k0 nregs keep (gs.take i)) (hl : lits.length = k0 + nregs + i) (hk : keep.getD (k0 + nregs + i) false = true) : selM k0 nregs keep (gs.take (i + 1)) = (lits ++ [2 * ((k0 + (selRM k0 keep nregs).2 + G.length : Nat) : Int)], G ++ [(atL lits gs[i].1, atL lits gs[i].2)]) := by
  rw [selM_succ hi, ← h]
  unfold keepS
  rw [if_pos (by dsimp only; rw [hl]; exact hk)]
theorem selM_no {k0 nregs : Nat} {keep : List Bool} {gs G : List (Int × Int)} {i : Nat} {lits : List Int} (hi : i < gs.length) (h : (lits, G) = selM k0 nregs keep (gs.take i)) (hl : lits.length = k0 + nregs + i) (hk : keep.getD (k0 + nregs + i) false = false) : selM k0 nregs keep (gs.take (i + 1)) = (lits ++ [0], G) := by
  rw [selM_succ hi, ← h]
  unfold keepS
  rw [if_neg (by dsimp only; rw [hl, hk]; simp)]
theorem pickL_mem {α : Type} {k0 : Nat} {keep : List Bool} {l : List α} {i : Nat} {x : α} (h : x ∈ pickL k0 keep l i) : x ∈ l := by
  unfold pickL at h
  obtain ⟨⟨y, j⟩, hy, he⟩ := List.mem_filterMap.1 h
  split at he
  · cases he
    exact List.mem_of_mem_take (List.fst_mem_of_mem_zipIdx hy)
  · cases he
end Go.NetM

/- The net of what stays, of the reference. -/
namespace Go.OptEnv
open Go Go.Proofs Go.Abs Go.RowKit Go.NetM
set_option maxRecDepth 10000
def keptO (i r g o : AV) : AObj := .row 4 [.agg [i, r, g, o]]
theorem st_rK {i r g o : AV} {sz b : Nat} {xs : List AV} : AObj.row 4 ([AV.agg [i, r, g, o]].set 0 (.agg ([i, r, g, o].take 1 ++ (slR sz b xs).cells ++ [i, r, g, o].drop (1 + (slR sz b xs).cells.length)))) = keptO i (slR sz b xs) g o := by
  rw [slR_cells]; rfl
theorem st_gK {i r g o : AV} {t sz : Nat} {xs : List AV} : AObj.row 4 ([AV.agg [i, r, g, o]].set 0 (.agg ([i, r, g, o].take 2 ++ (accA t sz xs).cells ++ [i, r, g, o].drop (2 + (accA t sz xs).cells.length)))) = keptO i r (accA t sz xs) o := by
  rw [acc_cells]; rfl
theorem st_oK {i r g o : AV} {t sz : Nat} {xs : List AV} : AObj.row 4 ([AV.agg [i, r, g, o]].set 0 (.agg ([i, r, g, o].take 3 ++ (accA t sz xs).cells ++ [i, r, g, o].drop (3 + (accA t sz xs).cells.length)))) = keptO i r g (accA t sz xs) := by
  rw [acc_cells]; rfl
theorem lenTy_slR {E : Env} {sz b : Nat} {xs : List AV} {t e : TypeId} {y : Ty} {st : St} (h1 : E.ty t = some y) (h2 : y.d = .slice e) : lenTy E st t (slR sz b xs) = some (.int .i64 (xs.length : Int)) := by
  cases xs with
  | nil => unfold lenTy; rw [h1]; dsimp only; rw [h2]; rfl
  | cons x xs => unfold lenTy; rw [h1]; dsimp only; rw [h2]; rfl
theorem bld1 {pr : Prims} {b : Bool} {t sz : Nat} {xs : List AV} : buildA (En pr) 27 [(0, growA b t sz xs)] = some (.agg [growA b t sz xs, .nilsl, .nilsl, .nilsl]) := by
  unfold growA; rfl
theorem lenTy_slRm {α : Type} {f : α → AV} {E : Env} {sz b : Nat} {xs : List α} {t e : TypeId} {y : Ty} {st : St} (h1 : E.ty t = some y) (h2 : y.d = .slice e) : lenTy E st t (slR sz b (xs.map f)) = some (.int .i64 (xs.length : Int)) := by
  rw [lenTy_slR h1 h2, List.length_map]
/-- The registers that stay, and the net of what stays. -/
def keptRegs (n : GNet) (keep : List Bool) : List GReg := pickL n.k0 keep n.regs.xs n.regs.xs.length
def keptS (n : GNet) (keep : List Bool) : List Int × List (Int × Int) := selM n.k0 n.regs.xs.length keep n.gates.xs
def keptN (n : GNet) (keep : List Bool) : GNet := ⟨GSl.some n.ins.xs, GSl.of ((keptRegs n keep).map (withNext (keptS n keep).1)), GSl.of (keptS n keep).2, GSl.of (n.outs.xs.map (withLit (keptS n keep).1))⟩
def foldV (m : GNet) : GNet := if validM m = true then foldR m else nilN
theorem freeze_arg {L : List (Nat × AObj)} {st : St} {i g o : AV} {kr rb nr : Nat} {R : List GReg} (hi : AV.free i = true) (hg : AV.free g = true) (ho : AV.free o = true) (hn : nr = R.length) (hS : SFa L [] st) (hr : L[kr]? = some (rb, .row 3 (R.map regAV))) :
    ∃ t, freezeM st [.agg [i, .sl 3 rb 0 nr, g, o]] = some ([.agg [i, .vs 3 (.tok t) (R.map regAV), g, o]], (st.drop rb).newTok) := by
  subst hn
  have hgt := (hS.obj kr rb _ hr).1
  have e : freezeC st (.sl 3 rb 0 R.length) = some (.vs 3 (.tok st.next) (R.map regAV), (st.drop rb).newTok) := by
    simp only [freezeC, hgt]
    rw [if_pos ⟨trivial, by simp⟩, if_pos (by simp), List.drop_zero, List.take_of_length_le (by simp)]
  refine ⟨st.next, ?_⟩
  simp only [freezeM, freezeB, freezeL, freezeC_free hi, e, freezeC_free hg, freezeC_free ho]
  rfl
theorem gof_nil {α : Type} {sz : Nat} {f : α → AV} : (GSl.of ([] : List α)).av sz f = .nilsl := rfl
theorem res_freeze (n m : GNet) (st : St) : freezeA st (resAV n m) = some (resAV n m, st) := freeze_free (by unfold resAV; simp [AV.free, AV.freeL, net_free])
theorem gof_some {α : Type} {sz : Nat} {f : α → AV} {xs : List α} (h : xs ≠ []) : (GSl.of xs).av sz f = .vs sz .any (xs.map f) := by
  cases xs with
  | nil => exact absurd rfl h
  | cons x xs => rfl
attribute [local irreducible] WS QS OS OD Abs.Sub SubO SubK CW GSl.av accA growA
section
variable {pr : Prims}
set_option maxHeartbeats 4000000 in
theorem run55 (h1 : pr 55 = none) (h99 : Has pr 99 Rel99) (h18 : HasF pr 18 Rel18) (n : GNet) (hV : validM n = true) (hn : FitsN n) (keep : List Bool) (hkl : keep.length = n.kN + n.gates.xs.length) (hF : FitsN (keptN n keep)) (st : St) :
    CW (En pr) 55 [netAV n, (GSl.some keep).av 1 boolAV] st fun r _ => AV.free r = true ∧ AV.plain r = netAV (foldV (keptN n keep)) := by
  obtain ⟨f1, f2, f3, f4⟩ := valid_len hV
  obtain ⟨hgo, hrn, hol⟩ := valid_lits hV
  have hk1 : 1 ≤ n.kN ∧ n.kN ≤ 2001 := by unfold GNet.kN; omega
  have hk0 : (n.k0 : Int) = 1 + n.ins.xs.length := by unfold GNet.k0; omega
  have hk01 : 0 < n.k0 := by unfold GNet.k0; omega
  have hk' : n.kN = n.k0 + n.regs.xs.length := rfl
  have hkx : (GSl.some keep).xs.length = n.kN + n.gates.xs.length := hkl
  refine CW.start (N := 172) h1 rfl rfl ?_
  refine WS.newK ?_
  repeat' (first | (refine OS.do rfl ?_; first | refine OD.box rfl rfl rfl rfl (net_ok _) rfl (fun b1 => ?_) | refine OD.build rfl rfl bld1 ?_ | refine OD.storeW 0 rfl rfl rfl rfl (ok4 grow_cell rfl rfl rfl) rfl rfl rfl ?_ | refine OD.auto rfl rfl ?_ | refine OD.loadP 1 rfl rfl rfl rfl rfl rfl ?_ | refine OD.len rfl rfl (fun _ => lenTy_av rfl rfl) ?_ | refine OD.alloc rfl rfl rfl rfl (fun _ => ?_) | (refine OD.appendGS 0 (f := strAV) (s' := n.ins) (t := 0) (b := false) (ys := []) rfl rfl (by unfold growA; rfl) rfl rfl rfl rfl rfl rfl rfl rfl ⟨_, rfl⟩ (fun _ => ⟨rfl, rfl⟩) (roomB rfl (by simp only [List.length_nil]; omega)) (fun gt => ?_)) | refine OD.makeSlice (n := n.kN + n.gates.xs.length) rfl (congrArg (fun z => some (AV.int .i64 z)) (congrArg Nat.cast hkx)) (congrArg (fun z => some (AV.int .i64 z)) (congrArg Nat.cast hkx)) rfl rfl rfl rfl rfl (roomB rfl (by omega)) (fun lb => ?_)) | refine OS.nil ?_ | refine WS.seq ?_ | refine QS.seqN ?_ | refine WS.region ?_ | refine WS.block ?_)
  rename_i b2 mb
  generalize hgi : growA (false || !n.ins.xs.isEmpty) gt 1 (([] ++ n.ins.xs).map strAV) = gi
  have hgf : AV.free gi = true := by rw [← hgi]; exact free_grow str_free
  have hgp : AV.plain gi = (GSl.some n.ins.xs).av 1 strAV := by rw [← hgi]; exact plain_grow str_plain
  clear hgi
  have hmo : AObj.row ty27.size [AV.agg [gi, .nilsl, .nilsl, .nilsl]] = keptO gi (slR 3 0 (([] : List GReg).map regAV)) (accA 0 2 (([] : List (Int × Int)).map gateAV)) (accA 0 2 (([] : List GPin).map pinAV)) := by
    simp only [List.map_nil, acc_nil]; rfl
  rw [show List.replicate (n.kN + n.gates.xs.length) ty3.zeroV = (idL 0 ++ List.replicate (n.kN + n.gates.xs.length - (idL 0).length) 0).map intAV from rep_int _]
  refine WS.objs (L' := [(lb, .row ty3.size ((idL 0 ++ List.replicate (n.kN + n.gates.xs.length - (idL 0).length) 0).map intAV)), (mb, keptO gi (slR 3 0 (([] : List GReg).map regAV)) (accA 0 2 (([] : List (Int × Int)).map gateAV)) (accA 0 2 (([] : List GPin).map pinAV))), (b2, .row ty27.size [ty27.zeroV]), (b1, .row ty27.size [netAV n])]) (by rw [← hmo]; exact SubO.refl _) ?_
  have hzero : ∀ {lits : List Int} {i : Nat}, lits.length = i → i < n.kN + n.gates.xs.length → ((lits ++ List.replicate (n.kN + n.gates.xs.length - lits.length) 0).map intAV)[i]? = some (.int .i64 0) := fun {lits i} hl hi => by
    rw [List.getElem?_map, List.getElem?_append_right (by omega), hl, Nat.sub_self, List.getElem?_replicate, if_pos (by omega)]; rfl
  have hset : ∀ {lits : List Int} {i : Nat} (x : Int), lits.length = i → i < n.kN + n.gates.xs.length → ((lits ++ List.replicate (n.kN + n.gates.xs.length - lits.length) 0).map intAV).set i (.int .i64 x) = ((lits ++ [x]) ++ List.replicate (n.kN + n.gates.xs.length - (lits ++ [x]).length) 0).map intAV := fun {lits i} x hl hi => by
    have hrep : n.kN + n.gates.xs.length - lits.length = (n.kN + n.gates.xs.length - (lits.length + 1)) + 1 := by omega
    have e : ((lits ++ List.replicate (n.kN + n.gates.xs.length - lits.length) 0).map intAV).set i (.int .i64 x) = ((lits ++ List.replicate (n.kN + n.gates.xs.length - lits.length) 0).set lits.length x).map intAV := by rw [List.map_set, hl]; rfl
    rw [e, hrep, set_zeros, List.length_append]; rfl
  have hskip : ∀ {lits : List Int} {i : Nat}, lits.length = i → i < n.kN + n.gates.xs.length → lits ++ List.replicate (n.kN + n.gates.xs.length - lits.length) 0 = (lits ++ [0]) ++ List.replicate (n.kN + n.gates.xs.length - (lits ++ [0]).length) 0 := fun {lits i} hl hi => by
    rw [show n.kN + n.gates.xs.length - lits.length = (n.kN + n.gates.xs.length - (lits.length + 1)) + 1 by omega, skip_zeros]
    simp
  refine WS.loopK (D := Nat) [1, 2, 4, 5, 6] (by rfl) (fun j => [(7, .int .i64 (j : Int))]) (fun j => [(lb, .row ty3.size ((idL j ++ List.replicate (n.kN + n.gates.xs.length - (idL j).length) 0).map intAV)), (mb, keptO gi (slR 3 0 (([] : List GReg).map regAV)) (accA 0 2 (([] : List (Int × Int)).map gateAV)) (accA 0 2 (([] : List GPin).map pinAV))), (b2, .row ty27.size [ty27.zeroV]), (b1, .row ty27.size [netAV n])]) (fun _ => []) (fun j => j ≤ n.k0) (fun j => n.k0 - j) (0) (Nat.zero_le _) (by (try dsimp only); repeat' (first | exact Sub.nil _ | refine Sub.cons (congrArg (fun z => some (AV.int .i64 z)) (wrap_succ (by omega))) ?_ | refine Sub.cons rfl ?_)) (by (try dsimp only); repeat' (first | exact SubO.nil _ | exact SubO.refl _ | refine SubO.keep ?_ | refine SubO.drop ?_)) (by (try dsimp only); repeat' (first | exact SubK.nil _ | exact SubK.refl _ | refine SubK.keep (by simp) ?_ | refine SubK.new ?_ | refine SubK.drop ?_)) ?_
  rintro j hj
  try dsimp only at hj
  have hw : IntKind.i64.wrap (2 * (j : Int)) = 2 * (j : Int) := wrap64 (by omega) (by omega)
  dsimp only [RSt.at, List.cons_append, List.nil_append]
  repeat' (first | (refine OS.do rfl ?_; first | refine OD.auto rfl rfl ?_ | refine OD.len rfl rfl (fun _ => lenTy_av rfl rfl) ?_ | refine OD.loadP 3 rfl rfl rfl rfl rfl rfl ?_ | refine OD.indexAddr rfl rfl rfl (indexAddrA_sl rfl rfl rfl rfl (by omega)) ?_ | (rw [hw]; refine OD.storeI 0 rfl rfl rfl rfl rfl (hzero (idL_len j) (by omega)) ?_)) | refine OS.nil ?_ | refine WS.seq ?_ | refine QS.seqN ?_ | refine WS.region ?_ | refine WS.condD rfl (fun _ => ?_) (fun _ => ?_) | refine WS.skip ?_ | refine WS.block ?_ | refine QS.blockN ?_ | refine WS.exit ?_ | refine QS.seqE ?_ | refine QS.blockH ?_ | refine QS.loopE ?_)
  · rename_i hc
    have hj2 : j < n.kN + n.gates.xs.length := by omega
    dsimp only [List.set_cons_zero]
    rw [hset _ (idL_len j) hj2, ← idL_succ]
    refine QS.loopN (j + 1) (by exact (by show j + 1 ≤ n.k0; omega)) (by exact (by show n.k0 - (j + 1) < n.k0 - j; omega)) (by (try dsimp only [List.cons_append, List.nil_append]); repeat' (first | exact Sub.nil _ | refine Sub.cons (congrArg (fun z => some (AV.int .i64 z)) (wrap_succ (by omega))) ?_ | refine Sub.cons rfl ?_)) (by (try dsimp only); repeat' (first | exact SubO.nil _ | exact SubO.refl _ | refine SubO.keep ?_ | refine SubO.drop ?_)) (by (try dsimp only); repeat' (first | exact SubK.nil _ | exact SubK.refl _ | refine SubK.keep (by simp) ?_ | refine SubK.new ?_ | refine SubK.drop ?_))
  rename_i hc
  have hjk : j = n.k0 := by omega
  subst hjk
  rw [show IntKind.i64.wrap (1 + (n.ins.xs.length : Int)) = (n.k0 : Int) by rw [wrap64 (by omega) (by omega)]; omega]
  refine WS.range (A := Nat × List Int × List GReg) (n := n.regs.xs.length) ⟨45, _, fun _ => [], fun a => [(lb, .row ty3.size ((a.2.1 ++ List.replicate (n.kN + n.gates.xs.length - a.2.1.length) 0).map intAV)), (mb, keptO gi (slR 3 a.1 (a.2.2.map regAV)) (accA 0 2 (([] : List (Int × Int)).map gateAV)) (accA 0 2 (([] : List GPin).map pinAV))), (b2, .row ty27.size [ty27.zeroV]), (b1, .row ty27.size [netAV n])] ++ slO 3 a.1 (a.2.2.map regAV), fun _ => [], fun i a => (a.2.1, a.2.2.length) = selRM n.k0 keep i ∧ a.2.2 = pickL n.k0 keep n.regs.xs i⟩ ((0, idL n.k0, [])) [1, 2, 4, 5, 6, 8, 43, 44] (by rfl) (by omega) (⟨rfl, by simp [pickL]⟩) (by rfl) (by (try dsimp only); repeat' (first | exact Sub.nil _ | refine Sub.cons (congrArg (fun z => some (AV.int .i64 z)) (wrap_succ (by omega))) ?_ | refine Sub.cons rfl ?_)) (by (try dsimp only); repeat' (first | exact SubO.nil _ | exact SubO.refl _ | refine SubO.keep ?_ | refine SubO.drop ?_)) (by (try dsimp only); repeat' (first | exact SubK.nil _ | exact SubK.refl _ | refine SubK.keep (by simp) ?_ | refine SubK.new ?_ | refine SubK.drop ?_)) (by rfl) (by rfl) (by rfl) (by rfl) (by rfl) (by rfl) (fun _ _ => by rfl) (fun _ => by rfl) (fun _ _ => by rfl) (fun _ _ => by rfl) ?_ ?_
  · rintro i ⟨rb, lits, R⟩ hi ⟨hA, hR⟩
    try dsimp only at hA hR
    have hl : lits.length = n.k0 + i := by
      have := selRM_len (k0 := n.k0) (keep := keep) i
      rw [← hA] at this; exact this
    have hRl : R.length ≤ i := by
      have := selRM_cnt (k0 := n.k0) (keep := keep) i
      rw [← hA] at this; exact this
    have hkb : (GSl.some keep).xs[((n.k0 + i : Nat) : Int).toNat]? = some (keep.getD (n.k0 + i) false) := by
      show keep[n.k0 + i]? = _
      rw [List.getD_eq_getElem?_getD, List.getElem?_eq_getElem (by omega)]; rfl
    have hwk : IntKind.i64.wrap ((n.k0 : Int) + (i : Int)) = ((n.k0 + i : Nat) : Int) := by rw [wrap64 (by omega) (by omega)]; omega
    have hwv : IntKind.i64.wrap (2 * IntKind.i64.wrap ((n.k0 : Int) + (R.length : Int))) = 2 * ((n.k0 + R.length : Nat) : Int) := by
      rw [wrap64 (n := (n.k0 : Int) + (R.length : Int)) (by omega) (by omega), wrap64 (by omega) (by omega)]; omega
    have hki : indexAddrA (En pr) 38 (.sl ty3.size lb 0 (n.kN + n.gates.xs.length)) (.int .i64 (IntKind.i64.wrap ((n.k0 : Int) + (i : Int)))) = some (.ptr lb (n.k0 + i) 0) := by
      rw [hwk]; exact indexAddrA_sl rfl rfl rfl rfl (by omega)
    have hgm : R.map regAV ++ [regAV n.regs.xs[i]] = (R ++ [n.regs.xs[i]]).map regAV := by rw [List.map_append]; rfl
    dsimp only [RSt.at, List.cons_append, List.nil_append]
    repeat' (first | (refine OS.do rfl ?_; first | refine OD.indexAddr rfl rfl rfl hki ?_ | refine OD.indexAddr rfl rfl rfl (indexAddrA_int rfl rfl rfl rfl (by rw [hwk]; omega) (by rw [hwk]; exact hkb)) ?_ | refine OD.len rfl rfl (fun _ => lenTy_slRm rfl rfl) ?_ | refine OD.loadP 0 rfl rfl rfl rfl rfl rfl ?_ | refine OD.auto rfl rfl ?_ | refine OD.indexAddr rfl rfl rfl (indexAddrA_nat rfl rfl rfl rfl (by first | assumption | exact List.getElem?_eq_getElem (by omega))) ?_ | refine OD.loadP 2 rfl rfl rfl rfl rfl rfl ?_ | refine OD.alloc rfl rfl rfl rfl (fun _ => ?_) | refine OD.storeW 0 rfl rfl rfl rfl (by first | rfl | exact net_ok _) rfl rfl rfl ?_ | (rw [hwv]; refine OD.storeI 1 rfl rfl rfl rfl rfl (hzero hl (by omega)) ?_) | (refine OD.appendR (L := [_, _, _, _, _]) (y := regAV n.regs.xs[i]) rfl rfl rfl rfl rfl rfl rfl rfl rfl rfl ⟨⟨_, rfl⟩, rfl⟩ (fun _ => rfl) rfl rfl (roomB rfl (by simp only [List.length_map]; omega)) (fun rb' => ?_); rw [hgm]) | (refine OD.storeG 2 rfl rfl rfl rfl rfl slR_ok (by rw [slR_cells]; rfl) (by rw [slR_cells]; rfl) ?_; rw [st_rK])) | refine OS.nil ?_ | refine WS.seq ?_ | refine QS.seqN ?_ | refine WS.region ?_ | refine WS.skip ?_ | refine WS.condB rfl (fun _ => ?_) (fun _ => ?_))
    · rename_i hb
      dsimp only [List.set_cons_zero, List.set_cons_succ, List.cons_append, List.nil_append]
      rw [hset _ hl (by omega)]
      refine QS.rangeN ((rb', lits ++ [2 * ((n.k0 + R.length : Nat) : Int)], R ++ [n.regs.xs[i]])) (by (try dsimp only) <;> exact (⟨by rw [selRM_yes hA hb, List.length_append]; rfl, by rw [pickL_succ hi, if_pos hb, hR]⟩)) (by (try dsimp only [RSt.at, List.cons_append, List.nil_append]); repeat' (first | exact Sub.nil _ | refine Sub.cons (congrArg (fun z => some (AV.int .i64 z)) (wrap_succ (by omega))) ?_ | refine Sub.cons rfl ?_)) (by (try dsimp only); exact SubO.drop (SubO.refl _)) (by (try dsimp only); repeat' (first | exact SubK.nil _ | exact SubK.refl _ | refine SubK.keep (by simp) ?_ | refine SubK.new ?_ | refine SubK.drop ?_))
    · rename_i hb
      rw [hskip hl (by omega)]
      refine QS.rangeN ((rb, lits ++ [0], R)) (by (try dsimp only) <;> exact (⟨by rw [selRM_no hA hb], by rw [pickL_succ hi, if_neg (by rw [hb]; simp), hR]⟩)) (by (try dsimp only [RSt.at, List.cons_append, List.nil_append]); repeat' (first | exact Sub.nil _ | refine Sub.cons (congrArg (fun z => some (AV.int .i64 z)) (wrap_succ (by omega))) ?_ | refine Sub.cons rfl ?_)) (by (try dsimp only); exact SubO.drop (SubO.refl _)) (by (try dsimp only); repeat' (first | exact SubK.nil _ | exact SubK.refl _ | refine SubK.keep (by simp) ?_ | refine SubK.new ?_ | refine SubK.drop ?_))
  rintro ⟨rb, lits0, R⟩ ⟨hA0, hR⟩
  try dsimp only at hA0 hR
  have hRk : R = keptRegs n keep := hR
  have hcnt : (selRM n.k0 keep n.regs.xs.length).2 = R.length := by rw [← hA0]
  have hRl : R.length ≤ n.regs.xs.length := by rw [← hcnt]; exact selRM_cnt _
  have hsm : ∀ i, i ≤ n.gates.xs.length → ShOk (n.k0 + R.length) (n.kN + i) i (selM n.k0 n.regs.xs.length keep (n.gates.xs.take i)) := fun i hi => by
    have := sel_ok (nregs := n.regs.xs.length) hk01 (keep := keep) n.gates.xs i hi
    rw [hcnt, ← hk'] at this
    exact this
  dsimp only [RSt.at, List.cons_append, List.nil_append]
  repeat' (first | (refine OS.do rfl ?_; first | refine OD.auto rfl rfl ?_ | refine OD.len rfl rfl (fun _ => lenTy_av rfl rfl) ?_ | refine OD.loadP 3 rfl rfl rfl rfl rfl rfl ?_) | refine OS.nil ?_ | refine WS.seq ?_ | refine QS.seqN ?_ | refine WS.region ?_ | refine WS.block ?_)
  refine WS.newK ?_
  refine WS.range (A := Nat × List Int × List (Int × Int)) (n := n.gates.xs.length) ⟨77, _, fun _ => [], fun a => [(lb, .row ty3.size ((a.2.1 ++ List.replicate (n.kN + n.gates.xs.length - a.2.1.length) 0).map intAV)), (mb, keptO gi (slR 3 rb (R.map regAV)) (accA a.1 2 (a.2.2.map gateAV)) (accA 0 2 (([] : List GPin).map pinAV))), (b2, .row ty27.size [ty27.zeroV]), (b1, .row ty27.size [netAV n])] ++ slO 3 rb (R.map regAV), fun a => [(a.1, !a.2.2.isEmpty)], fun i a => (a.2.1, a.2.2) = selM n.k0 n.regs.xs.length keep (n.gates.xs.take i)⟩ ((0, lits0, [])) [1, 2, 4, 5, 6, 8, 75, 76] (by rfl) (by omega) (by show (lits0, ([] : List (Int × Int))) = ((selRM n.k0 keep n.regs.xs.length).1, []); rw [← hA0]) (by rfl) (by (try dsimp only); repeat' (first | exact Sub.nil _ | refine Sub.cons (congrArg (fun z => some (AV.int .i64 z)) (wrap_succ (by omega))) ?_ | refine Sub.cons rfl ?_)) (by (try dsimp only); repeat' (first | exact SubO.nil _ | exact SubO.refl _ | refine SubO.keep ?_ | refine SubO.drop ?_)) (by (try dsimp only); repeat' (first | exact SubK.nil _ | exact SubK.refl _ | refine SubK.keep (by simp) ?_ | refine SubK.new ?_ | refine SubK.drop ?_)) (by rfl) (by rfl) (by rfl) (by rfl) (by rfl) (by rfl) (fun _ _ => by rfl) (fun _ => by rfl) (fun _ _ => by rfl) (fun _ _ => by rfl) ?_ ?_
  · rintro j ⟨tg, lits, G⟩ hj hA
    try dsimp only at hA
    have hs := hsm j (by omega)
    rw [← hA] at hs
    have hl : lits.length = n.kN + j := hs.len
    have hGl := hs.gates
    try dsimp only at hGl
    obtain ⟨⟨g1, g2⟩, g3, g4⟩ := hgo j hj
    have hkb : (GSl.some keep).xs[((n.kN + j : Nat) : Int).toNat]? = some (keep.getD (n.kN + j) false) := by
      show keep[n.kN + j]? = _
      rw [List.getD_eq_getElem?_getD, List.getElem?_eq_getElem (by omega)]; rfl
    have hwk : IntKind.i64.wrap (IntKind.i64.wrap ((n.k0 : Int) + (n.regs.xs.length : Int)) + (j : Int)) = ((n.kN + j : Nat) : Int) := by
      rw [wrap64 (n := (n.k0 : Int) + (n.regs.xs.length : Int)) (by omega) (by omega), wrap64 (by omega) (by omega)]; omega
    have hwv : IntKind.i64.wrap (2 * IntKind.i64.wrap (IntKind.i64.wrap ((n.k0 : Int) + (R.length : Int)) + (G.length : Int))) = 2 * ((n.k0 + R.length + G.length : Nat) : Int) := by
      rw [wrap64 (n := (n.k0 : Int) + (R.length : Int)) (by omega) (by omega), wrap64 (n := (n.k0 : Int) + (R.length : Int) + (G.length : Int)) (by omega) (by omega), wrap64 (by omega) (by omega)]; omega
    have hki : indexAddrA (En pr) 38 (.sl ty3.size lb 0 (n.kN + n.gates.xs.length)) (.int .i64 (IntKind.i64.wrap (IntKind.i64.wrap ((n.k0 : Int) + (n.regs.xs.length : Int)) + (j : Int)))) = some (.ptr lb (n.kN + j) 0) := by
      rw [hwk]; exact indexAddrA_sl rfl rfl rfl rfl (by omega)
    have u99 : ∀ (l v : Int), 0 ≤ l ∧ l < 2 * ((n.kN + j : Nat) : Int) → ∀ {L' : List (Nat × AObj)} {K' : List (Nat × Bool)} (kl : Nat), L'[kl]? = some (lb, .row 1 (((lits ++ [v]) ++ List.replicate (n.kN + n.gates.xs.length - (lits ++ [v]).length) 0).map intAV)) → ∀ st, SFa L' K' st → primOf Rel99 [.sl 1 lb 0 (n.kN + n.gates.xs.length), .int .i64 l] st = some (.int .i64 (atL lits l), st) := fun l v hl2 L' K' kl hL st hS => by
      have hr := hs.range (l / 2).toNat
      dsimp only at hr
      have hgd : ((lits ++ [v]) ++ List.replicate (n.kN + n.gates.xs.length - (lits ++ [v]).length) 0).getD (l / 2).toNat 0 = lits.getD (l / 2).toNat 0 := by rw [getD_zeros, getD_snocI, if_pos (by omega)]
      have hLen : ((lits ++ [v]) ++ List.replicate (n.kN + n.gates.xs.length - (lits ++ [v]).length) 0).length = n.kN + n.gates.xs.length := by simp only [List.length_append, List.length_singleton, List.length_replicate]; omega
      have := use99s h99 (N := n.kN + n.gates.xs.length) (k := l) hL hLen.symm hS ⟨hl2.1, by omega, by omega⟩ (by rw [hgd]; omega)
      rw [atL_front (by omega)] at this
      exact this
    have hgm : G.map gateAV ++ [gateAV (atL lits n.gates.xs[j].1, atL lits n.gates.xs[j].2)] = (G ++ [(atL lits n.gates.xs[j].1, atL lits n.gates.xs[j].2)]).map gateAV := by rw [List.map_append]; rfl
    dsimp only [RSt.at, List.cons_append, List.nil_append]
    repeat' (first | (refine OS.do rfl ?_; first | refine OD.indexAddr rfl rfl rfl hki ?_ | refine OD.indexAddr rfl rfl rfl (indexAddrA_int rfl rfl rfl rfl (by rw [hwk]; omega) (by rw [hwk]; exact hkb)) ?_ | refine OD.len rfl rfl (fun _ => lenTy_slRm rfl rfl) ?_ | refine OD.auto rfl rfl ?_ | refine OD.len rfl rfl (fun _ => lenTy_av rfl rfl) ?_ | refine OD.indexAddr rfl rfl rfl (indexAddrA_nat rfl rfl rfl rfl (by first | assumption | exact List.getElem?_eq_getElem (by omega))) ?_ | refine OD.len rfl rfl (fun _ => lenTy_accm rfl rfl) ?_ | refine OD.loadP 2 rfl rfl rfl rfl rfl rfl ?_ | refine OD.alloc rfl rfl rfl rfl (fun _ => ?_) | refine OD.storeW 0 rfl rfl rfl rfl (by first | rfl | exact net_ok _) rfl rfl rfl ?_ | refine OD.loadP 4 rfl rfl rfl rfl rfl rfl ?_ | (rw [hwv]; refine OD.storeI 1 rfl rfl rfl rfl rfl (hzero hl (by omega)) ?_)) | refine OS.nil ?_ | refine WS.seq ?_ | refine QS.seqN ?_ | refine WS.region ?_ | refine WS.skip ?_ | refine WS.condB rfl (fun _ => ?_) (fun _ => ?_))
    · rename_i hb
      dsimp only [List.set_cons_zero, List.set_cons_succ, List.cons_append, List.nil_append]
      rw [hset _ hl (by omega)]
      refine WS.drawY 10 [] (K := [(tg, !G.isEmpty)]) rfl rfl rfl rfl ?_; (repeat' (first | refine SegY.nil ?_ | refine SegY.callW (D := Unit) (fun _ => True) (fun _ => .int .i64 (atL lits n.gates.xs[j].1)) (fun _ => _) (fun _ => _) rfl rfl rfl rfl (fun st hS => CW.prim h99.eq (u99 _ _ ⟨g1, g2⟩ 1 rfl st hS) ⟨(), st, trivial, rfl, hS⟩) (fun _ _ => ?_) | refine SegY.callW (D := Unit) (fun _ => True) (fun _ => .int .i64 (atL lits n.gates.xs[j].2)) (fun _ => _) (fun _ => _) rfl rfl rfl rfl (fun st hS => CW.prim h99.eq (u99 _ _ ⟨g3, g4⟩ 1 rfl st hS) ⟨(), st, trivial, rfl, hS⟩) (fun _ _ => ?_) | refine SegY.auto rfl rfl rfl rfl ?_ | refine SegY.loadP 0 rfl rfl rfl rfl rfl rfl rfl ?_ | refine SegY.loadP 1 rfl rfl rfl rfl rfl rfl rfl ?_ | refine SegY.loadP 2 rfl rfl rfl rfl rfl rfl rfl ?_ | refine SegY.indexAddr rfl rfl rfl rfl rfl ?_))
      dsimp only [RSt.at, List.cons_append, List.nil_append]
      repeat' (first | (refine OS.do rfl ?_; first | refine OD.auto rfl rfl ?_ | (refine OD.append 0 (xs := G.map gateAV) (ys := [gateAV (atL lits n.gates.xs[j].1, atL lits n.gates.xs[j].2)]) rfl rfl rfl rfl (by rw [List.isEmpty_map]; rfl) rfl rfl rfl rfl rfl rfl (.inr ⟨⟨_, rfl⟩, rfl⟩) (fun _ => rfl) rfl rfl (roomB rfl (by simp only [List.length_map, List.length_singleton]; omega)) (fun t' => ?_); rw [hgm]) | (refine OD.storeG 2 rfl rfl rfl rfl rfl acc_ok1 (by rw [acc_cells]; rfl) (by rw [acc_cells]; rfl) ?_; rw [st_gK])) | refine OS.nil ?_)
      dsimp only [List.set_cons_zero, List.set_cons_succ, List.cons_append, List.nil_append]
      rw [List.isEmpty_map]
      refine QS.rangeN ((t', lits ++ [2 * ((n.k0 + R.length + G.length : Nat) : Int)], G ++ [(atL lits n.gates.xs[j].1, atL lits n.gates.xs[j].2)])) (by (try dsimp only) <;> exact (by rw [selM_yes hj hA (by rw [hl, hk']) (by rw [← hk']; exact hb), hcnt])) (by (try dsimp only [RSt.at, List.cons_append, List.nil_append]); repeat' (first | exact Sub.nil _ | refine Sub.cons (congrArg (fun z => some (AV.int .i64 z)) (wrap_succ (by omega))) ?_ | refine Sub.cons rfl ?_)) (by (try dsimp only); exact SubO.drop (SubO.refl _)) (by (try dsimp only); repeat' (first | exact SubK.nil _ | exact SubK.refl _ | refine SubK.keep (by simp) ?_ | refine SubK.new ?_ | refine SubK.drop ?_))
    · rename_i hb
      rw [hskip hl (by omega)]
      refine QS.rangeN ((tg, lits ++ [0], G)) (by (try dsimp only) <;> exact (by rw [selM_no hj hA (by rw [hl, hk']) (by rw [← hk']; exact hb)])) (by (try dsimp only [RSt.at, List.cons_append, List.nil_append]); repeat' (first | exact Sub.nil _ | refine Sub.cons (congrArg (fun z => some (AV.int .i64 z)) (wrap_succ (by omega))) ?_ | refine Sub.cons rfl ?_)) (by (try dsimp only); exact SubO.drop (SubO.refl _)) (by (try dsimp only); repeat' (first | exact SubK.nil _ | exact SubK.refl _ | refine SubK.keep (by simp) ?_ | refine SubK.new ?_ | refine SubK.drop ?_))
  rintro ⟨tg, lits, G⟩ hA
  try dsimp only at hA
  rw [List.take_of_length_le (Nat.le_refl _)] at hA
  have hA : (lits, G) = keptS n keep := hA
  have hs := hsm n.gates.xs.length (Nat.le_refl _)
  rw [List.take_of_length_le (Nat.le_refl _), show selM n.k0 n.regs.xs.length keep n.gates.xs = (lits, G) from hA.symm] at hs
  have hLl := hs.len
  try dsimp only at hLl
  have hGl := hs.gates
  try dsimp only at hGl
  have hrow : (lits ++ List.replicate (n.kN + n.gates.xs.length - lits.length) 0) = lits := by rw [hLl, Nat.sub_self]; simp
  have u99 : ∀ (l : Int), 0 ≤ l ∧ l < 2 * ((n.kN + n.gates.xs.length : Nat) : Int) → ∀ {L' : List (Nat × AObj)} {K' : List (Nat × Bool)} (kl : Nat), L'[kl]? = some (lb, .row 1 (lits.map intAV)) → ∀ st, SFa L' K' st → primOf Rel99 [.sl 1 lb 0 (n.kN + n.gates.xs.length), .int .i64 l] st = some (.int .i64 (atL lits l), st) := fun l hl2 L' K' kl hL st hS => by
    have hr := hs.range (l / 2).toNat
    dsimp only at hr
    exact use99s h99 (N := n.kN + n.gates.xs.length) (k := l) hL hLl.symm hS ⟨hl2.1, by omega, by omega⟩ (by omega)
  dsimp only [RSt.at, List.cons_append, List.nil_append]
  rw [hrow]
  repeat' (first | (refine OS.do rfl ?_; first | refine OD.len rfl rfl (fun _ => lenTy_slRm rfl rfl) ?_ | refine OD.auto rfl rfl ?_ | refine OD.loadP 1 rfl rfl rfl rfl rfl rfl ?_) | refine OS.nil ?_ | refine WS.seq ?_ | refine QS.seqN ?_ | refine WS.region ?_ | refine WS.block ?_)
  refine WS.range (A := List GReg) (n := R.length) ⟨129, _, fun _ => [], fun Q => [(lb, .row ty3.size (lits.map intAV)), (mb, keptO gi (slR 3 rb (R.map regAV)) (accA tg 2 (G.map gateAV)) (accA 0 2 (([] : List GPin).map pinAV))), (b2, .row ty27.size [ty27.zeroV]), (b1, .row ty27.size [netAV n])] ++ slO 3 rb (Q.map regAV), fun _ => [], fun i Q => Q = regP lits R i⟩ (R) [2, 4, 5, 6, 128] (by rfl) (by omega) (regP_zero.symm) (by rfl) (by (try dsimp only); repeat' (first | exact Sub.nil _ | refine Sub.cons (congrArg (fun z => some (AV.int .i64 z)) (wrap_succ (by omega))) ?_ | refine Sub.cons rfl ?_)) (by (try dsimp only); repeat' (first | exact SubO.nil _ | exact SubO.refl _ | refine SubO.keep ?_ | refine SubO.drop ?_)) (by (try dsimp only); repeat' (first | exact SubK.nil _ | exact SubK.refl _ | refine SubK.keep (by simp) ?_ | refine SubK.new ?_ | refine SubK.drop ?_)) (by rfl) (by rfl) (by rfl) (by rfl) (by rfl) (by rfl) (fun _ _ => by rfl) (fun _ => by rfl) (fun _ _ => by rfl) (fun _ _ => by rfl) ?_ ?_
  · rintro i Q hi hQ
    try dsimp only at hQ
    have hin : ∀ r ∈ R, r ∈ n.regs.xs := fun r hr => by rw [hR] at hr; exact pickL_mem hr
    have hrn' := hrn _ (hin _ (List.getElem_mem hi))
    have hQl : Q.length = R.length := by rw [hQ]; exact regP_len (by omega)
    have hR0 : R.map regAV ≠ [] := fun c => by rw [List.map_eq_nil_iff] at c; rw [c] at hi; exact absurd hi (by simp)
    have hQ0 : Q.map regAV ≠ [] := fun c => by rw [List.map_eq_nil_iff] at c; have : Q.length = 0 := (by rw [c]; rfl); omega
    have hQ1 : (Q.set i (withNext lits R[i])).map regAV ≠ [] := fun c => by rw [List.map_eq_nil_iff] at c; have h0 : Q.length = 0 := (by have := congrArg List.length c; rw [List.length_set] at this; exact this); omega
    have hbr : (Q.map regAV)[i]? = some (regAV R[i]) := by rw [List.getElem?_map, hQ, regP_get hi]; rfl
    have hmr : (Q.map regAV).set i (.agg [.str R[i].name, .int .u8 R[i].init.toNat, .int .i64 (atL lits R[i].next)]) = (Q.set i (withNext lits R[i])).map regAV := by rw [List.map_set]; rfl
    dsimp only [RSt.at, List.cons_append, List.nil_append]
    rw [(slR_long (sz := 3) (b := rb) hR0).1, (slR_long (sz := 3) (b := rb) hQ0).2, List.length_map]
    repeat' (first | (refine OS.do rfl ?_; first | refine OD.auto rfl rfl ?_) | refine OS.nil ?_ | refine WS.seq ?_ | refine QS.seqN ?_ | refine WS.region ?_)
    refine WS.drawY 11 [] (K := []) rfl rfl rfl rfl ?_; (repeat' (first | refine SegY.nil ?_ | refine SegY.loadP 4 rfl rfl rfl rfl hbr rfl rfl ?_ | refine SegY.indexAddr rfl rfl rfl rfl (indexAddrA_sl rfl rfl rfl rfl (by omega)) ?_ | refine SegY.auto rfl rfl rfl rfl ?_ | refine SegY.loadP 0 rfl rfl rfl rfl rfl rfl rfl ?_ | refine SegY.loadP 1 rfl rfl rfl rfl rfl rfl rfl ?_ | refine SegY.loadP 2 rfl rfl rfl rfl rfl rfl rfl ?_ | refine SegY.indexAddr rfl rfl rfl rfl rfl ?_ | refine SegY.callW (D := Unit) (fun _ => True) (fun _ => .int .i64 (atL lits R[i].next)) (fun _ => _) (fun _ => _) rfl rfl rfl rfl (fun st hS => CW.prim h99.eq (u99 _ hrn' 0 rfl st hS) ⟨(), st, trivial, rfl, hS⟩) (fun _ _ => ?_)))
    dsimp only [RSt.at, List.cons_append, List.nil_append]
    repeat' (first | (refine OS.do rfl ?_; first | refine OD.auto rfl rfl ?_ | refine OD.indexAddr rfl rfl rfl (indexAddrA_sl rfl rfl rfl rfl (by omega)) ?_ | refine OD.storeG 4 rfl rfl rfl rfl hbr rfl rfl rfl ?_) | refine OS.nil ?_)
    dsimp only [List.set_cons_zero, List.set_cons_succ, List.cons_append, List.nil_append]
    refine QS.rangeN (Q.set i (withNext lits R[i])) (by (try dsimp only) <;> exact (by rw [regP_succ hi, hQ])) (by (try dsimp only [RSt.at, List.cons_append, List.nil_append]); repeat' (first | exact Sub.nil _ | refine Sub.cons (congrArg (fun z => some (AV.int .i64 z)) (wrap_succ (by omega))) ?_ | refine Sub.cons rfl ?_)) (by (try dsimp only); rw [(slR_long (sz := 3) (b := rb) hQ1).2, ← hmr]; exact SubO.refl _) (by (try dsimp only); repeat' (first | exact SubK.nil _ | exact SubK.refl _ | refine SubK.keep (by simp) ?_ | refine SubK.new ?_ | refine SubK.drop ?_))
  rintro Q hQ
  try dsimp only at hQ
  rw [regP_all] at hQ
  dsimp only [RSt.at, List.cons_append, List.nil_append]
  repeat' (first | (refine OS.do rfl ?_; first | refine OD.auto rfl rfl ?_ | refine OD.len rfl rfl (fun _ => lenTy_av rfl rfl) ?_ | refine OD.loadP 3 rfl rfl rfl rfl rfl rfl ?_) | refine OS.nil ?_ | refine WS.seq ?_ | refine QS.seqN ?_ | refine WS.region ?_ | refine WS.block ?_)
  refine WS.newK ?_
  refine WS.range (A := Nat × List GPin) (n := n.outs.xs.length) ⟨149, _, fun _ => [], fun a => [(lb, .row ty3.size (lits.map intAV)), (mb, keptO gi (slR 3 rb (R.map regAV)) (accA tg 2 (G.map gateAV)) (accA a.1 2 (a.2.map pinAV))), (b2, .row ty27.size [ty27.zeroV]), (b1, .row ty27.size [netAV n])] ++ slO 3 rb (Q.map regAV), fun a => [(a.1, !a.2.isEmpty)], fun i a => a.2 = (n.outs.xs.take i).map (withLit lits)⟩ ((0, [])) [4, 5, 6, 147, 148] (by rfl) (by omega) (rfl) (by rfl) (by (try dsimp only); repeat' (first | exact Sub.nil _ | refine Sub.cons (congrArg (fun z => some (AV.int .i64 z)) (wrap_succ (by omega))) ?_ | refine Sub.cons rfl ?_)) (by (try dsimp only); repeat' (first | exact SubO.nil _ | exact SubO.refl _ | refine SubO.keep ?_ | refine SubO.drop ?_)) (by (try dsimp only); repeat' (first | exact SubK.nil _ | exact SubK.refl _ | refine SubK.keep (by simp) ?_ | refine SubK.new ?_ | refine SubK.drop ?_)) (by rfl) (by rfl) (by rfl) (by rfl) (by rfl) (by rfl) (fun _ _ => by rfl) (fun _ => by rfl) (fun _ _ => by rfl) (fun _ _ => by rfl) ?_ ?_
  · rintro i ⟨tp, P⟩ hi hP
    try dsimp only at hP
    have hol' := hol _ (List.getElem_mem hi)
    have hPl : P.length = i := by rw [hP, List.length_map, List.length_take]; omega
    have hgm : P.map pinAV ++ [pinAV (withLit lits n.outs.xs[i])] = (P ++ [withLit lits n.outs.xs[i]]).map pinAV := by rw [List.map_append]; rfl
    dsimp only [RSt.at, List.cons_append, List.nil_append]
    repeat' (first | (refine OS.do rfl ?_; first | refine OD.auto rfl rfl ?_ | refine OD.indexAddr rfl rfl rfl (indexAddrA_nat rfl rfl rfl rfl (by first | assumption | exact List.getElem?_eq_getElem (by omega))) ?_ | refine OD.alloc rfl rfl rfl rfl (fun _ => ?_) | refine OD.storeW 0 rfl rfl rfl rfl (by first | rfl | exact net_ok _) rfl rfl rfl ?_) | refine OS.nil ?_ | refine WS.seq ?_ | refine QS.seqN ?_ | refine WS.region ?_)
    refine WS.drawY 8 [] (K := [(tp, !P.isEmpty)]) rfl rfl rfl rfl ?_; (repeat' (first | refine SegY.nil ?_ | refine SegY.auto rfl rfl rfl rfl ?_ | refine SegY.loadP 0 rfl rfl rfl rfl rfl rfl rfl ?_ | refine SegY.loadP 1 rfl rfl rfl rfl rfl rfl rfl ?_ | refine SegY.loadP 2 rfl rfl rfl rfl rfl rfl rfl ?_ | refine SegY.indexAddr rfl rfl rfl rfl rfl ?_ | refine SegY.callW (D := Unit) (fun _ => True) (fun _ => .int .i64 (atL lits n.outs.xs[i].lit)) (fun _ => _) (fun _ => _) rfl rfl rfl rfl (fun st hS => CW.prim h99.eq (u99 _ hol' 1 rfl st hS) ⟨(), st, trivial, rfl, hS⟩) (fun _ _ => ?_)))
    dsimp only [RSt.at, List.cons_append, List.nil_append]
    repeat' (first | (refine OS.do rfl ?_; first | refine OD.auto rfl rfl ?_ | (refine OD.append 0 (xs := P.map pinAV) (ys := [pinAV (withLit lits n.outs.xs[i])]) rfl rfl rfl rfl (by rw [List.isEmpty_map]; rfl) rfl rfl rfl rfl rfl rfl (.inr ⟨⟨_, rfl⟩, rfl⟩) (fun _ => rfl) rfl rfl (roomB rfl (by simp only [List.length_map, List.length_singleton]; omega)) (fun t' => ?_); rw [hgm]) | (refine OD.storeG 2 rfl rfl rfl rfl rfl acc_ok1 (by rw [acc_cells]; rfl) (by rw [acc_cells]; rfl) ?_; rw [st_oK])) | refine OS.nil ?_)
    dsimp only [List.set_cons_zero, List.set_cons_succ, List.cons_append, List.nil_append]
    rw [List.isEmpty_map]
    refine QS.rangeN ((t', P ++ [withLit lits n.outs.xs[i]])) (by (try dsimp only) <;> exact (by rw [map_take_succ hi, hP])) (by (try dsimp only [RSt.at, List.cons_append, List.nil_append]); repeat' (first | exact Sub.nil _ | refine Sub.cons (congrArg (fun z => some (AV.int .i64 z)) (wrap_succ (by omega))) ?_ | refine Sub.cons rfl ?_)) (by (try dsimp only); exact SubO.drop (SubO.refl _)) (by (try dsimp only); repeat' (first | exact SubK.nil _ | exact SubK.refl _ | refine SubK.keep (by simp) ?_ | refine SubK.new ?_ | refine SubK.drop ?_))
  rintro ⟨tp, P⟩ hP
  try dsimp only at hP
  rw [List.take_of_length_le (Nat.le_refl _)] at hP
  dsimp only [RSt.at, List.cons_append, List.nil_append]
  have hm : netAV (keptN n keep) = .agg [(GSl.some n.ins.xs).av 1 strAV, (GSl.of Q).av 3 regAV, (GSl.of G).av 2 gateAV, (GSl.of P).av 2 pinAV] := by
    unfold keptN; rw [← hA, ← hRk, hQ, hP]; rfl
  have c18 : ∀ (mo : AObj) (st : St), SFa ([(lb, .row ty3.size (lits.map intAV)), (mb, mo), (b2, .row ty27.size [ty27.zeroV]), (b1, .row ty27.size [netAV n])] ++ slO 3 rb (Q.map regAV)) [] st → ∃ st1, primF (primOf Rel18) [.agg [gi, slR 3 rb (R.map regAV), accA tg 2 (G.map gateAV), accA tp 2 (P.map pinAV)]] st = some (resAV (keptN n keep) (foldR (keptN n keep)), st1) ∧ SFa [(lb, .row ty3.size (lits.map intAV)), (mb, mo), (b2, .row ty27.size [ty27.zeroV]), (b1, .row ty27.size [netAV n])] [] st1 := fun mo st hS => by
    by_cases hR0 : R = []
    · have hQ0 : Q = [] := by rw [hQ, hR0]; rfl
      refine ⟨st, h18.use (r := resAV (keptN n keep) (foldR (keptN n keep))) ?_ ⟨keptN n keep, hF, ?_, rfl⟩ st, ?_⟩
      · rw [hR0]
        simp only [List.map_nil, slR, AV.freeL, AV.free, hgf, free_acc gate_free, free_acc pin_free, Bool.and_true]
      · dsimp only
        rw [hm, hR0, hQ0, gof_nil]
        simp only [List.map_nil, slR, AV.plainL, AV.plain, hgp, plain_acc gate_plain, plain_acc pin_plain]
      · rw [hQ0] at hS
        simpa [slO] using hS
    · have hQ0 : Q ≠ [] := fun c => hR0 (by rw [hQ] at c; exact List.map_eq_nil_iff.1 c)
      have hR1 : R.map regAV ≠ [] := fun c => hR0 (List.map_eq_nil_iff.1 c)
      have hQ1 : Q.map regAV ≠ [] := fun c => hQ0 (List.map_eq_nil_iff.1 c)
      have hRQ : R.length = Q.length := by rw [hQ, List.length_map]
      rw [(slR_long (sz := 3) (b := rb) hQ1).2] at hS
      rw [(slR_long (sz := 3) (b := rb) hR1).1, List.length_map]
      obtain ⟨t, hz⟩ := freeze_arg (kr := 4) (i := gi) (g := accA tg 2 (G.map gateAV)) (o := accA tp 2 (P.map pinAV)) hgf (free_acc gate_free) (free_acc pin_free) hRQ hS rfl
      refine ⟨_, h18.row (r := resAV (keptN n keep) (foldR (keptN n keep))) ?_ hz ⟨keptN n keep, hF, ?_, rfl⟩, SFa.last hS⟩
      · simp only [AV.freeL, AV.free]; simp
      · dsimp only
        rw [hm, gof_some (sz := 3) (f := regAV) hQ0]
        simp only [AV.plainL, AV.plain, hgp, plain_acc gate_plain, plain_acc pin_plain, plainL_map reg_plain]
        rfl
  repeat' (first | (refine OS.do rfl ?_; first | refine OD.storeW 3 rfl rfl rfl rfl (net_ok (foldV (keptN n keep))) rfl rfl rfl ?_ | refine OD.loadP 0 rfl rfl rfl rfl rfl rfl ?_ | refine OD.auto rfl rfl ?_ | refine OD.loadP 1 rfl rfl rfl rfl rfl rfl ?_ | refine OD.alloc rfl rfl rfl rfl (fun _ => ?_) | refine OD.storeW 0 rfl rfl rfl rfl (by first | rfl | exact net_ok _) rfl rfl rfl ?_ | (refine OD.callZ (D := Unit) (fun _ => True) (fun _ => resAV (keptN n keep) (foldR (keptN n keep))) (fun _ => [(lb, .row ty3.size (lits.map intAV)), (mb, keptO gi (slR 3 rb (R.map regAV)) (accA tg 2 (G.map gateAV)) (accA tp 2 (P.map pinAV))), (b2, .row ty27.size [ty27.zeroV]), (b1, .row ty27.size [netAV n])]) (fun _ => []) rfl rfl rfl rfl (fun st hS => (c18 _ st hS.noK).elim fun st1 h => CW.prim h18.eq h.1 ⟨(), st1, trivial, res_freeze _ _ _, h.2⟩) (fun _ _ => ?_))) | refine OS.nil ?_ | refine WS.seq ?_ | refine QS.seqN ?_ | refine WS.region ?_ | refine WS.ret ?_)
  refine QS.retO (ResO.cell 3 (by rfl) (by rfl) (by rfl) (by rfl) (by rfl) .nil) fun st hs => ?_
  exact ⟨net_free (foldV (keptN n keep)), net_plain (foldV (keptN n keep))⟩
/-! ### It fits -/
theorem kept_fits {n : GNet} {keep : List Bool} (hV : validM n = true) (hn : FitsN n) : FitsN (keptN n keep) := by
  obtain ⟨f1, f2, f3, f4⟩ := valid_len hV
  have hk01 : 0 < n.k0 := by unfold GNet.k0; omega
  have hk0 : n.k0 ≤ 1001 := by unfold GNet.k0; omega
  have hs := sel_ok (nregs := n.regs.xs.length) hk01 (keep := keep) n.gates.xs n.gates.xs.length (Nat.le_refl _)
  rw [List.take_of_length_le (Nat.le_refl _)] at hs
  have hs : ShOk (n.k0 + (selRM n.k0 keep n.regs.xs.length).2) (n.k0 + n.regs.xs.length + n.gates.xs.length) n.gates.xs.length (keptS n keep) := hs
  have hc := selRM_cnt (k0 := n.k0) (keep := keep) n.regs.xs.length
  have hg := hs.gates
  have hat : ∀ l, Fit64 (atL (keptS n keep).1 l) := fun l => by
    have := hs.at_ l
    unfold Fit64
    omega
  have hin : ∀ r ∈ keptRegs n keep, r ∈ n.regs.xs := fun r hr => pickL_mem hr
  have hrl : (keptRegs n keep).length ≤ n.regs.xs.length := by
    unfold keptRegs; rw [pickL_len _ (Nat.le_refl _)]; exact hc
  obtain ⟨m1, m2, m3, m4, m5, m6, m7, m8, m9, m10⟩ := hn
  unfold keptN
  refine ⟨m1, by rw [gof_xs, List.length_map]; omega, by rw [gof_xs]; omega, by rw [gof_xs, List.length_map]; omega, m5, fun r hr => ?_, fun r hr => ?_, fun g hg' => ?_, fun r hr => ?_, fun r hr => ?_⟩
  · rw [gof_xs] at hr
    obtain ⟨r', h', rfl⟩ := List.mem_map.1 hr
    exact m6 r' (hin r' h')
  · rw [gof_xs] at hr
    obtain ⟨r', h', rfl⟩ := List.mem_map.1 hr
    exact m7 r' h'
  · rw [gof_xs] at hg'
    obtain ⟨i, hi, rfl⟩ := List.getElem_of_mem hg'
    obtain ⟨⟨a1, a2⟩, a3, a4⟩ := hs.ok i hi
    unfold Fit64
    omega
  · rw [gof_xs] at hr
    obtain ⟨r', h', rfl⟩ := List.mem_map.1 hr
    exact hat _
  · rw [gof_xs] at hr
    obtain ⟨r', h', rfl⟩ := List.mem_map.1 hr
    exact hat _
def Rel55 : Rel := RelF (fun p : GNet × List Bool => (validM p.1 = true ∧ FitsN p.1) ∧ p.2.length = p.1.kN + p.1.gates.xs.length) (fun p => [netAV p.1, (GSl.some p.2).av 1 boolAV]) fun p => netAV (foldV (keptN p.1 p.2))
theorem con55 (h1 : pr 55 = none) (h99 : Has pr 99 Rel99) (h18 : HasF pr 18 Rel18) : Con2 (En pr) 55 Rel55 := con_of (fun d => by simp [AV.freeL, net_free, free_av bool_free]) fun d hd st => run55 h1 h99 h18 d.1 hd.1.1 hd.1.2 d.2 hd.2 (kept_fits hd.1.1 hd.1.2) st
theorem use55 (h : Has pr 55 Rel55) {n : GNet} {keep : List Bool} (hV : validM n = true) (hn : FitsN n) (hl : keep.length = n.kN + n.gates.xs.length) (st : St) : primOf Rel55 [netAV n, (GSl.some keep).av 1 boolAV] st = some (netAV (foldV (keptN n keep)), st) := h.use ⟨(n, keep), ⟨⟨hV, hn⟩, hl⟩, by simp [AV.plainL, net_plain, plain_av bool_plain], rfl⟩ st
/-! ### Needed, of the reference -/
theorem foldR_valid {n : GNet} (hV : validM n = true) : validM (foldR n) = true := (fold_same (SameC.refl n)).valid.trans (fold_valid hV)
theorem foldR_fits {n : GNet} (hV : validM n = true) (hn : FitsN n) : FitsN (foldR n) := (fold_same (SameC.refl n)).fits (fold_fits hV hn)
noncomputable def needR (n : GNet) : GNet := foldV (keptN (foldR n) (needN (foldR n)))
def Rel20 : Rel := RelF FitsN (fun n => [netAV n]) fun n => resAV n (needR n)
theorem run20 (h1 : pr 20 = none) (h18 : HasF pr 18 Rel18) (h56 : Has pr 56 Rel56) (h55 : Has pr 55 Rel55) (n : GNet) (hn : FitsN n) (st : St) : CW (En pr) 20 [netAV n] st fun r _ => AV.free r = true ∧ AV.plain r = resAV n (needR n) := by
  have u18 := use18 h18 hn
  rcases (Bool.eq_false_or_eq_true (validM n)).symm with hV | hV
  · rw [res_no hV] at u18
    refine CW.start (N := 19) h1 rfl rfl ?_
    repeat' (first | (refine OS.do rfl ?_; first | refine OD.box rfl rfl rfl rfl (net_ok _) rfl (fun b1 => ?_) | refine OD.auto rfl rfl ?_ | refine OD.loadP 1 rfl rfl rfl rfl rfl rfl ?_ | refine OD.alloc rfl rfl rfl rfl (fun _ => ?_) | refine OD.storeW 0 rfl rfl rfl rfl (by first | rfl | exact net_ok _) rfl rfl rfl ?_ | refine OD.storeW 1 rfl rfl rfl rfl (by first | rfl | exact net_ok _) rfl rfl rfl ?_ | refine OD.call rfl rfl rfl h18.eq u18 (fun _ => rfl) ?_) | refine OS.nil ?_ | refine WS.seq ?_ | refine QS.seqN ?_ | refine WS.region ?_ | refine WS.condT rfl ?_ | refine WS.ret ?_ | refine QS.seqR ?_)
    refine QS.retO (ResO.cell 1 (by rfl) (by rfl) (by rfl) (by rfl) (by rfl) (.tmp (by rfl) .nil)) fun st hs => ⟨rfl, ?_⟩
    rw [res_no hV]; rfl
  · have hV2 := foldR_valid hV
    have hn2 := foldR_fits hV hn
    rw [res_yes hV] at u18
    have u56 := use56 h56 hV2
    have u55 := use55 h55 (keep := needN (foldR n)) hV2 hn2 needL_len
    have z : ∀ (m : GNet) (st : St), freezeA st (.tup [netAV m, .int .i64 0]) = some (.tup [netAV m, .int .i64 0], st) := fun m st => freeze_free (by simp [AV.free, AV.freeL, net_free])
    have z2 : ∀ (m : GNet) (st : St), freezeA st (netAV m) = some (netAV m, st) := fun m st => freeze_free (net_free m)
    have z3 : ∀ (k : List Bool) (st : St), freezeA st ((GSl.some k).av 1 boolAV) = some ((GSl.some k).av 1 boolAV, st) := fun k st => freeze_free (free_av bool_free)
    refine CW.start (N := 19) h1 rfl rfl ?_
    repeat' (first | (refine OS.do rfl ?_; first | refine OD.box rfl rfl rfl rfl (net_ok _) rfl (fun b1 => ?_) | refine OD.auto rfl rfl ?_ | refine OD.loadP 1 rfl rfl rfl rfl rfl rfl ?_ | refine OD.alloc rfl rfl rfl rfl (fun _ => ?_) | refine OD.storeW 0 rfl rfl rfl rfl (by first | rfl | exact net_ok _) rfl rfl rfl ?_ | refine OD.call rfl rfl rfl h18.eq u18 (z _) ?_) | refine OS.nil ?_ | refine WS.seq ?_ | refine QS.seqN ?_ | refine WS.region ?_ | refine WS.condF rfl ?_ | refine WS.skip ?_)
    refine WS.drawY 3 [] (K := []) rfl rfl rfl rfl ?_; (repeat' (first | refine SegY.nil ?_ | refine SegY.auto rfl rfl rfl rfl ?_ | refine SegY.loadP 0 rfl rfl rfl rfl rfl rfl rfl ?_ | refine SegY.loadP 1 rfl rfl rfl rfl rfl rfl rfl ?_ | refine SegY.loadP 2 rfl rfl rfl rfl rfl rfl rfl ?_ | refine SegY.indexAddr rfl rfl rfl rfl rfl ?_ | refine SegY.call rfl rfl rfl rfl h56.eq u56 (z3 _) ?_))
    dsimp only [RSt.at, List.cons_append, List.nil_append]
    repeat' (first | (refine OS.do rfl ?_; first | refine OD.auto rfl rfl ?_ | refine OD.storeW 1 rfl rfl rfl rfl (by first | rfl | exact net_ok _) rfl rfl rfl ?_ | refine OD.call rfl rfl rfl h55.eq u55 (z2 _) ?_) | refine OS.nil ?_ | refine QS.seqN ?_ | refine WS.ret ?_)
    refine QS.retO (ResO.cell 1 (by rfl) (by rfl) (by rfl) (by rfl) (by rfl) (.tmp (by rfl) .nil)) fun st hs => ?_
    rw [res_yes hV]
    exact ⟨by show AV.free (.tup [netAV (needR n), .int .i64 0]) = true; simp [AV.free, AV.freeL, net_free], by show AV.plain (.tup [netAV (needR n), .int .i64 0]) = _; simp only [AV.plain, AV.plainL, net_plain]⟩
theorem con20 (h1 : pr 20 = none) (h18 : HasF pr 18 Rel18) (h56 : Has pr 56 Rel56) (h55 : Has pr 55 Rel55) : Con2 (En pr) 20 Rel20 := con_of (fun d => by simp [AV.freeL, net_free]) fun d hd st => run20 h1 h18 h56 h55 d hd st
theorem use20 (h : Has pr 20 Rel20) {n : GNet} (hn : FitsN n) (st : St) : primOf Rel20 [netAV n] st = some (resAV n (needR n), st) := h.use ⟨n, hn, by simp [AV.plainL, net_plain], rfl⟩ st
end
end Go.OptEnv

/- append onto a row that was cut: it moves. -/
namespace Go.Abs
section
variable {E : Env} {N : Nat} {l : List (Nat × AV)} {L : List (Nat × AObj)} {K : List (Nat × Bool)} {Q : AExit → TM → St → Prop}
variable {pol : Nat → Nat} {ops : Array Oper} {r : List Oper} {i : Nat} {d : Nat} {ty : TypeId} {pos : String} {after : Array Edge} {guard : Option (Nat × Bool)}
/-- A slice of the first of a row's elements. -/
def cutV (sz b len : Nat) : List AV → AV
  | [] => .nilsl
  | _ :: _ => .sl sz b 0 len
theorem cutV_all {sz b : Nat} {xs : List AV} : slR sz b xs = cutV sz b xs.length xs := by cases xs <;> rfl
theorem cutV_cons {sz b len : Nat} {xs : List AV} (h : xs ≠ []) : cutV sz b len xs = .sl sz b 0 len ∧ slO sz b xs = [(b, .row sz xs)] := by
  cases xs with
  | nil => exact absurd rfl h
  | cons x xs => exact ⟨rfl, rfl⟩
/-- append to such a slice. -/
theorem OD.appendS {ts tx e : TypeId} {s x : Operand} {sz sz' b len : Nat} {xs ys : List AV} {a : AV} {tys tyx et : Ty} (hn : Nat.blt d N = true) (hpol : Nat.beq (pol i) 1 = true) (hs : evL l s = some (.sl sz b 0 len)) (hx : evL l x = some a) (hlen : len ≤ xs.length)
    (h1 : E.ty ts = some tys) (h2 : E.ty tx = some tyx) (h3 : tys.d = .slice e) (h4 : E.ty e = some et) (h5 : Nat.blt 0 et.size = true) (h6 : sz = et.size) (h7 : (∃ e', tyx.d = .slice e') ∧ isStrA a = false) (h8 : ∀ st, elemsA st a = some (sz', ys)) (h9 : okElems et ys = true) (h10 : (ys.isEmpty || Nat.beq sz' et.size) = true)
    (hroom : roomA et (len + ys.length) = true) (hy : ys ≠ []) (k : ∀ b', OS E false pol ops r (i + 1) N ((d, cutV sz b' (len + ys.length) (xs.take len ++ ys)) :: l) (L ++ slO sz b' (xs.take len ++ ys)) K Q) :
    OD E false pol ops { dst := some d, op := .call { callee := .builtin .append, args := #[s, x], argTypes := #[ts, tx] }, type := ty, pos := pos, after := after, guard := guard } r i N l (L ++ [(b, .row sz xs)]) K Q := by
  subst h6
  have hne : xs.take len ++ ys ≠ [] := fun c => hy (List.append_eq_nil_iff.1 c).2
  have k : ∀ b', OS E false pol ops r (i + 1) N ((d, .sl et.size b' 0 (len + ys.length)) :: l) (L ++ [(b', .row et.size (xs.take len ++ ys))]) K Q := fun b' => by
    have := k b'
    rw [(cutV_cons hne).1, (cutV_cons (len := 0) hne).2] at this
    exact this
  refine .loud rfl rfl (fun _ h => by cases h) fun tm st hF => ?_
  have h0 : Abs.loud E noCall (pol i) tm st { dst := some d, op := .call { callee := .builtin .append, args := #[s, x], argTypes := #[ts, tx] }, type := ty, pos := pos, after := after, guard := guard } = appendOpA E (pol i == 1) st ts tx (evalO tm s) (evalO tm x) := rfl
  have hp : (pol i == 1) = true := by
    have := Nat.eq_of_beq_eq_true hpol
    simp [this]
  rw [h0, hF.ev hs, hF.ev hx, hp, appendOp_key h1 h2 h3 h4 h5 (.inr h7) st (h8 st) h9 h10]
  have hg := (hF.obj L.length b (.row et.size xs) get_last).1
  refine ⟨.sl et.size st.next 0 (len + ys.length), (st.drop b).new (.row et.size (xs.take len ++ ys)), (d, .sl et.size st.next 0 (len + ys.length)) :: l, L ++ [(st.next, .row et.size (xs.take len ++ ys))], K, ?_, ?_, k st.next⟩
  · simp only [appendA, hg]
    rw [if_pos ⟨trivial, trivial, by omega, hroom⟩]
    simp
  · have hS := hF.s.swap (kk := L.length) get_last (.row et.size (xs.take len ++ ys))
    rw [set_last] at hS
    exact (hF.withS2 hS).put hn _
end
end Go.Abs

/- Literals of nodes are even: half of them are the numbers of the nodes, in plain Lean. -/
namespace Go.NetM
theorem atL_half {l : List Int} {x : Int} (h : l.getD (x / 2).toNat 0 % 2 = 0) : 2 * (l.getD (x / 2).toNat 0 / 2) + x % 2 = atL l x := by
  unfold atL flipL
  by_cases hx : x % 2 = 1
  · rw [if_pos hx, if_pos h]; omega
  · rw [if_neg hx]; omega
def evL (l : List Int) : Prop := ∀ j, l.getD j 0 % 2 = 0
theorem evL_snoc {l : List Int} {x : Int} (h : evL l) (hx : x % 2 = 0) : evL (l ++ [x]) := fun j => by
  rw [getD_snocI]
  split
  · exact h j
  · split
    · exact hx
    · rfl
theorem idL_ev (k : Nat) : evL (idL k) := fun j => by
  rw [idL_get]
  split <;> omega
theorem selRM_ev {k0 : Nat} {keep : List Bool} : ∀ i, evL (selRM k0 keep i).1
  | 0 => idL_ev k0
  | i + 1 => by
    have ih := selRM_ev (k0 := k0) (keep := keep) i
    show evL (selR k0 keep (selRM k0 keep i)).1
    unfold selR
    split
    · exact evL_snoc ih (by omega)
    · exact evL_snoc ih rfl
theorem selM_ev {k0 nregs : Nat} {keep : List Bool} (gs : List (Int × Int)) : ∀ i, i ≤ gs.length → evL (selM k0 nregs keep (gs.take i)).1
  | 0, _ => selRM_ev nregs
  | i + 1, h => by
    have ih := selM_ev (k0 := k0) (nregs := nregs) (keep := keep) gs i (by omega)
    rw [selM_succ (by omega)]
    unfold keepS
    split
    · exact evL_snoc ih (by omega)
    · exact evL_snoc ih rfl
end Go.NetM
