/- Own text of this claim: part 15 of an interpreter that is proved sound against the model, and of what it shows of the law. -/
import Derived.Test.YthomnnnhkfjbdaaGreatAbs14
import Derived.Test.YthomnnnhkfjbdaaGreatAbs13
namespace Go.OptEnv
open Go Go.Proofs Go.Abs Go.RowKit Go.NetM
set_option maxRecDepth 10000
theorem get_left {α : Type} {L M : List α} {k : Nat} {x : α} (h : L[k]? = some x) : (L ++ M)[k]? = some x := by
  rw [List.getElem?_append_left (List.getElem?_eq_some_iff.1 h).1]; exact h
theorem set3 {α : Type} {a b c p q : α} {L : List α} : ((a :: b :: c :: L) ++ [p]).set (L.length + 3) q = (a :: b :: c :: L) ++ [q] := by
  show a :: b :: c :: ((L ++ [p]).set L.length q) = _
  rw [set_last]; rfl
theorem set3' {α : Type} {a b c p q : α} {L : List α} : (a :: b :: c :: (L ++ [p])).set (L.length + 3) q = (a :: b :: c :: L) ++ [q] := set3
theorem set2 {α : Type} {b c p q : α} {L : List α} : ((b :: c :: L) ++ [p]).set (L.length + 2) q = (b :: c :: L) ++ [q] := by
  show b :: c :: ((L ++ [p]).set L.length q) = _
  rw [set_last]; rfl
theorem set2' {α : Type} {b c p q : α} {L : List α} : (b :: c :: (L ++ [p])).set (L.length + 2) q = (b :: c :: L) ++ [q] := set2
theorem use67s {pr : Prims} {L : List (Nat × AObj)} {K : List (Nat × Bool)} {st : St} (h : Has pr 67 Rel67) {kl lb N : Nat} {k : Int} {v : List Int} (hL : L[kl]? = some (lb, .row 1 (v.map intAV))) (hN : N = v.length) (hS : SFa L K st) (hk : 0 ≤ k ∧ k < 4611686018427387904 ∧ k / 2 < v.length) (hv : 0 ≤ v.getD (k / 2).toNat 0 ∧ v.getD (k / 2).toNat 0 < 4611686018427387904) : primOf Rel67 [.sl 1 lb 0 N, .int .i64 k] st = some (.int .i64 (atL v k), st) := by
  subst hN
  have hg := (hS.obj kl lb _ hL).1
  have hf2 : AV.free (.sl 1 lb 0 v.length) = false := rfl
  have e1 : viewA st 9 (.sl 1 lb 0 v.length) = some ((GSl.some v).av 1 intAV) := by
    simp only [viewA, hf2, hg, Bool.false_eq_true, if_false]
    rw [if_pos ⟨trivial, by simp⟩, List.drop_zero, List.take_of_length_le (by simp)]
    have : mapO (viewA st 8) (v.map intAV) = some (v.map intAV) := by
      have h := mapO_free (st := st) 7 (xs := v.map intAV) (freeL_map int_free v)
      rw [plainL_map int_plain] at h
      exact h
    simp only [viewA] at this
    rw [this]; unfold GSl.av; rfl
  have e2 : viewA st 9 (.int .i64 k) = some (.int .i64 k) := viewA_free 8 rfl
  exact h.view (a := [(GSl.some v).av 1 intAV, .int .i64 k]) (r := .int .i64 (atL v k)) (by simp only [mapO, e1, e2]) ⟨(GSl.some v, k), ⟨hk, hv⟩, rfl, rfl⟩ rfl
theorem use67w {pr : Prims} {P : List (Nat × AObj)} {K : List (Nat × Bool)} {st : St} (h : Has pr 67 Rel67) {ab : Nat} {k : Int} {v : List Int} (hS : SFa (P ++ litO 1 ab (v.map intAV)) K st) (hk : 0 ≤ k ∧ k < 4611686018427387904 ∧ k / 2 < v.length) (hv : 0 ≤ v.getD (k / 2).toNat 0 ∧ v.getD (k / 2).toNat 0 < 4611686018427387904) : primOf Rel67 [litV 1 ab (v.map intAV), .int .i64 k] st = some (.int .i64 (atL v k), st) := by
  by_cases h2 : 2 ≤ v.length
  · obtain ⟨e1, e2⟩ := litV_long (sz := 1) (b := ab) (xs := v.map intAV) (by rw [List.length_map]; exact h2)
    rw [e2] at hS
    rw [e1, List.length_map]
    exact use67s h get_last rfl hS hk hv
  · have : litV 1 ab (v.map intAV) = .vs 1 .full (v.map intAV) := by
      match v, h2 with
      | [], _ => rfl
      | [x], _ => rfl
      | x :: y :: v, h2 => simp at h2
    rw [this]
    exact h.use ⟨(GSl.some v, k), ⟨hk, hv⟩, by simp only [AV.plainL, AV.plain, plainL_map int_plain]; rfl, rfl⟩ st
theorem c80acc {pr : Prims} {L : List (Nat × AObj)} {st : St} (h80 : pr 80 = none) {tp : Nat} {P : List GPin} (hP : P.length ≤ 1000000) (hS : SFa L [] st) : CW (En pr) 80 [accA tp 2 (P.map pinAV)] st fun r st' => ∃ (v : AV) (st2 : St), (v.cellOk = true ∧ AV.plain v = (GSl.of P).av 2 pinAV ∧ AV.free v = true) ∧ freezeA st' r = some (v, st2) ∧ SFa L [] st2 := by
  by_cases h : P = []
  · subst h
    exact (run80n h80 hS).mono fun r st' ⟨e, hs⟩ => ⟨.nilsl, st', ⟨rfl, rfl, rfl⟩, by subst e; rfl, hs⟩
  · have e : accA tp 2 (P.map pinAV) = .vs 2 (.tok tp) (P.map pinAV) := acc_vs (fun c => h (List.map_eq_nil_iff.1 c))
    rw [e]
    exact (run80o h80 (xs := P) (sz' := 2) (fun _ _ => rfl) rfl (fun st _ => rfl) (by simp [Nat.beq_refl]) hP hS).mono fun r st' ⟨b, _, e, hs⟩ => by
      obtain ⟨z1, z2⟩ := freeze_sl (n := P.length) (by rw [List.length_map]) hs
      refine ⟨_, _, ⟨rfl, ?_, ?_⟩, by rw [e]; exact z1, z2⟩
      · rw [plain_some pin_plain, gof_some h]; rfl
      · simp only [AV.free]; exact freeL_map pin_free P
theorem SFa.left {L M : List (Nat × AObj)} {st : St} (h : SFa (L ++ M) [] st) : SFa L [] st :=
  ⟨fun k b' o' hk => h.obj k b' o' (get_left hk), fun k k' b' o1 o2 h1 h2 => h.uniq k k' b' o1 o2 (get_left h1) (get_left h2), fun _ _ h => by simp at h, fun _ _ _ h => by simp at h⟩
theorem bare_kept {n : GNet} (hv : validM n = true) (hn : FitsN n) {keep : List Bool} {lits : List Int} (hs : Stand n.k0 n.regs.xs.length keep lits) : FitsN (bareN (cloneG n.ins) ((keptL n keep).map zeroR)) ∧ validM (bareN (cloneG n.ins) ((keptL n keep).map zeroR)) = true := by
  have h0 := ShOk.zero (againL_range hs)
  have h1 : ShOk (n.kk keep) (againL n keep lits).length n.gates.xs.length (againL n keep lits, []) := ⟨h0.len, h0.range, Nat.zero_le _, h0.ok⟩
  have a := bare_fits (netOf_fits (ins := n.ins) rfl hv hn h1)
  have b := bare_valid (netOf_valid (ins := n.ins) rfl hv h1)
  have e : (netOf n.ins n keep (againL n keep lits, [])).regs.xs.map zeroR = (keptL n keep).map zeroR := by
    unfold netOf
    rw [gof_xs, List.map_map]; rfl
  rw [e] at a b
  exact ⟨a, b⟩
attribute [local irreducible] WS QS OS OD Abs.Sub SubO SubK CW GSl.av accA growA
section
variable {pr : Prims} {L : List (Nat × AObj)} {K : List (Nat × Bool)} {st : St}
set_option maxHeartbeats 4000000 in
theorem run61 (h1 : pr 61 = none) (h67 : Has pr 67 Rel67) (h66 : pr 66 = none) (h112 : Has pr 112 Rel112) (h57 : Has pr 57 Rel57) (h62 : pr 62 = none) (h95 : pr 95 = none) (h117 : pr 117 = none) (h94 : pr 94 = none) (h81 : pr 81 = none) (h118 : pr 118 = none) (h137 : pr 137 = none) (h138 : Has pr 138 Rel138) (h80 : pr 80 = none) (h51 : Has pr 51 Rel51)
    (kk kl : Nat) {kb lb : Nat} {kr : List Bool} {ls : List Int} (hk : L[kk]? = some (kb, .row 1 (kr.map boolAV))) (hl : L[kl]? = some (lb, .row 1 (ls.map intAV))) (n : GNet) (hV : validM n = true) (hn : FitsN n) (hkr : kr.length = n.regs.xs.length) (hls : ls.length = n.regs.xs.length) (hs : Stand n.k0 n.regs.xs.length kr ls) (hS : SFa L [] st) :
    CW (En pr) 61 [netAV n, .sl 1 kb 0 n.regs.xs.length, .sl 1 lb 0 n.regs.xs.length, .fn 62 [] []] st fun r st' => r = netAV (againN n kr ls) ∧ SFa L [] st' := by
  obtain ⟨f1, f2, f3, f4⟩ := valid_len hV
  obtain ⟨hgo, hrn, hol⟩ := valid_lits hV
  have hk0 : (n.k0 : Int) = 1 + n.ins.xs.length := by unfold GNet.k0; omega
  have hk0n : n.k0 = 1 + n.ins.xs.length := rfl
  have hk01 : 0 < n.k0 := k0_pos n
  have hk' : n.kN = n.k0 + n.regs.xs.length := rfl
  have hw0 : IntKind.i64.wrap (1 + (n.ins.xs.length : Int)) = (n.k0 : Int) := by rw [wrap64 (by omega) (by omega)]; omega
  have hk3 : ∀ (a b c : Nat × AObj) (M : List (Nat × AObj)), (a :: ((b :: c :: L) ++ M))[kk + 3]? = some (kb, .row 1 (kr.map boolAV)) := fun a b c M => (get_left hk : (L ++ M)[kk]? = _)
  have hk2 : ∀ (b c : Nat × AObj) (M : List (Nat × AObj)), ((b :: c :: L) ++ M)[kk + 2]? = some (kb, .row 1 (kr.map boolAV)) := fun b c M => (get_left hk : (L ++ M)[kk]? = _)
  have hl2 : ∀ (b c : Nat × AObj) (M : List (Nat × AObj)), ((b :: c :: L) ++ M)[kl + 2]? = some (lb, .row 1 (ls.map intAV)) := fun b c M => (get_left hl : (L ++ M)[kl]? = _)
  have hp3 : ∀ (a b c p : Nat × AObj), (a :: ((b :: c :: L) ++ [p]))[L.length + 3]? = some p := fun a b c p => (get_last : (L ++ [p])[L.length]? = _)
  have hp2 : ∀ (b c p : Nat × AObj), ((b :: c :: L) ++ [p])[L.length + 2]? = some p := fun b c p => (get_last : (L ++ [p])[L.length]? = _)
  refine CW.startS (N := 204) h1 rfl rfl hS ?_
  repeat' (first | (refine OS.do rfl ?_; first | refine OD.box rfl rfl rfl rfl (net_ok _) rfl (fun b4 => ?_) | refine OD.auto rfl rfl ?_ | refine OD.loadP 1 rfl rfl rfl rfl rfl rfl ?_ | refine OD.len rfl rfl (fun _ => lenTy_av rfl rfl) ?_ | refine OD.alloc rfl rfl rfl rfl (fun _ => ?_)) | refine OS.nil ?_ | refine WS.seq ?_ | refine QS.seqN ?_ | refine WS.region ?_ | refine WS.block ?_)
  rename_i b8
  refine WS.objs (L' := ((b8, .row ty27.size [ty27.zeroV]) :: (b4, .row ty27.size [netAV n]) :: L) ++ litO 1 0 (([0] : List Int).map intAV)) (by rw [show litO 1 0 (([0] : List Int).map intAV) = [] from rfl, List.append_nil]; exact SubO.refl _) ?_
  refine WS.rangeX (A := Nat × List Int) (n := n.ins.xs.length) ⟨32, _, fun a => [(11, litV 1 a.1 (a.2.map intAV))], fun a => ((b8, .row ty27.size [ty27.zeroV]) :: (b4, .row ty27.size [netAV n]) :: L) ++ litO 1 a.1 (a.2.map intAV), fun _ => [], fun i a => a.2 = idL (1 + i)⟩ ((0, [0])) [1, 2, 3, 4, 8, 9, 10, 31] (rfl) ?_ ?_
  · rintro i ⟨ab, A⟩ hi hA
    try dsimp only at hA
    have hAl : A.length = 1 + i := by rw [hA, idL_len]
    have hne : ∀ _ : Unit, A.map intAV ≠ [] := fun _ c => by rw [List.map_eq_nil_iff] at c; rw [c] at hAl; simp at hAl; omega
    have hw : IntKind.i64.wrap (2 * IntKind.i64.wrap (1 + (i : Int))) = 2 * ((1 + i : Nat) : Int) := by
      rw [wrap64 (n := 1 + (i : Int)) (by omega) (by omega), wrap64 (by omega) (by omega)]; omega
    have hgm : A.map intAV ++ [.int .i64 (2 * ((1 + i : Nat) : Int))] = (A ++ [2 * ((1 + i : Nat) : Int)]).map intAV := by rw [List.map_append]; rfl
    have hlw : ∀ b, litV 1 b ((A ++ [2 * ((1 + i : Nat) : Int)]).map intAV) = .sl 1 b 0 ((A ++ [2 * ((1 + i : Nat) : Int)]).map intAV).length ∧ litO 1 b ((A ++ [2 * ((1 + i : Nat) : Int)]).map intAV) = [(b, .row 1 ((A ++ [2 * ((1 + i : Nat) : Int)]).map intAV))] := fun b => litV_long (by simp; omega)
    dsimp only [RSt.at, List.cons_append, List.nil_append]
    repeat' (first | (refine OS.do rfl ?_; first | refine OD.auto rfl rfl ?_ | (refine OD.appendW (L := _ :: _ :: L) (xs := A.map intAV) (y := .int .i64 (IntKind.i64.wrap (2 * IntKind.i64.wrap (1 + (i : Int))))) rfl rfl rfl rfl (hne ()) rfl rfl rfl rfl rfl rfl ⟨⟨_, rfl⟩, rfl⟩ (fun _ => rfl) rfl rfl (roomB rfl (by simp only [List.length_map]; omega)) (fun ab' => ?_); rw [hw, hgm, ← (hlw _).1, ← (hlw _).2])) | refine OS.nil ?_ | refine WS.seq ?_ | refine QS.seqN ?_ | refine WS.region ?_)
    exact QS.rangeX ((ab', A ++ [2 * ((1 + i : Nat) : Int)])) (by (try dsimp only) <;> exact (by rw [hA, show 1 + (i + 1) = (1 + i) + 1 by omega, idL_succ])) (hL := by (try dsimp only); exact SubO.refl _)
  rintro ⟨ab, A⟩ hA
  try dsimp only at hA
  have hA : A = idL n.k0 := hA
  dsimp only [RSt.at, List.cons_append, List.nil_append]
  repeat' (first | (refine OS.do rfl ?_; first | refine OD.auto rfl rfl ?_ | refine OD.loadP 1 rfl rfl rfl rfl rfl rfl ?_ | refine OD.len rfl rfl (fun _ => lenTy_av rfl rfl) ?_) | refine OS.nil ?_ | refine WS.seq ?_ | refine QS.seqN ?_ | refine WS.region ?_ | refine WS.block ?_)
  refine WS.newK (WS.newK ?_)
  refine WS.rangeX (A := (Nat × List Int) × Nat × Nat × List GReg) (n := n.regs.xs.length) ⟨45, _, fun a => [(11, litV 1 a.1.1 (a.1.2.map intAV)), (9, accA a.2.1 1 ((a.2.2.2.map (·.name)).map strAV)), (10, accA a.2.2.1 1 ((a.2.2.2.map (·.init)).map bitAV))], fun a => ((b8, .row ty27.size [ty27.zeroV]) :: (b4, .row ty27.size [netAV n]) :: L) ++ litO 1 a.1.1 (a.1.2.map intAV), fun a => [(a.2.1, !a.2.2.2.isEmpty), (a.2.2.1, !a.2.2.2.isEmpty)], fun i a => (a.1.2, a.2.2.2.length) = selZ 0 n.k0 kr i ∧ a.2.2.2 = pickL 0 kr n.regs.xs i⟩ (((ab, A), 0, 0, [])) [1, 2, 3, 4, 8, 43, 44] (⟨by rw [hA]; rfl, by simp [pickL]⟩) ?_ ?_ (hm := by (try dsimp only); repeat' (first | exact Sub.nil _ | refine Sub.cons (congrArg some (accA_nil2 _ _).symm) ?_ | refine Sub.cons (congrArg (fun z => some (AV.int .i64 z)) (wrap_succ (by omega))) ?_ | refine Sub.cons rfl ?_))
  · rintro i ⟨⟨ab, A⟩, tn, ti, R⟩ hi ⟨hA, hR⟩
    try dsimp only at hA hR
    have hAl : A.length = n.k0 + i := by
      have := selZ_len (z := 0) (k0 := n.k0) (keep := kr) i
      rw [← hA] at this; exact this
    have hRl : R.length ≤ i := by
      have := selZ_le (z := 0) (k0 := n.k0) (keep := kr) i
      rw [← hA] at this; exact this
    have hne : ∀ _ : Unit, A.map intAV ≠ [] := fun _ c => by rw [List.map_eq_nil_iff] at c; rw [c] at hAl; simp at hAl; omega
    have hkb : (kr.map boolAV)[i]? = some (.bool (kr.getD i false)) := by
      rw [List.getElem?_map, List.getD_eq_getElem?_getD, List.getElem?_eq_getElem (by omega)]; rfl
    have hgm : A.map intAV ++ [.int .i64 0] = (A ++ [0]).map intAV := by rw [List.map_append]; rfl
    have hgl : ((A ++ [0]).map intAV).length = A.length + 1 := by simp
    have hlw : ∀ (v : Int) (b : Nat), litV 1 b ((A ++ [v]).map intAV) = .sl 1 b 0 (A.length + 1) ∧ litO 1 b ((A ++ [v]).map intAV) = [(b, .row 1 ((A ++ [v]).map intAV))] := fun v b => by
      have := litV_long (sz := 1) (b := b) (xs := (A ++ [v]).map intAV) (by simp; omega)
      rw [show ((A ++ [v]).map intAV).length = A.length + 1 by simp] at this
      exact this
    dsimp only [RSt.at, List.cons_append, List.nil_append]
    repeat' (first | (refine OS.do rfl ?_; first | refine OD.loadP (kk + 3) rfl rfl (hk3 _ _ _ _) hkb rfl rfl ?_ | refine OD.auto rfl rfl ?_ | refine OD.indexAddr rfl rfl rfl (indexAddrA_nat rfl rfl rfl rfl (by first | assumption | exact List.getElem?_eq_getElem (by omega))) ?_ | refine OD.alloc rfl rfl rfl rfl (fun _ => ?_) | refine OD.storeW 0 rfl rfl rfl rfl (by first | rfl | exact net_ok _) rfl rfl rfl ?_ | (refine OD.appendW (L := _ :: _ :: _ :: L) (xs := A.map intAV) (y := .int .i64 0) rfl rfl rfl rfl (hne ()) rfl rfl rfl rfl rfl rfl ⟨⟨_, rfl⟩, rfl⟩ (fun _ => rfl) rfl rfl (roomB rfl (by simp only [List.length_map]; omega)) (fun ab' => ?_); rw [hgm, hgl]) | refine OD.indexAddr rfl rfl rfl (indexAddrA_sl rfl rfl rfl rfl (by omega)) ?_) | refine OS.nil ?_ | refine WS.seq ?_ | refine QS.seqN ?_ | refine WS.region ?_ | refine WS.skip ?_ | refine WS.condB rfl (fun _ => ?_) (fun _ => ?_))
    · rename_i hb
      have hm1 : (R.map (·.name)).map strAV ++ [strAV n.regs.xs[i].name] = ((R ++ [n.regs.xs[i]]).map (·.name)).map strAV := by simp
      have hm2 : (R.map (·.init)).map bitAV ++ [bitAV n.regs.xs[i].init] = ((R ++ [n.regs.xs[i]]).map (·.init)).map bitAV := by simp
      have hnl : ((R ++ [n.regs.xs[i]]).map (·.name)).length = R.length + 1 := by simp
      have hwv : IntKind.i64.wrap (2 * IntKind.i64.wrap ((n.ins.xs.length : Int) + ((R.length + 1 : Nat) : Int))) = 2 * ((n.k0 + R.length : Nat) : Int) := by
        rw [wrap64 (n := (n.ins.xs.length : Int) + ((R.length + 1 : Nat) : Int)) (by omega) (by omega), wrap64 (by omega) (by omega)]; omega
      have hki : ∀ ab' : Nat, indexAddrA (En pr) 38 (.sl 1 ab' 0 (A.length + 1)) (.int .i64 (IntKind.i64.wrap (((A.length + 1 : Nat) : Int) - 1))) = some (.ptr ab' A.length 0) := fun ab' => by
        rw [show IntKind.i64.wrap (((A.length + 1 : Nat) : Int) - 1) = ((A.length : Nat) : Int) by rw [wrap64 (by omega) (by omega)]; omega]
        exact indexAddrA_sl rfl rfl rfl rfl (by omega)
      have hz0 : ((A ++ [0]).map intAV)[A.length]? = some (.int .i64 0) := by rw [List.getElem?_map, List.getElem?_append_right (Nat.le_refl _), Nat.sub_self]; rfl
      have hset : ∀ v : Int, ((A ++ [0]).map intAV).set A.length (.int .i64 v) = (A ++ [v]).map intAV := fun v => by
        rw [show (.int .i64 v : AV) = intAV v from rfl, ← List.map_set, set_last]
      refine WS.drawY 8 [(tn, !R.isEmpty), (ti, !R.isEmpty)] (K := []) rfl rfl rfl rfl ?_; (repeat' (first | refine SegY.nil ?_ | refine SegY.auto rfl rfl rfl rfl ?_ | refine SegY.loadP 0 rfl rfl rfl rfl rfl rfl rfl ?_ | refine SegY.loadP 1 rfl rfl rfl rfl rfl rfl rfl ?_ | refine SegY.loadP 2 rfl rfl rfl rfl rfl rfl rfl ?_ | refine SegY.indexAddr rfl rfl rfl rfl rfl ?_ | refine SegY.append 0 (xs := (R.map (·.name)).map strAV) (ys := [strAV n.regs.xs[i].name]) rfl rfl rfl rfl rfl (by simp only [List.isEmpty_map]; rfl) rfl rfl rfl rfl rfl rfl (.inr ⟨⟨_, rfl⟩, rfl⟩) (fun _ => rfl) rfl rfl (roomB rfl (by simp only [List.length_map, List.length_singleton]; omega)) (by simp) (fun tn' => ?_)))
      dsimp only [RSt.at, List.cons_append, List.nil_append]
      repeat' (first | (refine OS.do rfl ?_; first | refine OD.len rfl rfl (fun _ => (lenTy_accm rfl rfl).trans (by rw [hnl])) ?_ | refine OD.indexAddr rfl rfl rfl (hki _) ?_ | refine OD.auto rfl rfl ?_ | refine OD.len rfl rfl (fun _ => lenTy_av rfl rfl) ?_ | refine OD.len rfl rfl (fun _ => rfl) ?_ | refine OD.loadP 2 rfl rfl rfl rfl rfl rfl ?_ | (refine OD.append 1 (xs := (R.map (·.init)).map bitAV) (ys := [bitAV n.regs.xs[i].init]) rfl rfl rfl rfl (by simp only [List.isEmpty_map]; rfl) rfl rfl rfl rfl rfl rfl (.inr ⟨⟨_, rfl⟩, rfl⟩) (fun _ => rfl) rfl rfl (roomB rfl (by simp only [List.length_map, List.length_singleton]; omega)) (fun ti' => ?_); rw [hm1, hm2]) | (rw [hwv]; refine OD.storeI (L.length + 3) rfl rfl rfl rfl (hp3 _ _ _ _) hz0 ?_; first | rw [set3, hset] | rw [set3', hset])) | refine OS.nil ?_ | refine QS.seqN ?_ | refine WS.region ?_)
      rw [← (hlw (2 * ((n.k0 + R.length : Nat) : Int)) ab').1, ← (hlw (2 * ((n.k0 + R.length : Nat) : Int)) ab').2]
      exact QS.rangeX (((ab', A ++ [2 * ((n.k0 + R.length : Nat) : Int)]), tn', ti', R ++ [n.regs.xs[i]])) (by (try dsimp only) <;> exact (⟨by rw [selZ_yes hA hb, List.length_append]; rfl, by rw [pickL_succ hi, Nat.zero_add, if_pos hb, hR]⟩)) (hL := by (try dsimp only); exact SubO.drop (SubO.refl _))
    · rename_i hb
      rw [← (hlw 0 ab').1, ← (hlw 0 ab').2]
      exact QS.rangeX (((ab', A ++ [0]), tn, ti, R)) (by (try dsimp only) <;> exact (⟨by rw [selZ_no hA hb], by rw [pickL_succ hi, Nat.zero_add, if_neg (by rw [hb]; simp), hR]⟩)) (hL := by (try dsimp only); exact SubO.drop (SubO.refl _))
  rintro ⟨⟨ab, A⟩, tn, ti, R⟩ ⟨hA, hR⟩
  try dsimp only at hA hR
  have hR : R = keptL n kr := hR
  have hA0 : A = fillZ 0 n.k0 n.regs.xs.length kr ls 0 := by show A = (selZ 0 n.k0 kr n.regs.xs.length).1; rw [← hA]
  have hAl : A.length = n.kN := by rw [hA0, fillZ_len]; rfl
  dsimp only [RSt.at, List.cons_append, List.nil_append]
  repeat' (first | (refine OS.do rfl ?_; first | refine OD.auto rfl rfl ?_ | refine OD.loadP 1 rfl rfl rfl rfl rfl rfl ?_ | refine OD.len rfl rfl (fun _ => lenTy_av rfl rfl) ?_) | refine OS.nil ?_ | refine WS.seq ?_ | refine QS.seqN ?_ | refine WS.region ?_ | refine WS.block ?_)
  refine WS.rangeX (A := List Int) (n := n.regs.xs.length) ⟨83, _, fun _ => [], fun a => ((b8, .row ty27.size [ty27.zeroV]) :: (b4, .row ty27.size [netAV n]) :: L) ++ litO 1 ab (a.map intAV), fun _ => [], fun i a => a = fillZ 0 n.k0 n.regs.xs.length kr ls i⟩ (A) [1, 2, 3, 4, 8, 9, 10, 11, 82] (hA0) ?_ ?_
  · rintro i a hi ha
    try dsimp only at ha
    have hal : a.length = n.kN := by rw [ha, fillZ_len]; rfl
    have hlA := litV_long (sz := 1) (b := ab) (xs := A.map intAV) (by rw [List.length_map]; omega)
    have hla := litV_long (sz := 1) (b := ab) (xs := a.map intAV) (by rw [List.length_map]; omega)
    rw [List.length_map, hAl] at hlA
    have hkb : (kr.map boolAV)[i]? = some (.bool (kr.getD i false)) := by
      rw [List.getElem?_map, List.getD_eq_getElem?_getD, List.getElem?_eq_getElem (by omega)]; rfl
    have hlb : (ls.map intAV)[i]? = some (.int .i64 (ls.getD i 0)) := by
      rw [List.getElem?_map, List.getD_eq_getElem?_getD, List.getElem?_eq_getElem (by omega)]; rfl
    have hki : indexAddrA (En pr) 38 (.sl 1 ab 0 n.kN) (.int .i64 (IntKind.i64.wrap (IntKind.i64.wrap (1 + (n.ins.xs.length : Int)) + (i : Int)))) = some (.ptr ab (n.k0 + i) 0) := by
      rw [hw0, show IntKind.i64.wrap ((n.k0 : Int) + (i : Int)) = ((n.k0 + i : Nat) : Int) by rw [wrap64 (by omega) (by omega)]; omega]
      exact indexAddrA_sl rfl rfl rfl rfl (by omega)
    have haj : ∀ b : List Int, b.length = n.kN → (b.map intAV)[n.k0 + i]? = some (.int .i64 (b.getD (n.k0 + i) 0)) := fun b hb => by
      rw [List.getElem?_map, List.getD_eq_getElem?_getD, List.getElem?_eq_getElem (by omega)]; rfl
    have hset : ∀ (b : List Int) (v : Int), (b.map intAV).set (n.k0 + i) (.int .i64 v) = (b.set (n.k0 + i) v).map intAV := fun b v => by rw [List.map_set]; rfl
    dsimp only [RSt.at, List.cons_append, List.nil_append]
    rw [hlA.1, hla.2]
    repeat' (first | (refine OS.do rfl ?_; first | refine OD.loadP (kk + 2) rfl rfl (hk2 _ _ _) hkb rfl rfl ?_ | refine OD.auto rfl rfl ?_ | refine OD.indexAddr rfl rfl rfl (indexAddrA_sl rfl rfl rfl rfl (by omega)) ?_) | refine OS.nil ?_ | refine WS.seq ?_ | refine QS.seqN ?_ | refine WS.region ?_ | refine WS.skip ?_ | refine WS.condN rfl (fun _ => ?_) (fun _ => ?_))
    · rename_i hb
      have hb : kr.getD i false = false := by simpa using hb
      obtain ⟨l0, l1, l2⟩ := hs i hi hb
      have hne : (ls.getD i 0 / 2).toNat ≠ n.k0 + i := fun c => by
        rcases l2 with l2 | l2
        · omega
        · rw [c, Nat.add_sub_cancel_left, hb] at l2; cases l2
      have hga : 0 ≤ a.getD (ls.getD i 0 / 2).toNat 0 ∧ a.getD (ls.getD i 0 / 2).toNat 0 < 5000 := by
        rw [ha, fillZ_stays l2]
        have h1 := selZ_range (z := 0) hk01 (keep := kr) n.regs.xs.length _ l2
        have h2 := selZ_le (z := 0) (k0 := n.k0) (keep := kr) n.regs.xs.length
        omega
      have hg1 : (a.set (n.k0 + i) (ls.getD i 0)).getD (ls.getD i 0 / 2).toNat 0 = a.getD (ls.getD i 0 / 2).toNat 0 := by rw [getD_setI, if_neg (fun c => hne c.1.symm)]
      have hat : atL (a.set (n.k0 + i) (ls.getD i 0)) (ls.getD i 0) = atL a (ls.getD i 0) := atL_congr hg1
      have hfin : a.set (n.k0 + i) (atL a (ls.getD i 0)) = fillZ 0 n.k0 n.regs.xs.length kr ls (i + 1) := by rw [fillZ_no hs hi hb, ← ha]
      have hla2 := fun b : List Int => litV_long (sz := 1) (b := ab) (xs := (a.set (n.k0 + i) (ls.getD i 0)).map intAV) (by rw [List.length_map, List.length_set]; omega)
      refine WS.drawY 0 [] (K := []) rfl rfl rfl rfl ?_; (repeat' (first | refine SegY.nil ?_ | refine SegY.auto rfl rfl rfl rfl ?_ | refine SegY.loadP 0 rfl rfl rfl rfl rfl rfl rfl ?_ | refine SegY.loadP 1 rfl rfl rfl rfl rfl rfl rfl ?_ | refine SegY.loadP 2 rfl rfl rfl rfl rfl rfl rfl ?_ | refine SegY.indexAddr rfl rfl rfl rfl rfl ?_))
      dsimp only [RSt.at, List.cons_append, List.nil_append]
      repeat' (first | (refine OS.do rfl ?_; first | refine OD.loadP (kl + 2) rfl rfl (hl2 _ _ _) hlb rfl rfl ?_ | refine OD.indexAddr rfl rfl rfl hki ?_ | refine OD.auto rfl rfl ?_ | refine OD.loadP 1 rfl rfl rfl rfl rfl rfl ?_ | refine OD.len rfl rfl (fun _ => lenTy_av rfl rfl) ?_ | refine OD.indexAddr rfl rfl rfl (indexAddrA_sl rfl rfl rfl rfl (by omega)) ?_ | (refine OD.storeI (L.length + 2) rfl rfl rfl rfl (hp2 _ _ _) (haj _ hal) ?_; first | rw [set2, hset] | rw [set2', hset])) | refine OS.nil ?_ | refine WS.seq ?_ | refine QS.seqN ?_ | refine WS.region ?_ | refine WS.condD rfl (fun _ => ?_) (fun _ => ?_) | refine WS.skip ?_)
      · rename_i hc
        try dsimp only [List.cons_append, List.nil_append]
        refine WS.drawY 13 [] (K := []) rfl rfl rfl rfl ?_; (repeat' (first | refine SegY.nil ?_ | refine SegY.loadP (kl + 2) rfl rfl rfl (hl2 _ _ _) hlb rfl rfl ?_ | refine SegY.auto rfl rfl rfl rfl ?_ | refine SegY.loadP 0 rfl rfl rfl rfl rfl rfl rfl ?_ | refine SegY.loadP 1 rfl rfl rfl rfl rfl rfl rfl ?_ | refine SegY.loadP 2 rfl rfl rfl rfl rfl rfl rfl ?_ | refine SegY.indexAddr rfl rfl rfl rfl rfl ?_ | refine SegY.len rfl rfl rfl (fun _ => lenTy_av rfl rfl) ?_ | refine SegY.indexAddr rfl rfl rfl rfl (indexAddrA_sl rfl rfl rfl rfl (by omega)) ?_ | refine SegY.callW (D := Unit) (fun _ => True) (fun _ => .int .i64 (atL a (ls.getD i 0))) (fun _ => []) (fun _ => []) rfl rfl rfl rfl (fun st hS => CW.prim h67.eq (hat ▸ use67s h67 (hp2 _ _ _) (by rw [List.length_set, hal]) hS ⟨l0, by omega, by rw [List.length_set]; omega⟩ (by rw [hg1]; omega)) ⟨(), st, trivial, rfl, hS⟩) (fun _ _ => ?_)))
        dsimp only [RSt.at, List.cons_append, List.nil_append]
        repeat' (first | (refine OS.do rfl ?_; first | refine OD.indexAddr rfl rfl rfl hki ?_ | (refine OD.storeI (L.length + 2) rfl rfl rfl rfl (hp2 _ _ _) (haj _ (by rw [List.length_set]; exact hal)) ?_; first | rw [set2, hset, List.set_set, hfin] | rw [set2', hset, List.set_set, hfin])) | refine OS.nil ?_)
        have hlf := litV_long (sz := 1) (b := ab) (xs := (fillZ 0 n.k0 n.regs.xs.length kr ls (i + 1)).map intAV) (by rw [List.length_map, fillZ_len]; omega)
        rw [← hlf.2]
        exact QS.rangeX (fillZ 0 n.k0 n.regs.xs.length kr ls (i + 1)) (by (try dsimp only) <;> exact (rfl)) (hL := by (try dsimp only); exact SubO.refl _) (hl := by (try dsimp only [RSt.at, List.cons_append, List.nil_append]); repeat' (first | exact Sub.nil _ | refine Sub.cons (congrArg some hlA.1) ?_ | refine Sub.cons (congrArg (fun z => some (AV.int .i64 z)) (wrap_succ (by omega))) ?_ | refine Sub.cons rfl ?_))
      · rename_i hc
        have hfin2 : a.set (n.k0 + i) (ls.getD i 0) = fillZ 0 n.k0 n.regs.xs.length kr ls (i + 1) := by
          rw [← hfin, atL_const (by rw [ha, fillZ_stays (.inl hk01)]; exact selZ_zero hk01 _) l0 (by omega)]
        have hlf := litV_long (sz := 1) (b := ab) (xs := (fillZ 0 n.k0 n.regs.xs.length kr ls (i + 1)).map intAV) (by rw [List.length_map, fillZ_len]; omega)
        rw [hfin2, ← hlf.2]
        exact QS.rangeX (fillZ 0 n.k0 n.regs.xs.length kr ls (i + 1)) (by (try dsimp only) <;> exact (rfl)) (hL := by (try dsimp only); exact SubO.refl _) (hl := by (try dsimp only [RSt.at, List.cons_append, List.nil_append]); repeat' (first | exact Sub.nil _ | refine Sub.cons (congrArg some hlA.1) ?_ | refine Sub.cons (congrArg (fun z => some (AV.int .i64 z)) (wrap_succ (by omega))) ?_ | refine Sub.cons rfl ?_))
    · rename_i hb
      have hb : kr.getD i false = true := by simpa using hb
      rw [← hla.2]
      exact QS.rangeX (a) (by (try dsimp only) <;> exact (by rw [fillZ_yes hb, ha])) (hL := by (try dsimp only); exact SubO.refl _) (hl := by (try dsimp only [RSt.at, List.cons_append, List.nil_append]); repeat' (first | exact Sub.nil _ | refine Sub.cons (congrArg some hlA.1) ?_ | refine Sub.cons (congrArg (fun z => some (AV.int .i64 z)) (wrap_succ (by omega))) ?_ | refine Sub.cons rfl ?_))
  rintro a ha
  try dsimp only at ha
  have ha : a = againL n kr ls := ha
  have hal : a.length = n.kN := by rw [ha]; exact againL_len _ _ _
  have hVV : litV 1 ab (A.map intAV) = litV 1 ab (a.map intAV) := by
    by_cases h0 : n.regs.xs.length = 0
    · have : A = a := by rw [hA0, ha]; unfold againL; rw [h0]
      rw [this]
    · have e1 := litV_long (sz := 1) (b := ab) (xs := A.map intAV) (by rw [List.length_map]; omega)
      have e2 := litV_long (sz := 1) (b := ab) (xs := a.map intAV) (by rw [List.length_map]; omega)
      rw [e1.1, e2.1, List.length_map, List.length_map, hAl, hal]
  obtain ⟨bf, bv⟩ := bare_kept hV hn hs
  have hkl : (keptL n kr).length ≤ n.regs.xs.length := (keptL_sub n kr).length_le
  have c66 := fun {L' : List (Nat × AObj)} {K' : List (Nat × Bool)} (st : St) (hS : SFa L' K' st) => (run66 h66 h112 h57 n.ins (keptL n kr) tn ti f1 (by omega) bf bv hS).mono fun r st' ⟨d, _, e, h⟩ => (⟨(d.1, ⟨cloneG n.ins, (keptL n kr).map zeroR, d.2.1, d.2.2⟩), ⟨rfl, rfl⟩, e, h⟩ : ∃ d : Nat × MkI, (d.2.ins = cloneG n.ins ∧ d.2.regs = (keptL n kr).map zeroR) ∧ r = AV.tup [.ptr d.1 0 0, .int .i64 0] ∧ SFa ((d.1, mkO d.2 0 []) :: (d.2.tb, thO d.2 []) :: L') ((0, false) :: K') st')
  dsimp only [RSt.at, List.cons_append, List.nil_append]
  rw [hVV, hR]
  repeat' (first | (refine OS.do rfl ?_; first | refine OD.auto rfl rfl ?_ | refine OD.loadP 1 rfl rfl rfl rfl rfl rfl ?_ | refine OD.len rfl rfl (fun _ => lenTy_av rfl rfl) ?_ | refine OD.loadP 3 rfl rfl rfl rfl rfl rfl ?_ | (refine OD.callM (D := Nat × MkI) (fun d => d.2.ins = cloneG n.ins ∧ d.2.regs = (keptL n kr).map zeroR) (fun d => .tup [.ptr d.1 0 0, .int .i64 0]) (fun d => (d.1, mkO d.2 0 []) :: (d.2.tb, thO d.2 []) :: _) (fun _ => [(0, false)]) rfl rfl rfl c66 (fun _ _ _ => rfl) ?_; rintro ⟨mb, m⟩ ⟨hmi, hmr⟩)) | refine OS.nil ?_ | refine WS.seq ?_ | refine QS.seqN ?_ | refine WS.region ?_ | refine WS.block ?_)
  try dsimp only at hmi hmr
  have hmk : m.k = n.kk kr := by unfold MkI.k GNet.kk GNet.k0; rw [hmi, hmr, clone_xs, List.length_map]
  have hmf : m.Fit := ⟨by rw [hmi, clone_xs]; exact f1, by rw [hmr, List.length_map]; omega⟩
  have hkk : n.kk kr ≤ 2001 := by unfold GNet.kk; omega
  dsimp only
  refine WS.rangeX (A := (Nat × List Int) × Nat × List (Int × Int)) (n := n.gates.xs.length) ⟨134, _, fun a => [(11, litV 1 a.1.1 (a.1.2.map intAV))], fun a => ((mb, mkO m a.2.1 a.2.2) :: (m.tb, thO m a.2.2) :: (b8, .row ty27.size [ty27.zeroV]) :: (b4, .row ty27.size [netAV n]) :: L) ++ litO 1 a.1.1 (a.1.2.map intAV), fun a => [(a.2.1, !a.2.2.isEmpty)], fun i a => (a.1.2, a.2.2) = shareM (n.kk kr) (againL n kr ls) (n.gates.xs.take i)⟩ (((ab, a), 0, [])) [1, 3, 4, 8, 16, 132, 133] (by rw [ha]; rfl) ?_ ?_
  · rintro i ⟨⟨ab, R⟩, tg, G⟩ hi hA
    try dsimp only at hA
    have hsh := again_sh hs (Nat.le_of_lt hi)
    rw [← hA] at hsh
    have hRl := hsh.len
    have hGl := hsh.gates
    try dsimp only at hRl hGl
    have hne : R.map intAV ≠ [] := fun c => by rw [List.map_eq_nil_iff] at c; rw [c] at hRl; simp at hRl; omega
    obtain ⟨⟨g1, g2⟩, g3, g4⟩ := hgo i hi
    have r1 := hsh.range (n.gates.xs[i].1 / 2).toNat
    have r2 := hsh.range (n.gates.xs[i].2 / 2).toNat
    have a1 := hsh.at_ n.gates.xs[i].1
    have a2 := hsh.at_ n.gates.xs[i].2
    try dsimp only at r1 r2 a1 a2
    rw [← hmk] at a1 a2
    have c62 := fun {L' : List (Nat × AObj)} {K : List (Nat × Bool)} (km kt kg : Nat) (hm : L'[km]? = some (mb, mkO m tg G)) (ht : L'[kt]? = some (m.tb, thO m G)) (hg : K[kg]? = some (tg, !G.isEmpty)) (hne : km ≠ kt) (st : St) (hS : SFa L' K st) => run62 h62 h95 h117 h94 km kt kg hm ht hg hne hmf (by omega) a1 a2 hS
    obtain ⟨⟨lit, G'⟩, hAnd⟩ : ∃ res, res = andG m.k G (atL R n.gates.xs[i].1) (atL R n.gates.xs[i].2) := ⟨_, rfl⟩
    simp only [← hAnd] at c62
    have hstep : (R ++ [lit], G') = stepM (n.kk kr) (R, G) n.gates.xs[i] := by unfold stepM; rw [← hmk, ← hAnd]
    have hgm : R.map intAV ++ [.int .i64 lit] = (R ++ [lit]).map intAV := by rw [List.map_append]; rfl
    have hlw : ∀ b, litV 1 b ((R ++ [lit]).map intAV) = .sl 1 b 0 ((R ++ [lit]).map intAV).length ∧ litO 1 b ((R ++ [lit]).map intAV) = [(b, .row 1 ((R ++ [lit]).map intAV))] := fun b => litV_long (by simp; omega)
    dsimp only [RSt.at, List.cons_append, List.nil_append]
    repeat' (first | (refine OS.do rfl ?_; first | refine OD.auto rfl rfl ?_ | refine OD.indexAddr rfl rfl rfl (indexAddrA_nat rfl rfl rfl rfl (by first | assumption | exact List.getElem?_eq_getElem (by omega))) ?_ | refine OD.alloc rfl rfl rfl rfl (fun _ => ?_) | refine OD.storeW 0 rfl rfl rfl rfl (by first | rfl | exact net_ok _) rfl rfl rfl ?_) | refine OS.nil ?_ | refine WS.seq ?_ | refine QS.seqN ?_ | refine WS.region ?_)
    refine WS.drawY 10 [] (K := [(tg, !G.isEmpty)]) rfl rfl rfl rfl ?_; (repeat' (first | refine SegY.nil ?_ | refine SegY.auto rfl rfl rfl rfl ?_ | refine SegY.loadP 0 rfl rfl rfl rfl rfl rfl rfl ?_ | refine SegY.loadP 1 rfl rfl rfl rfl rfl rfl rfl ?_ | refine SegY.loadP 2 rfl rfl rfl rfl rfl rfl rfl ?_ | refine SegY.indexAddr rfl rfl rfl rfl rfl ?_ | refine SegY.callW (D := Unit) (fun _ => True) (fun _ => .int .i64 (atL R n.gates.xs[i].1)) (fun _ => []) (fun _ => []) rfl rfl rfl rfl (fun st hS => CW.prim h67.eq (use67w h67 (P := _ :: _ :: _ :: _ :: _ :: L) hS ⟨g1, by omega, by omega⟩ (by omega)) ⟨(), st, trivial, rfl, hS⟩) (fun _ _ => ?_)))
    dsimp only [RSt.at, List.cons_append, List.nil_append]
    repeat' (first | (refine OS.do rfl ?_; first | refine OD.auto rfl rfl ?_ | (refine OD.callV rfl rfl rfl h67.eq (fun st hS => use67w h67 (P := _ :: _ :: _ :: _ :: _ :: L) hS ⟨g3, by omega, by omega⟩ (by omega)) (fun _ => rfl) ?_) | (refine OD.callM (D := Nat) (fun _ => True) (fun _ => .int .i64 lit) _ _ rfl rfl rfl (c62 1 2 0 rfl rfl rfl (by decide)) (fun _ _ _ => rfl) ?_; rintro tg' _) | (refine OD.appendW (L := _ :: _ :: _ :: _ :: _ :: L) (xs := R.map intAV) (y := .int .i64 lit) rfl rfl rfl rfl hne rfl rfl rfl rfl rfl rfl ⟨⟨_, rfl⟩, rfl⟩ (fun _ => rfl) rfl rfl (roomB rfl (by simp only [List.length_map]; omega)) (fun ab' => ?_); rw [hgm, ← (hlw _).1, ← (hlw _).2])) | refine OS.nil ?_)
    exact QS.rangeX (((ab', R ++ [lit]), tg', G')) (by (try dsimp only) <;> exact (by rw [hstep, hA, shareM_succ hi])) (hL := by (try dsimp only); exact SubO.drop (SubO.refl _))
  rintro ⟨⟨ab, R⟩, tg, G⟩ hA
  try dsimp only at hA
  rw [List.take_of_length_le (Nat.le_refl _)] at hA
  have hA : (R, G) = againS n kr ls := hA
  have hsh := againS_sh hs
  rw [← hA] at hsh
  have hRl := hsh.len
  have hGl := hsh.gates
  try dsimp only at hRl hGl
  have uw : ∀ {P : List (Nat × AObj)} {K : List (Nat × Bool)} (l : Int), (0 ≤ l ∧ l < 2 * ((n.kN + n.gates.xs.length : Nat) : Int)) → ∀ st, SFa (P ++ litO 1 ab (R.map intAV)) K st → primOf Rel67 [litV 1 ab (R.map intAV), .int .i64 l] st = some (.int .i64 (atL R l), st) := fun l hl st hS => by
    have hr := hsh.range (l / 2).toNat
    dsimp only at hr
    exact use67w h67 hS ⟨hl.1, by omega, by omega⟩ (by omega)
  have hk5 : ∀ (a b c d e : Nat × AObj) (M : List (Nat × AObj)), ((a :: b :: c :: d :: e :: L) ++ M)[kk + 5]? = some (kb, .row 1 (kr.map boolAV)) := fun a b c d e M => (get_left hk : (L ++ M)[kk]? = _)
  dsimp only [RSt.at, List.cons_append, List.nil_append]
  repeat' (first | (refine OS.do rfl ?_; first | refine OD.auto rfl rfl ?_ | refine OD.len rfl rfl (fun _ => lenTy_av rfl rfl) ?_ | refine OD.loadP 3 rfl rfl rfl rfl rfl rfl ?_) | refine OS.nil ?_ | refine WS.seq ?_ | refine QS.seqN ?_ | refine WS.region ?_ | refine WS.block ?_)
  refine WS.newK ?_
  refine WS.rangeX (A := Nat × List Int) (n := n.regs.xs.length) ⟨156, _, fun a => [(20, accA a.1 1 (a.2.map intAV))], fun _ => ((mb, mkO m tg G) :: (m.tb, thO m G) :: (b8, .row ty27.size [ty27.zeroV]) :: (b4, .row ty27.size [netAV n]) :: L) ++ litO 1 ab (R.map intAV), fun a => [(a.1, !a.2.isEmpty)], fun i a => a.2 = (pickL 0 kr n.regs.xs i).map (fun r => atL R r.next)⟩ ((0, [])) [1, 4, 8, 11, 16, 154, 155] (by simp [pickL]) ?_ ?_ (hm := by (try dsimp only); repeat' (first | exact Sub.nil _ | refine Sub.cons (congrArg some (accA_nil2 _ _).symm) ?_ | refine Sub.cons (congrArg (fun z => some (AV.int .i64 z)) (wrap_succ (by omega))) ?_ | refine Sub.cons rfl ?_))
  · rintro i ⟨tx, X⟩ hi hX
    try dsimp only at hX
    have hXl : X.length ≤ i := by
      rw [hX, List.length_map, pick_cnt (z := 0) (k0 := n.k0) _ (by omega)]; exact selZ_le _
    have hrn' := hrn _ (List.getElem_mem hi)
    have hkb : (kr.map boolAV)[i]? = some (.bool (kr.getD i false)) := by
      rw [List.getElem?_map, List.getD_eq_getElem?_getD, List.getElem?_eq_getElem (by omega)]; rfl
    have hgm : X.map intAV ++ [.int .i64 (atL R n.regs.xs[i].next)] = (X ++ [atL R n.regs.xs[i].next]).map intAV := by rw [List.map_append]; rfl
    dsimp only [RSt.at, List.cons_append, List.nil_append]
    repeat' (first | (refine OS.do rfl ?_; first | refine OD.loadP (kk + 5) rfl rfl (hk5 _ _ _ _ _ _) hkb rfl rfl ?_ | refine OD.loadP 0 rfl rfl rfl rfl rfl rfl ?_ | refine OD.auto rfl rfl ?_ | refine OD.indexAddr rfl rfl rfl (indexAddrA_nat rfl rfl rfl rfl (by first | assumption | exact List.getElem?_eq_getElem (by omega))) ?_ | refine OD.alloc rfl rfl rfl rfl (fun _ => ?_) | refine OD.storeW 0 rfl rfl rfl rfl (by first | rfl | exact net_ok _) rfl rfl rfl ?_ | refine OD.indexAddr rfl rfl rfl (indexAddrA_sl rfl rfl rfl rfl (by omega)) ?_ | (refine OD.callV rfl rfl rfl h67.eq (fun st hS => uw (P := _ :: _ :: _ :: _ :: _ :: L) _ hrn' st hS) (fun _ => rfl) ?_) | (refine OD.append 0 (xs := X.map intAV) (ys := [.int .i64 (atL R n.regs.xs[i].next)]) rfl rfl rfl rfl (by rw [List.isEmpty_map]; rfl) rfl rfl rfl rfl rfl rfl (.inr ⟨⟨_, rfl⟩, rfl⟩) (fun _ => rfl) rfl rfl (roomB rfl (by simp only [List.length_map, List.length_singleton]; omega)) (fun t' => ?_); rw [hgm])) | refine OS.nil ?_ | refine WS.seq ?_ | refine QS.seqN ?_ | refine WS.region ?_ | refine WS.skip ?_ | refine WS.condB rfl (fun _ => ?_) (fun _ => ?_))
    · rename_i hb
      rw [List.isEmpty_map]
      exact QS.rangeX ((t', X ++ [atL R n.regs.xs[i].next])) (by (try dsimp only) <;> exact (by rw [pickL_succ hi, Nat.zero_add, if_pos hb, List.map_append, hX]; rfl)) (hL := by (try dsimp only); exact SubO.drop (SubO.refl _))
    · rename_i hb
      exact QS.rangeX ((tx, X)) (by (try dsimp only) <;> exact (by rw [pickL_succ hi, Nat.zero_add, if_neg (by rw [hb]; simp), hX])) (hL := by (try dsimp only); exact SubO.drop (SubO.refl _))
  rintro ⟨tx, X⟩ hX
  try dsimp only at hX
  have hX : X = (keptL n kr).map (fun r => atL R r.next) := hX
  dsimp only [RSt.at, List.cons_append, List.nil_append]
  repeat' (first | (refine OS.do rfl ?_; first | refine OD.auto rfl rfl ?_ | refine OD.len rfl rfl (fun _ => lenTy_av rfl rfl) ?_ | refine OD.loadP 3 rfl rfl rfl rfl rfl rfl ?_) | refine OS.nil ?_ | refine WS.seq ?_ | refine QS.seqN ?_ | refine WS.region ?_ | refine WS.block ?_)
  refine WS.newK ?_
  refine WS.rangeX (A := Nat × List GPin) (n := n.outs.xs.length) ⟨176, _, fun a => [(23, accA a.1 2 (a.2.map pinAV))], fun _ => ((mb, mkO m tg G) :: (m.tb, thO m G) :: (b8, .row ty27.size [ty27.zeroV]) :: (b4, .row ty27.size [netAV n]) :: L) ++ litO 1 ab (R.map intAV), fun a => [(a.1, !a.2.isEmpty)], fun i a => a.2 = (n.outs.xs.take i).map (withLit R)⟩ ((0, [])) [8, 11, 16, 20, 174, 175] (rfl) ?_ ?_ (hm := by (try dsimp only); repeat' (first | exact Sub.nil _ | refine Sub.cons (congrArg some (accA_nil2 _ _).symm) ?_ | refine Sub.cons (congrArg (fun z => some (AV.int .i64 z)) (wrap_succ (by omega))) ?_ | refine Sub.cons rfl ?_))
  · rintro i ⟨tp, P⟩ hi hP
    try dsimp only at hP
    have hol' := hol _ (List.getElem_mem hi)
    have hPl : P.length = i := by rw [hP, List.length_map, List.length_take]; omega
    have hgm : P.map pinAV ++ [pinAV (withLit R n.outs.xs[i])] = (P ++ [withLit R n.outs.xs[i]]).map pinAV := by rw [List.map_append]; rfl
    dsimp only [RSt.at, List.cons_append, List.nil_append]
    repeat' (first | (refine OS.do rfl ?_; first | refine OD.auto rfl rfl ?_ | refine OD.indexAddr rfl rfl rfl (indexAddrA_nat rfl rfl rfl rfl (by first | assumption | exact List.getElem?_eq_getElem (by omega))) ?_ | refine OD.alloc rfl rfl rfl rfl (fun _ => ?_) | refine OD.storeW 0 rfl rfl rfl rfl (by first | rfl | exact net_ok _) rfl rfl rfl ?_) | refine OS.nil ?_ | refine WS.seq ?_ | refine QS.seqN ?_ | refine WS.region ?_)
    refine WS.drawY 7 [] (K := [(tp, !P.isEmpty)]) rfl rfl rfl rfl ?_; (repeat' (first | refine SegY.nil ?_ | refine SegY.auto rfl rfl rfl rfl ?_ | refine SegY.loadP 0 rfl rfl rfl rfl rfl rfl rfl ?_ | refine SegY.loadP 1 rfl rfl rfl rfl rfl rfl rfl ?_ | refine SegY.loadP 2 rfl rfl rfl rfl rfl rfl rfl ?_ | refine SegY.indexAddr rfl rfl rfl rfl rfl ?_ | refine SegY.callW (D := Unit) (fun _ => True) (fun _ => .int .i64 (atL R n.outs.xs[i].lit)) (fun _ => []) (fun _ => []) rfl rfl rfl rfl (fun st hS => CW.prim h67.eq (uw (P := _ :: _ :: _ :: _ :: _ :: L) _ hol' st hS) ⟨(), st, trivial, rfl, hS⟩) (fun _ _ => ?_)))
    dsimp only [RSt.at, List.cons_append, List.nil_append]
    repeat' (first | (refine OS.do rfl ?_; first | refine OD.auto rfl rfl ?_ | (refine OD.append 0 (xs := P.map pinAV) (ys := [pinAV (withLit R n.outs.xs[i])]) rfl rfl rfl rfl (by rw [List.isEmpty_map]; rfl) rfl rfl rfl rfl rfl rfl (.inr ⟨⟨_, rfl⟩, rfl⟩) (fun _ => rfl) rfl rfl (roomB rfl (by simp only [List.length_map, List.length_singleton]; omega)) (fun t' => ?_); rw [hgm])) | refine OS.nil ?_)
    rw [List.isEmpty_map]
    exact QS.rangeX ((t', P ++ [withLit R n.outs.xs[i]])) (by (try dsimp only) <;> exact (by rw [map_take_succ hi, hP])) (hL := by (try dsimp only); exact SubO.drop (SubO.refl _))
  rintro ⟨tp, P⟩ hP
  try dsimp only at hP
  rw [List.take_of_length_le (Nat.le_refl _)] at hP
  have hPl : P.length = n.outs.xs.length := by rw [hP, List.length_map]
  have hnet : netN m X G (GSl.of P) = againM n kr ls := by
    unfold netN againM netOf nextR
    rw [hmi, hmr, hX, hP, cloneG_clone, List.zipWith_map, List.zipWith_self, ← hA]
    rfl
  have hMV := again_valid hV hs
  have hMF := again_fits hV hn hs
  have u51 : ∀ (q : Quad), QOk q (againM n kr ls) → ∀ st, primOf Rel51 [qAV q] st = some (.tup [netAV (againN n kr ls), .int .i64 0], st) := fun q hq st => by
    have := h51.use (args := [qAV q]) (r := resAV (againM n kr ls) (cleanN (againM n kr ls))) ⟨againM n kr ls, hMF, by simp [AV.plainL, hq.plain], rfl⟩ st
    rw [res_yes hMV] at this
    exact this
  have z : ∀ (q : GNet) (st : St), freezeA st (.tup [netAV q, .int .i64 0]) = some (.tup [netAV q, .int .i64 0], st) := fun q st => freeze_free (by simp [AV.free, AV.freeL, net_free])
  dsimp only [RSt.at, List.cons_append, List.nil_append]
  repeat' (first | (refine OS.do rfl ?_; first | refine OD.storeW 0 rfl rfl rfl rfl hq.ok rfl rfl rfl ?_ | refine OD.storeW 0 rfl rfl rfl rfl (net_ok _) rfl rfl rfl ?_ | refine OD.loadP 0 rfl rfl rfl rfl rfl rfl ?_ | refine OD.auto rfl rfl ?_ | refine OD.alloc rfl rfl rfl rfl (fun _ => ?_) | (refine OD.callZ (D := Quad) (fun q => QOk q (againM n kr ls)) (fun q => .tup [qAV q, .int .i64 0]) (fun _ => _) (fun _ => []) rfl rfl rfl rfl (fun st hS => (hnet ▸ run81 h81 h117 h118 h112 h137 h138 h80 h57 0 rfl hmf (by omega) (by rw [hX, hmr, List.length_map, List.length_map]) (fun X st hS => c80acc h80 (by omega) hS) (hnet ▸ hMF) (hnet ▸ hMV) hS.noK)) ?_; rintro q hq) | refine OD.call rfl rfl rfl h51.eq (u51 q hq) (z _) ?_ | refine OD.storeW 3 rfl rfl rfl rfl (net_ok _) rfl rfl rfl ?_) | refine OS.nil ?_ | refine WS.seq ?_ | refine QS.seqN ?_ | refine WS.region ?_ | refine WS.ret ?_)
  exact QS.retO (ResO.cell 3 (by rfl) (by rfl) (by rfl) (by rfl) (by rfl) .nil) fun st hs => ⟨rfl, SFa.left (hs.subO (.drop (.drop (.drop (.drop (.drop (.refl _)))))))⟩
end
end Go.OptEnv

namespace Go.Abs
section
variable {E : Env} {N : Nat} {l : List (Nat × AV)} {L : List (Nat × AObj)} {K : List (Nat × Bool)} {Q : AExit → TM → St → Prop}
variable {pol : Nat → Nat} {ops : Array Oper} {r : List Oper} {i : Nat} {d : Nat} {ty : TypeId} {pos : String} {after : Array Edge} {guard : Option (Nat × Bool)}
end
end Go.Abs

namespace Go.Abs
theorem SubO.trans {L M N : List (Nat × AObj)} (h : SubO L M) (k : SubO M N) : SubO L N := by
  obtain ⟨f, f1, f2⟩ := h
  obtain ⟨g, g1, g2⟩ := k
  refine ⟨fun i => f (g i), fun i p hp => f1 _ _ (g1 i p hp), fun i j hi hj e => g2 i j hi hj (f2 _ _ ?_ ?_ e)⟩
  · exact (List.getElem?_eq_some_iff.1 (g1 i _ (List.getElem?_eq_getElem hi))).1
  · exact (List.getElem?_eq_some_iff.1 (g1 j _ (List.getElem?_eq_getElem hj))).1
theorem SubO.mid {n : Nat × AObj} {M : List (Nat × AObj)} : ∀ {P : List (Nat × AObj)}, SubO (n :: (P ++ M)) ((P ++ [n]) ++ M)
  | [] => SubO.refl _
  | p :: P => SubO.swap.trans (SubO.keep (SubO.mid (P := P)))
theorem get_mid {α : Type} {P M : List α} {x : α} : ((P ++ [x]) ++ M)[P.length]? = some x := by
  rw [List.append_assoc, List.getElem?_append_right (Nat.le_refl _), Nat.sub_self]; rfl
theorem set_mid {α : Type} {P M : List α} {x y : α} : ((P ++ [x]) ++ M).set P.length y = (P ++ [y]) ++ M := by
  rw [List.append_assoc, List.set_append_right _ _ (Nat.le_refl _), Nat.sub_self, List.append_assoc]; rfl
section
variable {E : Env} {N : Nat} {l : List (Nat × AV)} {K : List (Nat × Bool)} {Q : AExit → TM → St → Prop}
variable {pol : Nat → Nat} {ops : Array Oper} {r : List Oper} {i : Nat} {d : Nat} {ty : TypeId} {pos : String} {after : Array Edge} {guard : Option (Nat × Bool)}
theorem OD.appendM {P M : List (Nat × AObj)} {ts tx e : TypeId} {s x : Operand} {sz sz' b : Nat} {xs : List AV} {y a : AV} {tys tyx et : Ty} (hn : Nat.blt d N = true) (hpol : Nat.beq (pol i) 1 = true) (hs : evL l s = some (slR sz b xs)) (hx : evL l x = some a)
    (h1 : E.ty ts = some tys) (h2 : E.ty tx = some tyx) (h3 : tys.d = .slice e) (h4 : E.ty e = some et) (h5 : Nat.blt 0 et.size = true) (h6 : sz = et.size) (h7 : (∃ e', tyx.d = .slice e') ∧ isStrA a = false) (h8 : ∀ st, elemsA st a = some (sz', [y])) (h9 : okElems et [y] = true) (h10 : Nat.beq sz' et.size = true)
    (hroom : roomA et (xs.length + 1) = true) (k : ∀ b', OS E false pol ops r (i + 1) N ((d, slR sz b' (xs ++ [y])) :: l) ((P ++ slO sz b' (xs ++ [y])) ++ M) K Q) :
    OD E false pol ops { dst := some d, op := .call { callee := .builtin .append, args := #[s, x], argTypes := #[ts, tx] }, type := ty, pos := pos, after := after, guard := guard } r i N l ((P ++ slO sz b xs) ++ M) K Q := by
  subst h6
  refine .loud rfl rfl (fun _ h => by cases h) fun tm st hF => ?_
  have h0 : Abs.loud E noCall (pol i) tm st { dst := some d, op := .call { callee := .builtin .append, args := #[s, x], argTypes := #[ts, tx] }, type := ty, pos := pos, after := after, guard := guard } = appendOpA E (pol i == 1) st ts tx (evalO tm s) (evalO tm x) := rfl
  have hp : (pol i == 1) = true := by
    have := Nat.eq_of_beq_eq_true hpol
    simp [this]
  rw [h0, hF.ev hs, hF.ev hx, hp, appendOp_key h1 h2 h3 h4 h5 (.inr h7) st (h8 st) h9 (by simpa using h10)]
  cases xs with
  | nil =>
    rw [List.nil_append] at k
    refine ⟨.sl et.size st.next 0 1, st.new (.row et.size [y]), _, (P ++ [(st.next, .row et.size [y])]) ++ M, K, ?_, ?_, k st.next⟩
    · simp only [slR, appendA, List.length_singleton]
      rw [if_pos (by simpa using hroom)]
      rfl
    · have hF0 : Fa N l (P ++ M) K tm st := by simpa [slO] using hF
      exact ((hF0.new _).sub (fun _ _ h => h) SubO.mid (.refl _)).put hn _
  | cons x0 xs =>
    have hg := (hF.obj P.length b (.row et.size (x0 :: xs)) (by simp only [slO]; exact get_mid)).1
    refine ⟨.sl et.size st.next 0 ((x0 :: xs).length + 1), (st.drop b).new (.row et.size ((x0 :: xs) ++ [y])), (d, .sl et.size st.next 0 ((x0 :: xs).length + 1)) :: l, (P ++ [(st.next, .row et.size ((x0 :: xs) ++ [y]))]) ++ M, K, ?_, ?_, ?_⟩
    · simp only [slR, appendA, hg]
      rw [if_pos ⟨trivial, trivial, by omega, by simpa using hroom⟩]
      simp
    · have hS := hF.s.swap (kk := P.length) (by simp only [slO]; exact get_mid) (.row et.size ((x0 :: xs) ++ [y]))
      simp only [slO] at hS
      rw [set_mid] at hS
      exact (hF.withS2 hS).put hn _
    · have := k st.next
      rw [show slR et.size st.next (x0 :: xs ++ [y]) = .sl et.size st.next 0 ((x0 :: xs).length + 1) by simp [slR]] at this
      exact this
end
end Go.Abs

namespace Go.OptEnv
open Go Go.Proofs Go.Abs Go.RowKit Go.NetM
set_option maxRecDepth 10000
theorem use99w {pr : Prims} {P : List (Nat × AObj)} {K : List (Nat × Bool)} {st : St} (h : Has pr 99 Rel99) {ab : Nat} {k : Int} {v : List Int} (hS : SFa (P ++ litO 1 ab (v.map intAV)) K st) (hk : 0 ≤ k ∧ k < 4611686018427387904 ∧ k / 2 < v.length) (hv : 0 ≤ v.getD (k / 2).toNat 0 ∧ v.getD (k / 2).toNat 0 < 4611686018427387904) : primOf Rel99 [litV 1 ab (v.map intAV), .int .i64 k] st = some (.int .i64 (atL v k), st) := by
  by_cases h2 : 2 ≤ v.length
  · obtain ⟨e1, e2⟩ := litV_long (sz := 1) (b := ab) (xs := v.map intAV) (by rw [List.length_map]; exact h2)
    rw [e2] at hS
    rw [e1, List.length_map]
    exact use99s h get_last rfl hS hk hv
  · have : litV 1 ab (v.map intAV) = .vs 1 .full (v.map intAV) := by
      match v, h2 with
      | [], _ => rfl
      | [x], _ => rfl
      | x :: y :: v, h2 => simp at h2
    rw [this]
    exact h.use ⟨(GSl.some v, k), ⟨hk, hv⟩, by simp only [AV.plainL, AV.plain, plainL_map int_plain]; rfl, rfl⟩ st
def negL (ss : List Int) : List Bool := ss.map fun s => decide (s < 0)
theorem negL_get {ss : List Int} {i : Nat} (h : i < ss.length) : (negL ss).getD i false = decide (ss.getD i 0 < 0) := by
  unfold negL
  rw [List.getD_eq_getElem?_getD, List.getD_eq_getElem?_getD, List.getElem?_map, List.getElem?_eq_getElem h]; rfl
attribute [local irreducible] WS QS OS OD Abs.Sub SubO SubK CW GSl.av accA growA
section
variable {pr : Prims}
set_option maxHeartbeats 4000000 in
theorem run63 (h1 : pr 63 = none) (h99 : Has pr 99 Rel99) (h18 : HasF pr 18 Rel18) (n : GNet) (hV : validM n = true) (hn : FitsN n) (s : GSl Int) (hsl : s.xs.length = n.regs.xs.length) (hs : Stand n.k0 n.regs.xs.length (negL s.xs) s.xs) (st : St) :
    CW (En pr) 63 [netAV n, s.av 1 intAV] st fun r _ => AV.free r = true ∧ AV.plain r = netAV (foldR (withoutN n (negL s.xs) s.xs)) := by
  obtain ⟨f1, f2, f3, f4⟩ := valid_len hV
  obtain ⟨hgo, hrn, hol⟩ := valid_lits hV
  have hk0 : (n.k0 : Int) = 1 + n.ins.xs.length := by unfold GNet.k0; omega
  have hk01 : 0 < n.k0 := k0_pos n
  have hk' : n.kN = n.k0 + n.regs.xs.length := rfl
  have hw0 : IntKind.i64.wrap (1 + (n.ins.xs.length : Int)) = (n.k0 : Int) := by rw [wrap64 (by omega) (by omega)]; omega
  have hwi : ∀ i : Nat, i < n.regs.xs.length → IntKind.i64.wrap (IntKind.i64.wrap (1 + (n.ins.xs.length : Int)) + (i : Int)) = ((n.k0 + i : Nat) : Int) := fun i hi => by
    rw [hw0, wrap64 (by omega) (by omega)]; omega
  refine CW.start (N := 192) h1 rfl rfl ?_
  refine WS.newK ?_
  repeat' (first | (refine OS.do rfl ?_; first | refine OD.box rfl rfl rfl rfl (net_ok _) rfl (fun b2 => ?_) | refine OD.build rfl rfl bld1 ?_ | refine OD.storeW 0 rfl rfl rfl rfl (ok4 grow_cell rfl rfl rfl) rfl rfl rfl ?_ | refine OD.auto rfl rfl ?_ | refine OD.loadP 1 rfl rfl rfl rfl rfl rfl ?_ | refine OD.len rfl rfl (fun _ => lenTy_av rfl rfl) ?_ | refine OD.loadP 2 rfl rfl rfl rfl rfl rfl ?_ | refine OD.alloc rfl rfl rfl rfl (fun _ => ?_) | (refine OD.appendGS 0 (f := strAV) (s' := n.ins) (t := 0) (b := false) (ys := []) rfl rfl (by unfold growA; rfl) rfl rfl rfl rfl rfl rfl rfl rfl ⟨_, rfl⟩ (fun _ => ⟨rfl, rfl⟩) (roomB rfl (by simp only [List.length_nil]; omega)) (fun gt => ?_))) | refine OS.nil ?_ | refine WS.seq ?_ | refine QS.seqN ?_ | refine WS.region ?_ | refine WS.block ?_)
  rename_i b4 b5
  generalize hgi : growA (false || !n.ins.xs.isEmpty) gt 1 (([] ++ n.ins.xs).map strAV) = gi
  have hgf : AV.free gi = true := by rw [← hgi]; exact free_grow str_free
  have hgp : AV.plain gi = (GSl.some n.ins.xs).av 1 strAV := by rw [← hgi]; exact plain_grow str_plain
  have hgl : ∀ st, lenTy (En pr) st 22 gi = some (.int .i64 (n.ins.xs.length : Int)) := fun st => by rw [← hgi, lenTy_grow rfl rfl]; simp
  clear hgi
  have hmo : AObj.row ty27.size [AV.agg [gi, .nilsl, .nilsl, .nilsl]] = keptO gi (slR 3 0 (([] : List GReg).map regAV)) (accA 0 2 (([] : List (Int × Int)).map gateAV)) (accA 0 2 (([] : List GPin).map pinAV)) := by
    simp only [List.map_nil, acc_nil]; rfl
  refine WS.objs (L' := ([(b5, keptO gi (slR 3 0 (([] : List GReg).map regAV)) (accA 0 2 (([] : List (Int × Int)).map gateAV)) (accA 0 2 (([] : List GPin).map pinAV))), (b4, .row ty27.size [ty27.zeroV]), (b2, .row ty27.size [netAV n])] ++ slO 3 0 (([] : List GReg).map regAV)) ++ litO 1 0 (([0] : List Int).map intAV)) (by rw [← hmo]; exact SubO.refl _) ?_
  refine WS.rangeX (A := Nat × List Int) (n := n.ins.xs.length) ⟨30, _, fun a => [(6, litV 1 a.1 (a.2.map intAV))], fun a => ([(b5, keptO gi (slR 3 0 (([] : List GReg).map regAV)) (accA 0 2 (([] : List (Int × Int)).map gateAV)) (accA 0 2 (([] : List GPin).map pinAV))), (b4, .row ty27.size [ty27.zeroV]), (b2, .row ty27.size [netAV n])] ++ slO 3 0 (([] : List GReg).map regAV)) ++ litO 1 a.1 (a.2.map intAV), fun _ => [], fun i a => a.2 = idL (1 + i)⟩ ((0, [0])) [1, 2, 4, 5, 29] (rfl) ?_ ?_
  · rintro i ⟨ab, A⟩ hi hA
    try dsimp only at hA
    have hAl : A.length = 1 + i := by rw [hA, idL_len]
    have hne : A.map intAV ≠ [] := fun c => by rw [List.map_eq_nil_iff] at c; rw [c] at hAl; simp at hAl; omega
    have hw : IntKind.i64.wrap (2 * IntKind.i64.wrap (1 + (i : Int))) = 2 * ((1 + i : Nat) : Int) := by
      rw [wrap64 (n := 1 + (i : Int)) (by omega) (by omega), wrap64 (by omega) (by omega)]; omega
    have hgm : A.map intAV ++ [.int .i64 (2 * ((1 + i : Nat) : Int))] = (A ++ [2 * ((1 + i : Nat) : Int)]).map intAV := by rw [List.map_append]; rfl
    have hlw : ∀ b, litV 1 b ((A ++ [2 * ((1 + i : Nat) : Int)]).map intAV) = .sl 1 b 0 ((A ++ [2 * ((1 + i : Nat) : Int)]).map intAV).length ∧ litO 1 b ((A ++ [2 * ((1 + i : Nat) : Int)]).map intAV) = [(b, .row 1 ((A ++ [2 * ((1 + i : Nat) : Int)]).map intAV))] := fun b => litV_long (by simp; omega)
    dsimp only [RSt.at, List.cons_append, List.nil_append]
    repeat' (first | (refine OS.do rfl ?_; first | refine OD.auto rfl rfl ?_ | (refine OD.appendW (L := [_, _, _]) (xs := A.map intAV) (y := .int .i64 (IntKind.i64.wrap (2 * IntKind.i64.wrap (1 + (i : Int))))) rfl rfl rfl rfl hne rfl rfl rfl rfl rfl rfl ⟨⟨_, rfl⟩, rfl⟩ (fun _ => rfl) rfl rfl (roomB rfl (by simp only [List.length_map]; omega)) (fun ab' => ?_); rw [hw, hgm, ← (hlw _).1, ← (hlw _).2])) | refine OS.nil ?_ | refine WS.seq ?_ | refine QS.seqN ?_ | refine WS.region ?_)
    exact QS.rangeX ((ab', A ++ [2 * ((1 + i : Nat) : Int)])) (by (try dsimp only) <;> exact (by rw [hA, show 1 + (i + 1) = (1 + i) + 1 by omega, idL_succ])) (hL := by (try dsimp only); exact SubO.refl _)
  rintro ⟨ab, A⟩ hA
  try dsimp only at hA
  have hA : A = idL n.k0 := hA
  dsimp only [RSt.at, List.cons_append, List.nil_append]
  repeat' (first | (refine OS.do rfl ?_; first | refine OD.auto rfl rfl ?_ | refine OD.len rfl rfl (fun _ => lenTy_av rfl rfl) ?_ | refine OD.loadP 2 rfl rfl rfl rfl rfl rfl ?_) | refine OS.nil ?_ | refine WS.seq ?_ | refine QS.seqN ?_ | refine WS.region ?_ | refine WS.block ?_)
  refine WS.rangeX (A := (Nat × List Int) × Nat × List GReg) (n := n.regs.xs.length) ⟨43, _, fun a => [(6, litV 1 a.1.1 (a.1.2.map intAV))], fun a => ([(b5, keptO gi (slR 3 a.2.1 (a.2.2.map regAV)) (accA 0 2 (([] : List (Int × Int)).map gateAV)) (accA 0 2 (([] : List GPin).map pinAV))), (b4, .row ty27.size [ty27.zeroV]), (b2, .row ty27.size [netAV n])] ++ slO 3 a.2.1 (a.2.2.map regAV)) ++ litO 1 a.1.1 (a.1.2.map intAV), fun _ => [], fun i a => (a.1.2, a.2.2.length) = selZ (-1) n.k0 (negL s.xs) i ∧ a.2.2 = pickL 0 (negL s.xs) n.regs.xs i⟩ (((ab, A), 0, [])) [1, 2, 4, 5, 41, 42] (⟨by rw [hA]; rfl, by simp [pickL]⟩) ?_ ?_
  · rintro i ⟨⟨ab, A⟩, rb, R⟩ hi ⟨hA, hR⟩
    try dsimp only at hA hR
    have hAl : A.length = n.k0 + i := by
      have := selZ_len (z := -1) (k0 := n.k0) (keep := negL s.xs) i
      rw [← hA] at this; exact this
    have hRl : R.length ≤ i := by
      have := selZ_le (z := -1) (k0 := n.k0) (keep := negL s.xs) i
      rw [← hA] at this; exact this
    have hne : A.map intAV ≠ [] := fun c => by rw [List.map_eq_nil_iff] at c; rw [c] at hAl; simp at hAl; omega
    have hgm : A.map intAV ++ [.int .i64 (-1)] = (A ++ [-1]).map intAV := by rw [List.map_append]; rfl
    have hgl2 : ((A ++ [-1]).map intAV).length = A.length + 1 := by simp
    have hlw : ∀ (v : Int) (b : Nat), litV 1 b ((A ++ [v]).map intAV) = .sl 1 b 0 (A.length + 1) ∧ litO 1 b ((A ++ [v]).map intAV) = [(b, .row 1 ((A ++ [v]).map intAV))] := fun v b => by
      have := litV_long (sz := 1) (b := b) (xs := (A ++ [v]).map intAV) (by simp; omega)
      rw [show ((A ++ [v]).map intAV).length = A.length + 1 by simp] at this
      exact this
    have hsi : s.xs[i]? = some (s.xs.getD i 0) := by rw [List.getD_eq_getElem?_getD, List.getElem?_eq_getElem (by omega)]; rfl
    have hng := negL_get (ss := s.xs) (i := i) (by omega)
    have hgr : R.map regAV ++ [regAV n.regs.xs[i]] = (R ++ [n.regs.xs[i]]).map regAV := by rw [List.map_append]; rfl
    have hR1 : (R ++ [n.regs.xs[i]]).map regAV ≠ [] := by simp
    have hwv : IntKind.i64.wrap (2 * IntKind.i64.wrap ((n.ins.xs.length : Int) + ((R ++ [n.regs.xs[i]]).length : Int))) = 2 * ((n.k0 + R.length : Nat) : Int) := by
      rw [List.length_append, List.length_singleton, wrap64 (n := (n.ins.xs.length : Int) + ((R.length + 1 : Nat) : Int)) (by omega) (by omega), wrap64 (by omega) (by omega)]; omega
    have hki : ∀ ab' : Nat, indexAddrA (En pr) 38 (.sl 1 ab' 0 (A.length + 1)) (.int .i64 (IntKind.i64.wrap (IntKind.i64.wrap (1 + (n.ins.xs.length : Int)) + (i : Int)))) = some (.ptr ab' (n.k0 + i) 0) := fun ab' => by
      rw [hwi i hi]; exact indexAddrA_sl rfl rfl rfl rfl (by omega)
    have hz0 : ((A ++ [-1]).map intAV)[n.k0 + i]? = some (.int .i64 (-1)) := by rw [List.getElem?_map, List.getElem?_append_right (by omega), hAl, Nat.sub_self]; rfl
    have hset : ∀ v : Int, ((A ++ [-1]).map intAV).set (n.k0 + i) (.int .i64 v) = (A ++ [v]).map intAV := fun v => by
      rw [show (.int .i64 v : AV) = intAV v from rfl, ← List.map_set, ← hAl, set_last]
    dsimp only [RSt.at, List.cons_append, List.nil_append]
    repeat' (first | (refine OS.do rfl ?_; first | refine OD.indexAddr rfl rfl rfl (indexAddrA_int rfl rfl rfl rfl (by omega) hsi) ?_ | refine OD.indexAddr rfl rfl rfl (hki _) ?_ | refine OD.len rfl rfl (fun _ => lenTy_slRm rfl rfl) ?_ | refine OD.loadP 0 rfl rfl rfl rfl rfl rfl ?_ | refine OD.auto rfl rfl ?_ | refine OD.loadP 1 rfl rfl rfl rfl rfl rfl ?_ | refine OD.len rfl rfl (fun _ => lenTy_av rfl rfl) ?_ | refine OD.indexAddr rfl rfl rfl (indexAddrA_nat rfl rfl rfl rfl (by first | assumption | exact List.getElem?_eq_getElem (by omega))) ?_ | refine OD.alloc rfl rfl rfl rfl (fun _ => ?_) | refine OD.storeW 0 rfl rfl rfl rfl (by first | rfl | exact net_ok _) rfl rfl rfl ?_ | refine OD.loadP 3 rfl rfl rfl rfl rfl rfl ?_ | (refine OD.appendW (L := _ :: _ :: _ :: _ :: slO 3 rb (R.map regAV)) (xs := A.map intAV) (y := .int .i64 (-1)) rfl rfl rfl rfl hne rfl rfl rfl rfl rfl rfl ⟨⟨_, rfl⟩, rfl⟩ (fun _ => rfl) rfl rfl (roomB rfl (by simp only [List.length_map]; omega)) (fun ab' => ?_); rw [hgm, hgl2]) | (refine OD.appendM (P := [_, _, _, _]) (y := regAV n.regs.xs[i]) rfl rfl rfl rfl rfl rfl rfl rfl rfl rfl ⟨⟨_, rfl⟩, rfl⟩ (fun _ => rfl) rfl rfl (roomB rfl (by simp only [List.length_map]; omega)) (fun rb' => ?_); rw [hgr, (slR_long (sz := 3) (b := rb') hR1).2]) | (refine OD.storeG 1 rfl rfl rfl rfl rfl slR_ok (by rw [slR_cells]; rfl) (by rw [slR_cells]; rfl) ?_; rw [st_rK]) | (rw [hwv]; refine OD.storeI 5 rfl rfl rfl rfl rfl hz0 ?_)) | refine OS.nil ?_ | refine WS.seq ?_ | refine QS.seqN ?_ | refine WS.region ?_ | refine WS.condD rfl (fun _ => ?_) (fun _ => ?_) | refine WS.skip ?_)
    · rename_i hb
      have hkt : (negL s.xs).getD i false = true := by rw [hng, decide_eq_true hb]
      dsimp only [List.set_cons_zero, List.set_cons_succ, List.cons_append, List.nil_append]
      rw [hset, ← (hlw (2 * ((n.k0 + R.length : Nat) : Int)) ab').1, ← (hlw (2 * ((n.k0 + R.length : Nat) : Int)) ab').2]
      exact QS.rangeX (((ab', A ++ [2 * ((n.k0 + R.length : Nat) : Int)]), rb', R ++ [n.regs.xs[i]])) (by (try dsimp only) <;> exact (⟨by rw [selZ_yes hA hkt, List.length_append]; rfl, by rw [pickL_succ hi, Nat.zero_add, if_pos hkt, hR]⟩)) (hL := by (try dsimp only); rw [(slR_long (sz := 3) (b := rb') hR1).2]; exact SubO.drop (SubO.refl _))
    · rename_i hb
      have hkf : (negL s.xs).getD i false = false := by rw [hng, decide_eq_false hb]
      rw [← (hlw (-1) ab').1, ← (hlw (-1) ab').2]
      exact QS.rangeX (((ab', A ++ [-1]), rb, R)) (by (try dsimp only) <;> exact (⟨by rw [selZ_no hA hkf], by rw [pickL_succ hi, Nat.zero_add, if_neg (by rw [hkf]; simp), hR]⟩)) (hL := by (try dsimp only); exact SubO.drop (SubO.refl _))
  rintro ⟨⟨ab, A⟩, rb, R⟩ ⟨hA, hR⟩
  try dsimp only at hA hR
  have hR : R = keptL n (negL s.xs) := hR
  have hA0 : A = fillZ (-1) n.k0 n.regs.xs.length (negL s.xs) s.xs 0 := by show A = (selZ (-1) n.k0 (negL s.xs) n.regs.xs.length).1; rw [← hA]
  have hAl : A.length = n.kN := by rw [hA0, fillZ_len]; rfl
  have hRl : R.length ≤ n.regs.xs.length := by rw [hR]; exact (keptL_sub n _).length_le
  have hp3 : ∀ (a b c p : Nat × AObj), (a :: b :: c :: (slO 3 rb (R.map regAV) ++ [p]))[(slO 3 rb (R.map regAV)).length + 3]? = some p := fun a b c p => (get_last : (slO 3 rb (R.map regAV) ++ [p])[(slO 3 rb (R.map regAV)).length]? = _)
  dsimp only [RSt.at, List.cons_append, List.nil_append]
  repeat' (first | (refine OS.do rfl ?_; first | refine OD.auto rfl rfl ?_ | refine OD.len rfl rfl (fun _ => lenTy_av rfl rfl) ?_ | refine OD.loadP 2 rfl rfl rfl rfl rfl rfl ?_) | refine OS.nil ?_ | refine WS.seq ?_ | refine QS.seqN ?_ | refine WS.region ?_ | refine WS.block ?_)
  refine WS.rangeX (A := List Int) (n := n.regs.xs.length) ⟨82, _, fun _ => [], fun a => ([(b5, keptO gi (slR 3 rb (R.map regAV)) (accA 0 2 (([] : List (Int × Int)).map gateAV)) (accA 0 2 (([] : List GPin).map pinAV))), (b4, .row ty27.size [ty27.zeroV]), (b2, .row ty27.size [netAV n])] ++ slO 3 rb (R.map regAV)) ++ litO 1 ab (a.map intAV), fun _ => [], fun i a => a = fillZ (-1) n.k0 n.regs.xs.length (negL s.xs) s.xs i⟩ (A) [1, 2, 4, 5, 6, 81] (hA0) ?_ ?_
  · rintro i a hi ha
    try dsimp only at ha
    have hal : a.length = n.kN := by rw [ha, fillZ_len]; rfl
    have hlA := litV_long (sz := 1) (b := ab) (xs := A.map intAV) (by rw [List.length_map]; omega)
    have hla := litV_long (sz := 1) (b := ab) (xs := a.map intAV) (by rw [List.length_map]; omega)
    rw [List.length_map, hAl] at hlA
    have hsi : s.xs[i]? = some (s.xs.getD i 0) := by rw [List.getD_eq_getElem?_getD, List.getElem?_eq_getElem (by omega)]; rfl
    have hng := negL_get (ss := s.xs) (i := i) (by omega)
    have hki : indexAddrA (En pr) 38 (.sl 1 ab 0 n.kN) (.int .i64 (IntKind.i64.wrap (IntKind.i64.wrap (1 + (n.ins.xs.length : Int)) + (i : Int)))) = some (.ptr ab (n.k0 + i) 0) := by
      rw [hwi i hi]; exact indexAddrA_sl rfl rfl rfl rfl (by omega)
    have haj : (a.map intAV)[n.k0 + i]? = some (.int .i64 (a.getD (n.k0 + i) 0)) := by
      rw [List.getElem?_map, List.getD_eq_getElem?_getD, List.getElem?_eq_getElem (by omega)]; rfl
    have hset : ∀ (v : Int), (a.map intAV).set (n.k0 + i) (.int .i64 v) = (a.set (n.k0 + i) v).map intAV := fun v => by rw [List.map_set]; rfl
    dsimp only [RSt.at, List.cons_append, List.nil_append]
    rw [hlA.1, hla.2]
    repeat' (first | (refine OS.do rfl ?_; first | refine OD.indexAddr rfl rfl rfl (indexAddrA_int rfl rfl rfl rfl (by omega) hsi) ?_ | refine OD.auto rfl rfl ?_) | refine OS.nil ?_ | refine WS.seq ?_ | refine QS.seqN ?_ | refine WS.region ?_ | refine WS.condD rfl (fun _ => ?_) (fun _ => ?_) | refine WS.skip ?_)
    · rename_i hb
      have hb : 0 ≤ s.xs.getD i 0 := hb
      have hb0 : (negL s.xs).getD i false = false := by rw [hng, decide_eq_false (by omega)]
      obtain ⟨l0, l1, l2⟩ := hs i hi hb0
      have hga : 0 ≤ a.getD (s.xs.getD i 0 / 2).toNat 0 ∧ a.getD (s.xs.getD i 0 / 2).toNat 0 < 5000 := by
        rw [ha, fillZ_stays l2]
        have h1 := selZ_range (z := -1) hk01 (keep := (negL s.xs)) n.regs.xs.length _ l2
        have h2 := selZ_le (z := -1) (k0 := n.k0) (keep := (negL s.xs)) n.regs.xs.length
        omega
      have hfin : a.set (n.k0 + i) (atL a (s.xs.getD i 0)) = fillZ (-1) n.k0 n.regs.xs.length (negL s.xs) s.xs (i + 1) := by rw [fillZ_no hs hi hb0, ← ha]
      have hlf := litV_long (sz := 1) (b := ab) (xs := (fillZ (-1) n.k0 n.regs.xs.length (negL s.xs) s.xs (i + 1)).map intAV) (by rw [List.length_map, fillZ_len]; omega)
      refine WS.drawY 13 [] (K := []) rfl rfl rfl rfl ?_; (repeat' (first | refine SegY.nil ?_ | refine SegY.indexAddr rfl rfl rfl rfl (indexAddrA_int rfl rfl rfl rfl (by omega) hsi) ?_ | refine SegY.auto rfl rfl rfl rfl ?_ | refine SegY.loadP 0 rfl rfl rfl rfl rfl rfl rfl ?_ | refine SegY.loadP 1 rfl rfl rfl rfl rfl rfl rfl ?_ | refine SegY.loadP 2 rfl rfl rfl rfl rfl rfl rfl ?_ | refine SegY.indexAddr rfl rfl rfl rfl rfl ?_ | refine SegY.len rfl rfl rfl (fun _ => lenTy_av rfl rfl) ?_ | refine SegY.callW (D := Unit) (fun _ => True) (fun _ => .int .i64 (atL a (s.xs.getD i 0))) (fun _ => []) (fun _ => []) rfl rfl rfl rfl (fun st hS => CW.prim h99.eq (use99s h99 (hp3 _ _ _ _) hal.symm hS ⟨l0, by omega, by omega⟩ (by omega)) ⟨(), st, trivial, rfl, hS⟩) (fun _ _ => ?_)))
      dsimp only [RSt.at, List.cons_append, List.nil_append]
      repeat' (first | (refine OS.do rfl ?_; first | refine OD.indexAddr rfl rfl rfl hki ?_ | (refine OD.storeI ((slO 3 rb (R.map regAV)).length + 3) rfl rfl rfl rfl (hp3 _ _ _ _) haj ?_; rw [set3', hset, hfin])) | refine OS.nil ?_)
      rw [← hlf.2]
      exact QS.rangeX (fillZ (-1) n.k0 n.regs.xs.length (negL s.xs) s.xs (i + 1)) (by (try dsimp only) <;> exact (rfl)) (hL := by (try dsimp only); exact SubO.refl _) (hl := by (try dsimp only [RSt.at, List.cons_append, List.nil_append]); repeat' (first | exact Sub.nil _ | refine Sub.cons (congrArg some hlA.1) ?_ | refine Sub.cons (congrArg (fun z => some (AV.int .i64 z)) (wrap_succ (by omega))) ?_ | refine Sub.cons rfl ?_))
    · rename_i hb
      have hb1 : (negL s.xs).getD i false = true := by rw [hng, decide_eq_true (by omega)]
      rw [← hla.2]
      exact QS.rangeX (a) (by (try dsimp only) <;> exact (by rw [fillZ_yes hb1, ha])) (hL := by (try dsimp only); exact SubO.refl _) (hl := by (try dsimp only [RSt.at, List.cons_append, List.nil_append]); repeat' (first | exact Sub.nil _ | refine Sub.cons (congrArg some hlA.1) ?_ | refine Sub.cons (congrArg (fun z => some (AV.int .i64 z)) (wrap_succ (by omega))) ?_ | refine Sub.cons rfl ?_))
  rintro a ha
  try dsimp only at ha
  have ha0 := ha
  rw [fill_eq (z' := 0) hs] at ha
  have ha : a = againL n (negL s.xs) s.xs := ha
  have hal : a.length = n.kN := by rw [ha]; exact againL_len _ _ _
  have hVV : litV 1 ab (A.map intAV) = litV 1 ab (a.map intAV) := by
    by_cases h0 : n.regs.xs.length = 0
    · have : A = a := by rw [hA0, ha0, h0]
      rw [this]
    · have e1 := litV_long (sz := 1) (b := ab) (xs := A.map intAV) (by rw [List.length_map]; omega)
      have e2 := litV_long (sz := 1) (b := ab) (xs := a.map intAV) (by rw [List.length_map]; omega)
      rw [e1.1, e2.1, List.length_map, List.length_map, hAl, hal]
  have hkkR : n.kk (negL s.xs) = n.k0 + R.length := by unfold GNet.kk; rw [← hR]
  have hwt : IntKind.i64.wrap (IntKind.i64.wrap (1 + (n.ins.xs.length : Int)) + (R.length : Int)) = (n.kk (negL s.xs) : Int) := by
    rw [hw0, wrap64 (by omega) (by omega), hkkR]; omega
  dsimp only [RSt.at, List.cons_append, List.nil_append]
  rw [hVV]
  repeat' (first | (refine OS.do rfl ?_; first | refine OD.len rfl rfl hgl ?_ | refine OD.len rfl rfl (fun _ => lenTy_slRm rfl rfl) ?_ | refine OD.loadP 0 rfl rfl rfl rfl rfl rfl ?_ | refine OD.auto rfl rfl ?_ | refine OD.len rfl rfl (fun _ => lenTy_av rfl rfl) ?_ | refine OD.loadP 2 rfl rfl rfl rfl rfl rfl ?_) | refine OS.nil ?_ | refine WS.seq ?_ | refine QS.seqN ?_ | refine WS.region ?_ | refine WS.block ?_)
  rw [hwt]
  refine WS.newK ?_
  refine WS.rangeX (A := (Nat × List Int) × Nat × List (Int × Int)) (n := n.gates.xs.length) ⟨116, _, fun a => [(6, litV 1 a.1.1 (a.1.2.map intAV))], fun a => ([(b5, keptO gi (slR 3 rb (R.map regAV)) (accA a.2.1 2 (a.2.2.map gateAV)) (accA 0 2 (([] : List GPin).map pinAV))), (b4, .row ty27.size [ty27.zeroV]), (b2, .row ty27.size [netAV n])] ++ slO 3 rb (R.map regAV)) ++ litO 1 a.1.1 (a.1.2.map intAV), fun a => [(a.2.1, !a.2.2.isEmpty)], fun i a => (a.1.2, a.2.2) = rawM (n.kk (negL s.xs)) (againL n (negL s.xs) s.xs) (n.gates.xs.take i)⟩ (((ab, a), 0, [])) [2, 4, 5, 11, 114, 115] (by rw [ha]; rfl) ?_ ?_
  · rintro i ⟨⟨ab, V⟩, tg, G⟩ hi hA
    try dsimp only at hA
    have hsh := raw_sh hs (Nat.le_of_lt hi)
    rw [← hA] at hsh
    have hVl := hsh.len
    have hGl := (rawM_lens (k := n.kk (negL s.xs)) (all0 := againL n (negL s.xs) s.xs) (gs := n.gates.xs) i (Nat.le_of_lt hi)).2
    rw [← hA] at hGl
    try dsimp only at hVl hGl
    have hne : V.map intAV ≠ [] := fun c => by rw [List.map_eq_nil_iff] at c; rw [c] at hVl; simp at hVl; omega
    obtain ⟨⟨g1, g2⟩, g3, g4⟩ := hgo i hi
    have r1 := hsh.range (n.gates.xs[i].1 / 2).toNat
    have r2 := hsh.range (n.gates.xs[i].2 / 2).toNat
    try dsimp only at r1 r2
    have hw : IntKind.i64.wrap (2 * IntKind.i64.wrap ((n.kk (negL s.xs) : Int) + (G.length : Int))) = 2 * ((n.kk (negL s.xs) + G.length : Nat) : Int) := by
      rw [wrap64 (n := (n.kk (negL s.xs) : Int) + (G.length : Int)) (by omega) (by omega), wrap64 (by omega) (by omega)]; omega
    have hgm : V.map intAV ++ [.int .i64 (2 * ((n.kk (negL s.xs) + G.length : Nat) : Int))] = (V ++ [2 * ((n.kk (negL s.xs) + G.length : Nat) : Int)]).map intAV := by rw [List.map_append]; rfl
    have hlw : ∀ b, litV 1 b ((V ++ [2 * ((n.kk (negL s.xs) + G.length : Nat) : Int)]).map intAV) = .sl 1 b 0 ((V ++ [2 * ((n.kk (negL s.xs) + G.length : Nat) : Int)]).map intAV).length ∧ litO 1 b ((V ++ [2 * ((n.kk (negL s.xs) + G.length : Nat) : Int)]).map intAV) = [(b, .row 1 ((V ++ [2 * ((n.kk (negL s.xs) + G.length : Nat) : Int)]).map intAV))] := fun b => litV_long (by simp; omega)
    have hgg : G.map gateAV ++ [gateAV (atL V n.gates.xs[i].1, atL V n.gates.xs[i].2)] = (G ++ [(atL V n.gates.xs[i].1, atL V n.gates.xs[i].2)]).map gateAV := by rw [List.map_append]; rfl
    dsimp only [RSt.at, List.cons_append, List.nil_append]
    repeat' (first | (refine OS.do rfl ?_; first | refine OD.auto rfl rfl ?_ | refine OD.indexAddr rfl rfl rfl (indexAddrA_nat rfl rfl rfl rfl (by first | assumption | exact List.getElem?_eq_getElem (by omega))) ?_ | refine OD.alloc rfl rfl rfl rfl (fun _ => ?_) | refine OD.storeW 0 rfl rfl rfl rfl (by first | rfl | exact net_ok _) rfl rfl rfl ?_) | refine OS.nil ?_ | refine WS.seq ?_ | refine QS.seqN ?_ | refine WS.region ?_)
    refine WS.drawY 7 [] (K := [(tg, !G.isEmpty)]) rfl rfl rfl rfl ?_; (repeat' (first | refine SegY.nil ?_ | refine SegY.auto rfl rfl rfl rfl ?_ | refine SegY.loadP 0 rfl rfl rfl rfl rfl rfl rfl ?_ | refine SegY.loadP 1 rfl rfl rfl rfl rfl rfl rfl ?_ | refine SegY.loadP 2 rfl rfl rfl rfl rfl rfl rfl ?_ | refine SegY.indexAddr rfl rfl rfl rfl rfl ?_ | refine SegY.callW (D := Unit) (fun _ => True) (fun _ => .int .i64 (atL V n.gates.xs[i].1)) (fun _ => []) (fun _ => []) rfl rfl rfl rfl (fun st hS => CW.prim h99.eq (use99w h99 (P := _ :: _ :: _ :: _ :: slO 3 rb (R.map regAV)) hS ⟨g1, by omega, by omega⟩ (by omega)) ⟨(), st, trivial, rfl, hS⟩) (fun _ _ => ?_)))
    dsimp only [RSt.at, List.cons_append, List.nil_append]
    repeat' (first | (refine OS.do rfl ?_; first | refine OD.auto rfl rfl ?_ | refine OD.loadP 1 rfl rfl rfl rfl rfl rfl ?_ | refine OD.len rfl rfl (fun _ => lenTy_accm rfl rfl) ?_ | (refine OD.callV rfl rfl rfl h99.eq (fun st hS => use99w h99 (P := _ :: _ :: _ :: _ :: slO 3 rb (R.map regAV)) hS ⟨g3, by omega, by omega⟩ (by omega)) (fun _ => rfl) ?_) | (refine OD.appendW (L := _ :: _ :: _ :: _ :: slO 3 rb (R.map regAV)) (xs := V.map intAV) (y := .int .i64 (IntKind.i64.wrap (2 * IntKind.i64.wrap ((n.kk (negL s.xs) : Int) + (G.length : Int))))) rfl rfl rfl rfl hne rfl rfl rfl rfl rfl rfl ⟨⟨_, rfl⟩, rfl⟩ (fun _ => rfl) rfl rfl (roomB rfl (by simp only [List.length_map]; omega)) (fun ab' => ?_); rw [hw, hgm, ← (hlw _).1, ← (hlw _).2]) | (refine OD.append 0 (xs := G.map gateAV) (ys := [gateAV (atL V n.gates.xs[i].1, atL V n.gates.xs[i].2)]) rfl rfl rfl rfl (by rw [List.isEmpty_map]; rfl) rfl rfl rfl rfl rfl rfl (.inr ⟨⟨_, rfl⟩, rfl⟩) (fun _ => rfl) rfl rfl (roomB rfl (by simp only [List.length_map, List.length_singleton]; omega)) (fun t' => ?_); rw [hgg]) | (refine OD.storeG 1 rfl rfl rfl rfl rfl acc_ok1 (by rw [acc_cells]; rfl) (by rw [acc_cells]; rfl) ?_; rw [st_gK])) | refine OS.nil ?_ | refine WS.seq ?_ | refine QS.seqN ?_ | refine WS.region ?_)
    try dsimp only [List.set_cons_zero, List.set_cons_succ, List.cons_append, List.nil_append]
    rw [List.isEmpty_map]
    exact QS.rangeX (((ab', V ++ [2 * ((n.kk (negL s.xs) + G.length : Nat) : Int)]), t', G ++ [(atL V n.gates.xs[i].1, atL V n.gates.xs[i].2)])) (by (try dsimp only) <;> exact (by rw [rawM_succ hi, ← hA]; rfl)) (hL := by (try dsimp only); exact SubO.drop (SubO.refl _))
  rintro ⟨⟨ab, V⟩, tg, G⟩ hA
  try dsimp only at hA
  rw [List.take_of_length_le (Nat.le_refl _)] at hA
  have hA : (V, G) = rawNS n (negL s.xs) s.xs := hA
  have hsh := rawNS_sh hs
  rw [← hA] at hsh
  have hVl := hsh.len
  have hGl := hsh.gates
  try dsimp only at hVl hGl
  have uw : ∀ {P : List (Nat × AObj)} {K : List (Nat × Bool)} (l : Int), (0 ≤ l ∧ l < 2 * ((n.kN + n.gates.xs.length : Nat) : Int)) → ∀ st, SFa (P ++ litO 1 ab (V.map intAV)) K st → primOf Rel99 [litV 1 ab (V.map intAV), .int .i64 l] st = some (.int .i64 (atL V l), st) := fun l hl st hS => by
    have hr := hsh.range (l / 2).toNat
    dsimp only at hr
    exact use99w h99 hS ⟨hl.1, by omega, by omega⟩ (by omega)
  dsimp only [RSt.at, List.cons_append, List.nil_append]
  repeat' (first | (refine OS.do rfl ?_; first | refine OD.len rfl rfl (fun _ => lenTy_slRm rfl rfl) ?_ | refine OD.loadP 0 rfl rfl rfl rfl rfl rfl ?_ | refine OD.auto rfl rfl ?_) | refine OS.nil ?_ | refine WS.seq ?_ | refine QS.seqN ?_ | refine WS.region ?_ | refine WS.block ?_)
  refine WS.rangeX (A := List GReg) (n := R.length) ⟨149, _, fun _ => [], fun Q => ([(b5, keptO gi (slR 3 rb (R.map regAV)) (accA tg 2 (G.map gateAV)) (accA 0 2 (([] : List GPin).map pinAV))), (b4, .row ty27.size [ty27.zeroV]), (b2, .row ty27.size [netAV n])] ++ slO 3 rb (Q.map regAV)) ++ litO 1 ab (V.map intAV), fun _ => [], fun i Q => Q = regP V R i⟩ (R) [2, 4, 5, 6, 148] (regP_zero.symm) ?_ ?_
  · rintro i Q hi hQ
    try dsimp only at hQ
    have hrn' := hrn _ ((keptL_sub n (negL s.xs)).subset (by rw [← hR]; exact List.getElem_mem hi))
    have hQl : Q.length = R.length := by rw [hQ]; exact regP_len (by omega)
    have hR0 : R.map regAV ≠ [] := fun c => by rw [List.map_eq_nil_iff] at c; rw [c] at hi; exact absurd hi (by simp)
    have hQ0 : Q.map regAV ≠ [] := fun c => by rw [List.map_eq_nil_iff] at c; have : Q.length = 0 := (by rw [c]; rfl); omega
    have hQ1 : (Q.set i (withNext V R[i])).map regAV ≠ [] := fun c => by rw [List.map_eq_nil_iff] at c; have h0 : Q.length = 0 := (by have := congrArg List.length c; rw [List.length_set] at this; exact this); omega
    have hbr : (Q.map regAV)[i]? = some (regAV R[i]) := by rw [List.getElem?_map, hQ, regP_get hi]; rfl
    have hmr : (Q.map regAV).set i (.agg [.str R[i].name, .int .u8 R[i].init.toNat, .int .i64 (atL V R[i].next)]) = (Q.set i (withNext V R[i])).map regAV := by rw [List.map_set]; rfl
    dsimp only [RSt.at, List.cons_append, List.nil_append]
    rw [(slR_long (sz := 3) (b := rb) hR0).1, (slR_long (sz := 3) (b := rb) hQ0).2, List.length_map]
    repeat' (first | (refine OS.do rfl ?_; first | refine OD.auto rfl rfl ?_) | refine OS.nil ?_ | refine WS.seq ?_ | refine QS.seqN ?_ | refine WS.region ?_)
    refine WS.drawY 11 [] (K := []) rfl rfl rfl rfl ?_; (repeat' (first | refine SegY.nil ?_ | refine SegY.loadP 3 rfl rfl rfl rfl hbr rfl rfl ?_ | refine SegY.indexAddr rfl rfl rfl rfl (indexAddrA_sl rfl rfl rfl rfl (by omega)) ?_ | refine SegY.auto rfl rfl rfl rfl ?_ | refine SegY.loadP 0 rfl rfl rfl rfl rfl rfl rfl ?_ | refine SegY.loadP 1 rfl rfl rfl rfl rfl rfl rfl ?_ | refine SegY.loadP 2 rfl rfl rfl rfl rfl rfl rfl ?_ | refine SegY.indexAddr rfl rfl rfl rfl rfl ?_ | refine SegY.callW (D := Unit) (fun _ => True) (fun _ => .int .i64 (atL V R[i].next)) (fun _ => []) (fun _ => []) rfl rfl rfl rfl (fun st hS => CW.prim h99.eq (uw (P := [_, _, _, _]) _ hrn' st hS) ⟨(), st, trivial, rfl, hS⟩) (fun _ _ => ?_)))
    dsimp only [RSt.at, List.cons_append, List.nil_append]
    repeat' (first | (refine OS.do rfl ?_; first | refine OD.auto rfl rfl ?_ | refine OD.indexAddr rfl rfl rfl (indexAddrA_sl rfl rfl rfl rfl (by omega)) ?_ | refine OD.storeG 3 rfl rfl rfl rfl hbr rfl rfl rfl ?_) | refine OS.nil ?_)
    dsimp only [List.set_cons_zero, List.set_cons_succ, List.cons_append, List.nil_append]
    exact QS.rangeX (Q.set i (withNext V R[i])) (by (try dsimp only) <;> exact (by rw [regP_succ hi, hQ])) (hL := by (try dsimp only); rw [(slR_long (sz := 3) (b := rb) hQ1).2, ← hmr]; exact SubO.refl _)
  rintro Q hQ
  try dsimp only at hQ
  rw [regP_all] at hQ
  dsimp only [RSt.at, List.cons_append, List.nil_append]
  repeat' (first | (refine OS.do rfl ?_; first | refine OD.auto rfl rfl ?_ | refine OD.len rfl rfl (fun _ => lenTy_av rfl rfl) ?_ | refine OD.loadP 2 rfl rfl rfl rfl rfl rfl ?_) | refine OS.nil ?_ | refine WS.seq ?_ | refine QS.seqN ?_ | refine WS.region ?_ | refine WS.block ?_)
  refine WS.newK ?_
  refine WS.rangeX (A := Nat × List GPin) (n := n.outs.xs.length) ⟨169, _, fun _ => [], fun a => ([(b5, keptO gi (slR 3 rb (R.map regAV)) (accA tg 2 (G.map gateAV)) (accA a.1 2 (a.2.map pinAV))), (b4, .row ty27.size [ty27.zeroV]), (b2, .row ty27.size [netAV n])] ++ slO 3 rb (Q.map regAV)) ++ litO 1 ab (V.map intAV), fun a => [(a.1, !a.2.isEmpty)], fun i a => a.2 = (n.outs.xs.take i).map (withLit V)⟩ ((0, [])) [4, 5, 6, 167, 168] (rfl) ?_ ?_
  · rintro i ⟨tp, P⟩ hi hP
    try dsimp only at hP
    have hol' := hol _ (List.getElem_mem hi)
    have hPl : P.length = i := by rw [hP, List.length_map, List.length_take]; omega
    have hgm : P.map pinAV ++ [pinAV (withLit V n.outs.xs[i])] = (P ++ [withLit V n.outs.xs[i]]).map pinAV := by rw [List.map_append]; rfl
    dsimp only [RSt.at, List.cons_append, List.nil_append]
    repeat' (first | (refine OS.do rfl ?_; first | refine OD.auto rfl rfl ?_ | refine OD.indexAddr rfl rfl rfl (indexAddrA_nat rfl rfl rfl rfl (by first | assumption | exact List.getElem?_eq_getElem (by omega))) ?_ | refine OD.alloc rfl rfl rfl rfl (fun _ => ?_) | refine OD.storeW 0 rfl rfl rfl rfl (by first | rfl | exact net_ok _) rfl rfl rfl ?_) | refine OS.nil ?_ | refine WS.seq ?_ | refine QS.seqN ?_ | refine WS.region ?_)
    refine WS.drawY 8 [] (K := [(tp, !P.isEmpty)]) rfl rfl rfl rfl ?_; (repeat' (first | refine SegY.nil ?_ | refine SegY.auto rfl rfl rfl rfl ?_ | refine SegY.loadP 0 rfl rfl rfl rfl rfl rfl rfl ?_ | refine SegY.loadP 1 rfl rfl rfl rfl rfl rfl rfl ?_ | refine SegY.loadP 2 rfl rfl rfl rfl rfl rfl rfl ?_ | refine SegY.indexAddr rfl rfl rfl rfl rfl ?_ | refine SegY.callW (D := Unit) (fun _ => True) (fun _ => .int .i64 (atL V n.outs.xs[i].lit)) (fun _ => []) (fun _ => []) rfl rfl rfl rfl (fun st hS => CW.prim h99.eq (uw (P := _ :: _ :: _ :: _ :: slO 3 rb (Q.map regAV)) _ hol' st hS) ⟨(), st, trivial, rfl, hS⟩) (fun _ _ => ?_)))
    dsimp only [RSt.at, List.cons_append, List.nil_append]
    repeat' (first | (refine OS.do rfl ?_; first | refine OD.auto rfl rfl ?_ | (refine OD.append 0 (xs := P.map pinAV) (ys := [pinAV (withLit V n.outs.xs[i])]) rfl rfl rfl rfl (by rw [List.isEmpty_map]; rfl) rfl rfl rfl rfl rfl rfl (.inr ⟨⟨_, rfl⟩, rfl⟩) (fun _ => rfl) rfl rfl (roomB rfl (by simp only [List.length_map, List.length_singleton]; omega)) (fun t' => ?_); rw [hgm]) | (refine OD.storeG 1 rfl rfl rfl rfl rfl acc_ok1 (by rw [acc_cells]; rfl) (by rw [acc_cells]; rfl) ?_; rw [st_oK])) | refine OS.nil ?_)
    try dsimp only [List.set_cons_zero, List.set_cons_succ, List.cons_append, List.nil_append]
    rw [List.isEmpty_map]
    exact QS.rangeX ((t', P ++ [withLit V n.outs.xs[i]])) (by (try dsimp only) <;> exact (by rw [map_take_succ hi, hP])) (hL := by (try dsimp only); exact SubO.drop (SubO.refl _))
  rintro ⟨tp, P⟩ hP
  try dsimp only at hP
  rw [List.take_of_length_le (Nat.le_refl _)] at hP
  dsimp only [RSt.at, List.cons_append, List.nil_append]
  have hm : netAV (withoutN n (negL s.xs) s.xs) = .agg [(GSl.some n.ins.xs).av 1 strAV, (GSl.of Q).av 3 regAV, (GSl.of G).av 2 gateAV, (GSl.of P).av 2 pinAV] := by
    unfold withoutN netOf; rw [← hA, ← hR, hQ, hP]; rfl
  have hF := without_fits hV hn hs
  have hWV := without_valid hV hs
  have c18 : ∀ (mo : AObj) (st : St), SFa (([(b5, mo), (b4, .row ty27.size [ty27.zeroV]), (b2, .row ty27.size [netAV n])] ++ slO 3 rb (Q.map regAV)) ++ litO 1 ab (V.map intAV)) [] st → ∃ st1, primF (primOf Rel18) [.agg [gi, slR 3 rb (R.map regAV), accA tg 2 (G.map gateAV), accA tp 2 (P.map pinAV)]] st = some (.tup [netAV (foldR (withoutN n (negL s.xs) s.xs)), .int .i64 0], st1) ∧ SFa [(b5, mo), (b4, .row ty27.size [ty27.zeroV]), (b2, .row ty27.size [netAV n])] [] st1 := fun mo st hS => by
    have hS := SFa.left hS
    rw [← res_yes (m := foldR (withoutN n (negL s.xs) s.xs)) hWV]
    by_cases hR0 : R = []
    · have hQ0 : Q = [] := by rw [hQ, hR0]; rfl
      refine ⟨st, h18.use (r := resAV (withoutN n (negL s.xs) s.xs) (foldR (withoutN n (negL s.xs) s.xs))) ?_ ⟨withoutN n (negL s.xs) s.xs, hF, ?_, rfl⟩ st, ?_⟩
      · rw [hR0]
        simp only [List.map_nil, slR, AV.freeL, AV.free, hgf, free_acc gate_free, free_acc pin_free, Bool.and_true]
      · dsimp only
        rw [hm, hR0, hQ0, gof_nil]
        simp only [List.map_nil, slR, AV.plainL, AV.plain, hgp, plain_acc gate_plain, plain_acc pin_plain]
      · rw [hQ0] at hS
        simpa [slO] using hS
    · have hQ0 : Q ≠ [] := fun c => hR0 (by rw [hQ] at c; exact List.map_eq_nil_iff.1 c)
      have hR1 : R.map regAV ≠ [] := fun c => hR0 (List.map_eq_nil_iff.1 c)
      have hQ1 : Q.map regAV ≠ [] := fun c => hQ0 (List.map_eq_nil_iff.1 c)
      have hRQ : R.length = Q.length := by rw [hQ, List.length_map]
      rw [(slR_long (sz := 3) (b := rb) hQ1).2] at hS
      rw [(slR_long (sz := 3) (b := rb) hR1).1, List.length_map]
      obtain ⟨t, hz⟩ := freeze_arg (kr := 3) (i := gi) (g := accA tg 2 (G.map gateAV)) (o := accA tp 2 (P.map pinAV)) hgf (free_acc gate_free) (free_acc pin_free) hRQ hS rfl
      refine ⟨_, h18.row (r := resAV (withoutN n (negL s.xs) s.xs) (foldR (withoutN n (negL s.xs) s.xs))) ?_ hz ⟨withoutN n (negL s.xs) s.xs, hF, ?_, rfl⟩, SFa.last hS⟩
      · simp only [AV.freeL, AV.free]; simp
      · dsimp only
        rw [hm, gof_some (sz := 3) (f := regAV) hQ0]
        simp only [AV.plainL, AV.plain, hgp, plain_acc gate_plain, plain_acc pin_plain, plainL_map reg_plain]
        rfl
  have z : ∀ (q : GNet) (st : St), freezeA st (.tup [netAV q, .int .i64 0]) = some (.tup [netAV q, .int .i64 0], st) := fun q st => freeze_free (by simp [AV.free, AV.freeL, net_free])
  repeat' (first | (refine OS.do rfl ?_; first | refine OD.storeW 0 rfl rfl rfl rfl (net_ok _) rfl rfl rfl ?_ | refine OD.loadP 0 rfl rfl rfl rfl rfl rfl ?_ | refine OD.auto rfl rfl ?_ | refine OD.alloc rfl rfl rfl rfl (fun _ => ?_) | refine OD.storeW 2 rfl rfl rfl rfl (by first | rfl | exact net_ok _) rfl rfl rfl ?_ | (refine OD.callZ (D := Unit) (fun _ => True) (fun _ => .tup [netAV (foldR (withoutN n (negL s.xs) s.xs)), .int .i64 0]) (fun _ => [(b5, keptO gi (slR 3 rb (R.map regAV)) (accA tg 2 (G.map gateAV)) (accA tp 2 (P.map pinAV))), (b4, .row ty27.size [ty27.zeroV]), (b2, .row ty27.size [netAV n])]) (fun _ => []) rfl rfl rfl rfl (fun st hS => (c18 _ st hS.noK).elim fun st1 h => CW.prim h18.eq h.1 ⟨(), st1, trivial, z _ _, h.2⟩) (fun _ _ => ?_))) | refine OS.nil ?_ | refine WS.seq ?_ | refine QS.seqN ?_ | refine WS.region ?_ | refine WS.ret ?_)
  exact QS.retO (ResO.cell 2 (by rfl) (by rfl) (by rfl) (by rfl) (by rfl) .nil) fun st hs => ⟨net_free _, net_plain _⟩
def Rel63 : Rel := RelF (fun p : GNet × GSl Int => (validM p.1 = true ∧ FitsN p.1) ∧ p.2.xs.length = p.1.regs.xs.length ∧ Stand p.1.k0 p.1.regs.xs.length (negL p.2.xs) p.2.xs) (fun p => [netAV p.1, p.2.av 1 intAV]) fun p => netAV (foldR (withoutN p.1 (negL p.2.xs) p.2.xs))
theorem con63 (h1 : pr 63 = none) (h99 : Has pr 99 Rel99) (h18 : HasF pr 18 Rel18) : Con2 (En pr) 63 Rel63 := con_of (fun d => by simp [AV.freeL, net_free, free_av int_free]) fun d hd st => run63 h1 h99 h18 d.1 hd.1.1 hd.1.2 d.2 hd.2.1 hd.2.2 st
end
end Go.OptEnv

namespace Go.OptEnv
open Go Go.Proofs Go.Abs Go.RowKit Go.NetM
set_option maxRecDepth 10000
attribute [local irreducible] WS QS OS OD Abs.Sub SubO SubK CW GSl.av accA growA
section
variable {pr : Prims}
end
end Go.OptEnv

namespace Go.OptEnv
open Go Go.Proofs Go.Abs Go.RowKit Go.NetM
set_option maxRecDepth 10000
attribute [local irreducible] WS QS OS OD Abs.Sub SubO SubK CW GSl.av accA growA
section
variable {pr : Prims}
end
end Go.OptEnv

namespace Go.Abs
section
variable {E : Env} {N : Nat} {l : List (Nat × AV)} {L X : List (Nat × AObj)} {K Y : List (Nat × Bool)} {pol : Nat → Nat} {ops : Array Oper} {r : List Oper} {i : Nat} {d : Nat} {ty : TypeId} {pos : String} {after : Array Edge} {guard : Option (Nat × Bool)}
variable {k : List (Nat × AV) → List (Nat × AObj) → List (Nat × Bool) → Prop}
end
end Go.Abs

namespace Go.Abs
section
variable {E : Env} {fid N : Nat} {l : List (Nat × AV)} {L : List (Nat × AObj)} {K : List (Nat × Bool)} {Q : AExit → TM → St → Prop} {pol : Nat → Nat} {ops : Array Oper} {r : List Oper} {i b d : Nat} {o : Oper}
def RunsM (E : Env) (ops : Array Oper) (pol : Nat → Nat) (N : Nat) (L : List (Nat × AObj)) (K : List (Nat × Bool)) (b : Nat) (r : List Oper) (i : Nat) (l : List (Nat × AV)) (vs : List AV) (l' : List (Nat × AV)) : Prop :=
  ∀ (call : Call1) (tm : TM) (st : St), Fa N l L K tm st → ∃ tr tm', runOpsT E call (some (b, true)) pol ops r i tm st = some (tr, tm', st) ∧ tr.map (·.v) = vs ∧ Fa N l' L K tm' st
theorem RunsM.nil : RunsM E ops pol N L K b [] i l [] l := fun _ tm st hF => ⟨[], tm, rfl, rfl, hF⟩
theorem RunsM.step {v : AV} {vs : List AV} {l' : List (Nat × AV)} (hw : wantS ops l o = some true) (hd : o.dst = some d) (hn : Nat.blt d N = true) (hs : ∀ (call : Call1) (tm : TM) (st : St), Fa N l L K tm st → stepPre E call (some (b, true)) (pol i) i tm st o = some (v, st)) (h : RunsM E ops pol N L K b r (i + 1) ((d, v) :: l) vs l') : RunsM E ops pol N L K b (o :: r) i l (v :: vs) l' := by
  intro call tm st hF
  obtain ⟨tr, tm', h1, h2, h3⟩ := h call (tm.put d v) st (hF.put hn v)
  refine ⟨⟨tm, st, st, v, true⟩ :: tr, tm', ?_, by simp [h2], h3⟩
  simp only [runOpsT]
  rw [hF.want hw]
  dsimp only
  rw [hs call tm st hF, hd]
  dsimp only [putO]
  rw [h1]
theorem RunsM.quiet {v : AV} {vs : List AV} {l' : List (Nat × AV)} (hw : wantS ops l o = some true) (hd : o.dst = some d) (hn : Nat.blt d N = true) (hl : isLoud o.op = false) (hq : ∀ tm st, Fa N l L K tm st → Abs.quiet E tm st o = some v) (h : RunsM E ops pol N L K b r (i + 1) ((d, v) :: l) vs l') : RunsM E ops pol N L K b (o :: r) i l (v :: vs) l' :=
  .step hw hd hn (fun _ tm st hF => stepPre_quiet hl (hq tm st hF)) h
theorem RunsM.make {t e : TypeId} {x : Operand} {ty : TypeId} {pos : String} {after : Array Edge} {guard : Option (Nat × Bool)} {y et : Ty} {n : Nat} {vs : List AV} {l' : List (Nat × AV)} (hw : wantS ops l { dst := some d, op := .makeSlice t x x, type := ty, pos := pos, after := after, guard := guard } = some true) (hn : Nat.blt d N = true) (hx : evL l x = some (.int .i64 (n : Int))) (hc : isConstO x = false) (ht : E.ty t = some y) (hd : y.d = .slice e) (he : E.ty e = some et) (hs : Nat.blt 0 et.size = true) (hroom : roomA et n = true)
    (h : RunsM E ops pol N L K b r (i + 1) ((d, .sl et.size (b + i) 0 n) :: l) vs l') : RunsM E ops pol N L K b ({ dst := some d, op := .makeSlice t x x, type := ty, pos := pos, after := after, guard := guard } :: r) i l (.sl et.size (b + i) 0 n :: vs) l' := by
  refine .step hw rfl hn (fun call tm st hF => ?_) h
  have e0 : stepPre E call (some (b, true)) (pol i) i tm st { dst := some d, op := .makeSlice t x x, type := ty, pos := pos, after := after, guard := guard } = (makePre E (b + i) (isConstO x) t (evalO tm x) (evalO tm x)).map fun v => (v, st) := rfl
  rw [e0]
  unfold makePre
  rw [ht, hF.ev hx, hc]
  dsimp only
  rw [hd]
  dsimp only
  rw [he]
  dsimp only
  rw [if_pos ⟨⟨Eq.mp Nat.blt_eq hs, by omega, by omega, by simpa using hroom⟩, rfl⟩]
  simp
theorem runOpsT_take {call : Call1} {pre : Pre} : ∀ (m : Nat) (r : List Oper) (i : Nat) (tm : TM) (st : St) {tr : List Tr} {tm' : TM} {st' : St}, runOpsT E call pre pol ops r i tm st = some (tr, tm', st') → ∃ q, runOpsT E call pre pol ops (r.take m) i tm st = some (tr.take m, q)
  | 0, _, _, tm, st, _, _, _, _ => ⟨(tm, st), by simp [runOpsT]⟩
  | m + 1, [], i, tm, st, tr, tm', st', h => by
    simp only [runOpsT, Option.some.injEq, Prod.mk.injEq] at h
    obtain ⟨rfl, rfl, rfl⟩ := h
    exact ⟨_, by simp [runOpsT]; rfl⟩
  | m + 1, o :: r, i, tm, st, tr, tm', st', h => by
    simp only [runOpsT, List.take_succ_cons] at h ⊢
    split at h
    · rename_i hw
      split at h
      · rename_i v s1 hs
        split at h
        · rename_i l q hq
          simp only [Option.some.injEq, Prod.mk.injEq] at h
          obtain ⟨rfl, rfl⟩ := h
          obtain ⟨q', hq'⟩ := runOpsT_take m r (i + 1) _ _ hq
          exact ⟨q', by rw [hq']; rfl⟩
        · cases h
      · cases h
    · rename_i hw
      split at h
      · rename_i l q hq
        simp only [Option.some.injEq, Prod.mk.injEq] at h
        obtain ⟨rfl, rfl⟩ := h
        obtain ⟨q', hq'⟩ := runOpsT_take m r (i + 1) _ _ hq
        exact ⟨q', by rw [hq']; rfl⟩
      · cases h
    · cases h
theorem Fa.layAt {tm : TM} {st : St} (h : Fa N l L K tm st) {k : Nat} (hk : k < st.next) (hf : ∀ (j c : Nat) (o : AObj), L[j]? = some (c, o) → c ≠ k) (ob : AObj) : Fa N l ((k, ob) :: L) K tm (st.put k ob) := by
  refine ⟨h.n, h.get, fun j c o' hj => ?_, fun j j' c o1 o2 hj hj' => ?_, fun j t hj => ⟨(h.tok j t hj).1, (h.tok j t hj).2⟩, h.uniqT⟩
  · cases j with
    | zero =>
      simp only [List.getElem?_cons_zero, Option.some.injEq, Prod.mk.injEq] at hj
      obtain ⟨rfl, rfl⟩ := hj
      exact ⟨by simp, hk⟩
    | succ j =>
      simp only [List.getElem?_cons_succ] at hj
      have h1 := h.obj j c o' hj
      refine ⟨?_, h1.2⟩
      rw [St.get_put, if_neg (fun e => hf j c o' hj e.symm)]
      exact h1.1
  · cases j with
    | zero =>
      simp only [List.getElem?_cons_zero, Option.some.injEq, Prod.mk.injEq] at hj
      cases j' with
      | zero => rfl
      | succ j' =>
        simp only [List.getElem?_cons_succ] at hj'
        exact absurd hj.1.symm (hf j' c o2 hj')
    | succ j =>
      simp only [List.getElem?_cons_succ] at hj
      cases j' with
      | zero =>
        simp only [List.getElem?_cons_zero, Option.some.injEq, Prod.mk.injEq] at hj'
        exact absurd hj'.1.symm (hf j c o1 hj)
      | succ j' =>
        simp only [List.getElem?_cons_succ] at hj'
        rw [h.uniq j j' c o1 o2 hj hj']
theorem fill_skip {b i : Nat} {o : Oper} {r : List Oper} {e : Tr} {q : List Tr} {s : St} (h : isMake o.op = false) : fillMakes E b (o :: r) (e :: q) i s = fillMakes E b r q (i + 1) s := by
  show (match o.op, e.v with
    | .makeSlice t _ _, .sl sz _ _ n =>
      match E.ty t with
      | some ty =>
        match ty.d with
        | .slice a => match E.ty a with | some et => fillMakes E b r q (i + 1) (s.put (b + i) (.row sz (List.replicate n et.zeroV))) | none => fillMakes E b r q (i + 1) s
        | _ => fillMakes E b r q (i + 1) s
      | none => fillMakes E b r q (i + 1) s
    | .makeMap t none, .map _ =>
      match E.ty t with
      | some ty =>
        match ty.d with
        | .map kt et => fillMakes E b r q (i + 1) (s.put (b + i) (.map kt et []))
        | _ => fillMakes E b r q (i + 1) s
      | none => fillMakes E b r q (i + 1) s
    | _, _ => fillMakes E b r q (i + 1) s) = _
  split
  · rename_i h1 h2; rw [h1] at h; cases h
  · rename_i h1 h2; rw [h1] at h; cases h
  · rfl
theorem makeOk_skip {b i : Nat} {o : Oper} {e : Tr} {s : St} (h : isMake o.op = false) : makeOk E b s i o e = true := by
  unfold makeOk
  split <;> simp_all [isMake]
theorem makeOk_row {b i n : Nat} {o : Oper} {e : Tr} {s : St} {t a : TypeId} {x c : Operand} {y et : Ty} (ho : o.op = .makeSlice t x c) (hv : e.v = .sl et.size (b + i) 0 n) (ht : E.ty t = some y) (hd : y.d = .slice a) (he : E.ty a = some et) (hg : s.get (b + i) = some (.row et.size (List.replicate n et.zeroV))) : makeOk E b s i o e = true := by
  unfold makeOk
  rw [ho, hv]
  dsimp only
  rw [ht, hg]
  dsimp only
  rw [hd]
  dsimp only
  rw [he]
  simp [AV.beqL_refl]
theorem fill_row {b i n c0 : Nat} {o : Oper} {r : List Oper} {e : Tr} {q : List Tr} {s : St} {t a : TypeId} {x c : Operand} {y et : Ty} (ho : o.op = .makeSlice t x c) (hv : e.v = .sl et.size c0 0 n) (ht : E.ty t = some y) (hd : y.d = .slice a) (he : E.ty a = some et) : fillMakes E b (o :: r) (e :: q) i s = fillMakes E b r q (i + 1) (s.put (b + i) (.row et.size (List.replicate n et.zeroV))) := by
  show (match o.op, e.v with
    | .makeSlice t _ _, .sl sz _ _ n =>
      match E.ty t with
      | some ty =>
        match ty.d with
        | .slice a => match E.ty a with | some et => fillMakes E b r q (i + 1) (s.put (b + i) (.row sz (List.replicate n et.zeroV))) | none => fillMakes E b r q (i + 1) s
        | _ => fillMakes E b r q (i + 1) s
      | none => fillMakes E b r q (i + 1) s
    | .makeMap t none, .map _ =>
      match E.ty t with
      | some ty =>
        match ty.d with
        | .map kt et => fillMakes E b r q (i + 1) (s.put (b + i) (.map kt et []))
        | _ => fillMakes E b r q (i + 1) s
      | none => fillMakes E b r q (i + 1) s
    | _, _ => fillMakes E b r q (i + 1) s) = _
  rw [ho, hv]
  dsimp only
  rw [ht]
  dsimp only
  rw [hd]
  dsimp only
  rw [he]
theorem list8 {tr : List Tr} {v0 v1 v2 v3 v4 v5 v6 v7 : AV} (h : tr.map (·.v) = [v0, v1, v2, v3, v4, v5, v6, v7]) : ∃ e0 e1 e2 e3 e4 e5 e6 e7, tr = [e0, e1, e2, e3, e4, e5, e6, e7] ∧ e2.v = v2 ∧ e5.v = v5 := by
  obtain ⟨e0, tr, rfl, _, h⟩ := List.map_eq_cons_iff.1 h
  obtain ⟨e1, tr, rfl, _, h⟩ := List.map_eq_cons_iff.1 h
  obtain ⟨e2, tr, rfl, h2, h⟩ := List.map_eq_cons_iff.1 h
  obtain ⟨e3, tr, rfl, _, h⟩ := List.map_eq_cons_iff.1 h
  obtain ⟨e4, tr, rfl, _, h⟩ := List.map_eq_cons_iff.1 h
  obtain ⟨e5, tr, rfl, h5, h⟩ := List.map_eq_cons_iff.1 h
  obtain ⟨e6, tr, rfl, _, h⟩ := List.map_eq_cons_iff.1 h
  obtain ⟨e7, tr, rfl, _, h⟩ := List.map_eq_cons_iff.1 h
  obtain rfl := List.map_eq_nil_iff.1 h
  exact ⟨e0, e1, e2, e3, e4, e5, e6, e7, rfl, h2, h5⟩
theorem WS.makes2 {id : Nat} {ops : Array Oper} (hd : E.dyn fid id = []) (hk : E.mks fid id = true) (ho : hasAlloc ops = false) {o0 o1 o2 o3 o4 o5 o6 o7 : Oper} (hops : ops.toList = [o0, o1, o2, o3, o4, o5, o6, o7]) (hend : makeEnd ops.toList 0 0 = 6)
    (s0 : isMake o0.op = false) (s1 : isMake o1.op = false) (s3 : isMake o3.op = false) (s4 : isMake o4.op = false) (s6 : isMake o6.op = false) (s7 : isMake o7.op = false)
    {t2 e2 t5 e5 : TypeId} {x2 c2 x5 c5 : Operand} {y2 et2 y5 et5 : Ty} (p2 : o2.op = .makeSlice t2 x2 c2) (p5 : o5.op = .makeSlice t5 x5 c5) (h2 : E.ty t2 = some y2) (d2 : y2.d = .slice e2) (k2 : E.ty e2 = some et2) (h5 : E.ty t5 = some y5) (d5 : y5.d = .slice e5) (k5 : E.ty e5 = some et5)
    {n m : Nat} {a0 a1 a3 a4 : AV} {v6 v7 : Nat → AV} {l' : Nat → List (Nat × AV)}
    (h : ∀ b, RunsM E ops (E.pol fid id) N L K b ops.toList 0 l [a0, a1, .sl et2.size (b + 2) 0 n, a3, a4, .sl et5.size (b + 5) 0 m, v6 b, v7 b] (l' b))
    (k : ∀ b, QS N .normal (l' b) ((b + 5, .row et5.size (List.replicate m et5.zeroV)) :: (b + 2, .row et2.size (List.replicate n et2.zeroV)) :: L) K Q) : WS E fid N (.region id ops true) l L K Q := by
  intro tm st hF
  have hsz : ops.size = 8 := by have := congrArg List.length hops; simpa using this
  have hF0 := hF.at (m := st.next + ops.size) (by omega)
  have hfree : ∀ (q : Nat), ∀ (j c : Nat) (o : AObj), L[j]? = some (c, o) → c ≠ st.next + q := fun q j c o hj => by have := (hF.obj j c o hj).2; omega
  have hF2 := (hF0.layAt (k := st.next + 2) (by show st.next + 2 < st.next + ops.size; omega) (hfree 2) (.row et2.size (List.replicate n et2.zeroV))).layAt (k := st.next + 5) (by show st.next + 5 < st.next + ops.size; omega) (fun j c o hj => by
    cases j with
    | zero =>
      simp only [List.getElem?_cons_zero, Option.some.injEq, Prod.mk.injEq] at hj
      omega
    | succ j => exact hfree 5 j c o (by simpa using hj)) (.row et5.size (List.replicate m et5.zeroV))
  have hF2' : Fa N l L K tm ((((st.at (st.next + ops.size)).put (st.next + 2) (.row et2.size (List.replicate n et2.zeroV)))).put (st.next + 5) (.row et5.size (List.replicate m et5.zeroV))) := hF2.sub (fun _ _ h => h) (.drop (.drop (.refl _))) (.refl _)
  have hpre : preObjs E st.next ops.toList 0 st.objs = some st.objs := preObjs_none _ _ _ ho
  obtain ⟨tr, tm1, r1, r2, r3⟩ := h st.next (callF E 1) tm _ hF0
  obtain ⟨e0, e1, e2, e3, e4, e5, e6, e7, rfl, g2, g5⟩ := list8 r2
  obtain ⟨q', hq'⟩ := runOpsT_take 6 _ _ _ _ r1
  obtain ⟨tr2, tm2, q1, q2, q3⟩ := h st.next (callF E 1) tm _ hF2'
  obtain ⟨f0, f1, f2, f3, f4, f5, f6, f7, rfl, w2, w5⟩ := list8 q2
  have hfill : ∀ s : St, fillMakes E st.next ops.toList [e0, e1, e2, e3, e4, e5] 0 s = (s.put (st.next + 2) (.row et2.size (List.replicate n et2.zeroV))).put (st.next + 5) (.row et5.size (List.replicate m et5.zeroV)) := fun s => by
    rw [hops, fill_skip s0, fill_skip s1, fill_row p2 g2 h2 d2 k2, fill_skip s3, fill_skip s4, fill_row p5 g5 h5 d5 k5]
    rfl
  have hmk : makesOk E st.next ((((st.at (st.next + ops.size)).put (st.next + 2) (.row et2.size (List.replicate n et2.zeroV)))).put (st.next + 5) (.row et5.size (List.replicate m et5.zeroV))) ops.toList [f0, f1, f2, f3, f4, f5, f6, f7] 0 = true := by
    rw [hops]
    have z2 : makeOk E st.next ((((st.at (st.next + ops.size)).put (st.next + 2) (.row et2.size (List.replicate n et2.zeroV)))).put (st.next + 5) (.row et5.size (List.replicate m et5.zeroV))) 2 o2 f2 = true := makeOk_row p2 w2 h2 d2 k2 (hF2.obj 1 _ _ rfl).1
    have z5 : makeOk E st.next ((((st.at (st.next + ops.size)).put (st.next + 2) (.row et2.size (List.replicate n et2.zeroV)))).put (st.next + 5) (.row et5.size (List.replicate m et5.zeroV))) 5 o5 f5 = true := makeOk_row p5 w5 h5 d5 k5 (hF2.obj 0 _ _ rfl).1
    simp only [makesOk, makeOk_skip s0, makeOk_skip s1, makeOk_skip s3, makeOk_skip s4, makeOk_skip s6, makeOk_skip s7, Nat.zero_add, Nat.reduceAdd, z2, z5, Bool.and_self]
  refine ⟨1, .normal, tm2, _, ?_, k st.next tm2 _ (q3.withS2 hF2.s)⟩
  unfold St.at at hq' q1 hmk
  simp only [exec, execReg, if_true, hpre, hd, hk, hend]
  rw [hq']
  dsimp only [List.take]
  rw [hfill, q1]
  dsimp only
  rw [if_pos (by rw [hmk]; rfl)]
  rfl
end
end Go.Abs

namespace Go.OptEnv
open Go Go.Proofs Go.Abs Go.RowKit Go.NetM
set_option maxRecDepth 10000
theorem fillT {α : Type} {l : List α} {z : α} {i : Nat} (h : i < l.length) : (l.take i ++ List.replicate (l.length - i) z).set i l[i] = l.take (i + 1) ++ List.replicate (l.length - (i + 1)) z := by
  rw [List.set_append_right _ _ (by rw [List.length_take]; omega), List.length_take, show i - min i l.length = 0 by omega, show l.length - i = (l.length - (i + 1)) + 1 by omega, List.replicate_succ, List.set_cons_zero, List.take_succ_eq_append_getElem h, List.append_assoc]
  rfl
theorem fillT_all {α : Type} {l : List α} {z : α} : l.take l.length ++ List.replicate (l.length - l.length) z = l := by
  rw [List.take_of_length_le (Nat.le_refl _), Nat.sub_self]; simp
attribute [local irreducible] WS QS OS OD Abs.Sub SubO SubK CW GSl.av accA growA
section
variable {pr : Prims}
end
end Go.OptEnv
