/- Own text of this claim: part 11 of an interpreter that is proved sound against the model, and of what it shows of the law. -/
import Derived.Test.YthomnnnhkfjbdaaGreatAbs10
namespace Go.OptEnv
open Go Go.Proofs Go.Abs Go.RowKit Go.NetM
set_option maxRecDepth 10000
theorem cloneG_of {α : Type} (l : List α) : cloneG (GSl.of l) = GSl.of l := by cases l <;> rfl
theorem cloneG_clone {α : Type} (s : GSl α) : cloneG (cloneG s) = cloneG s := by
  match hn : s.nil with
  | some true => unfold cloneG; rw [hn]; dsimp only; rw [hn]
  | some false => unfold cloneG; rw [hn]; rfl
  | none => unfold cloneG; rw [hn]; rfl
theorem ok4 {a b c d : AV} (ha : a.cellOk = true) (hb : b.cellOk = true) (hc : c.cellOk = true) (hd : d.cellOk = true) : (AV.agg [a, b, c, d]).ok = true := by simp [AV.ok, ha, hb, hc, hd]
theorem acc_nil {t sz : Nat} : accA t sz [] = .nilsl := rfl
theorem acc_vs {t sz : Nat} {xs : List AV} (h : xs ≠ []) : accA t sz xs = .vs sz (.tok t) xs := by
  cases xs with
  | nil => exact absurd rfl h
  | cons x xs => rfl
theorem acc_cell {t sz : Nat} {xs : List AV} : (accA t sz xs).cellOk = true := by cases xs <;> rfl
theorem cells_of {a : AV} (h : a.cellOk = true) : a.cells = [a] := by cases a <;> first | rfl | cases h
theorem ok_of {a : AV} (h : a.cellOk = true) : a.ok = true := by cases a <;> first | rfl | cases h
theorem bld4 {pr : Prims} {a b c d : AV} (ha : a.cellOk = true) (hb : b.cellOk = true) (hc : c.cellOk = true) (hd : d.cellOk = true) : buildA (En pr) 27 [(0, a), (1, b), (2, c), (3, d)] = some (.agg [a, b, c, d]) := by
  have e : buildA (En pr) 27 [(0, a), (1, b), (2, c), (3, d)] = (fillA (fieldPlaces (En pr) [(22, 0), (23, 1), (24, 2), (25, 3)]) [.nilsl, .nilsl, .nilsl, .nilsl] [(0, a), (1, b), (2, c), (3, d)]).map .agg := rfl
  have p0 : fieldPlaces (En pr) [(22, 0), (23, 1), (24, 2), (25, 3)] 0 = some (0, 1) := rfl
  have p1 : fieldPlaces (En pr) [(22, 0), (23, 1), (24, 2), (25, 3)] 1 = some (1, 1) := rfl
  have p2 : fieldPlaces (En pr) [(22, 0), (23, 1), (24, 2), (25, 3)] 2 = some (2, 1) := rfl
  have p3 : fieldPlaces (En pr) [(22, 0), (23, 1), (24, 2), (25, 3)] 3 = some (3, 1) := rfl
  rw [e]
  simp [fillA, p0, p1, p2, p3, cells_of ha, cells_of hb, cells_of hc, cells_of hd, ok_of ha, ok_of hb, ok_of hc, ok_of hd]
abbrev Quad := AV × AV × AV × AV
def qAV (q : Quad) : AV := .agg [q.1, q.2.1, q.2.2.1, q.2.2.2]
structure QOk (q : Quad) (N : GNet) : Prop where
  plain : AV.plain (qAV q) = netAV N
  free : AV.free (qAV q) = true
  ok : (qAV q).ok = true
theorem plain_list {α : Type} {f : α → AV} (hf : ∀ a, AV.plain (f a) = f a) {sz t : Nat} {xs : List α} (hne : xs ≠ []) : AV.plain (.vs sz (.tok t) (xs.map f)) = (GSl.of xs).av sz f := by
  rw [← acc_vs (by simpa using hne), plain_acc hf]
theorem freeze_q {L : List (Nat × AObj)} {st : St} {i g o : AV} {rb : Nat} {R : List GReg} (hi : AV.free i = true) (hg : AV.free g = true) (ho : AV.free o = true) (hS : SFa (slO 3 rb (R.map regAV) ++ L) [] st) :
    ∃ rv st2, (rv.cellOk = true ∧ AV.plain rv = (GSl.of R).av 3 regAV ∧ AV.free rv = true) ∧ freezeA st (.tup [.agg [i, slR 3 rb (R.map regAV), g, o], .int .i64 0]) = some (.tup [.agg [i, rv, g, o], .int .i64 0], st2) ∧ SFa L [] st2 := by
  by_cases hne : R.map regAV = []
  · have hR : R = [] := by simpa using hne
    subst hR
    refine ⟨.nilsl, st, ⟨rfl, rfl, rfl⟩, ?_, hS⟩
    exact freeze_free (by simp [AV.free, AV.freeL, slR, hi, hg, ho])
  · have hR : R ≠ [] := by simpa using hne
    rw [(slR_long hne).1]
    rw [(slR_long hne).2] at hS
    have hgt := (hS.obj 0 rb _ rfl).1
    have e : ∀ n, n = (R.map regAV).length → freezeC st (.sl 3 rb 0 n) = some (.vs 3 (.tok st.next) (R.map regAV), (st.drop rb).newTok) := fun n hn => by
      subst hn
      simp only [freezeC, hgt]
      rw [if_pos ⟨trivial, by omega⟩, if_pos (by omega), List.drop_zero, List.take_of_length_le (Nat.le_refl _)]
    refine ⟨.vs 3 (.tok st.next) (R.map regAV), (st.drop rb).newTok, ⟨rfl, plain_list reg_plain hR, ?_⟩, ?_, hS.freeze⟩
    · simp only [AV.free]; exact freeL_map reg_free R
    · simp only [freezeA, freezeM, freezeB, freezeL, freezeC_free hi, e _ rfl, freezeC_free hg, freezeC_free ho]
      rfl
theorem qok_of {s : GSl ByteArray} {R : List GReg} {G : List (Int × Int)} {outs : GSl GPin} {rv v : AV} (h1 : rv.cellOk = true ∧ AV.plain rv = (GSl.of R).av 3 regAV ∧ AV.free rv = true) (h2 : v.cellOk = true ∧ AV.plain v = outs.av 2 pinAV ∧ AV.free v = true) : QOk (s.av 1 strAV, rv, (GSl.of G).av 2 gateAV, v) ⟨s, GSl.of R, GSl.of G, outs⟩ := by
  refine ⟨?_, ?_, ok4 (av_cellOk _ _ _) h1.1 (av_cellOk _ _ _) h2.1⟩
  · simp only [qAV, netAV, AV.plain, AV.plainL, plain_av str_plain, plain_av gate_plain, h1.2.1, h2.2.1]
  · simp only [qAV, AV.free, AV.freeL, free_av str_free, free_av gate_free, h1.2.2, h2.2.2, Bool.and_true]
theorem view_q {st : St} {i g o : AV} {rb : Nat} {R : List GReg} (hi : AV.free i = true) (hg : AV.free g = true) (ho : AV.free o = true) (hS : R ≠ [] → st.get rb = some (.row 3 (R.map regAV))) :
    mapO (viewA st 9) [.agg [i, slR 3 rb (R.map regAV), g, o]] = some [.agg [AV.plain i, (GSl.of R).av 3 regAV, AV.plain g, AV.plain o]] := by
  by_cases hne : R.map regAV = []
  · have hR : R = [] := by simpa using hne
    subst hR
    have hf : AV.free (.agg [i, .nilsl, g, o]) = true := by simp [AV.free, AV.freeL, hi, hg, ho]
    show mapO (viewA st 9) [.agg [i, .nilsl, g, o]] = _
    simp only [mapO, viewA_free 8 hf]
    rfl
  · have hR : R ≠ [] := by simpa using hne
    have hgt := hS hR
    rw [(slR_long hne).1]
    have hf : AV.free (.agg [i, .sl 3 rb 0 (R.map regAV).length, g, o]) = false := by simp [AV.free, AV.freeL]
    have hf2 : AV.free (.sl 3 rb 0 (R.map regAV).length) = false := rfl
    have e1 : viewA st 8 (.sl 3 rb 0 (R.map regAV).length) = some ((GSl.of R).av 3 regAV) := by
      simp only [viewA, hf2, hgt, Bool.false_eq_true, if_false]
      rw [if_pos ⟨trivial, by omega⟩, List.drop_zero, List.take_of_length_le (Nat.le_refl _)]
      have : mapO (viewA st 7) (R.map regAV) = some (R.map regAV) := by
        have h := mapO_free (st := st) 6 (xs := R.map regAV) (freeL_map reg_free R)
        rw [plainL_map reg_plain] at h
        exact h
      simp only [viewA] at this
      rw [this]
      cases R with
      | nil => exact absurd rfl hR
      | cons r R => rfl
    have e0 : viewA st 9 (.agg [i, .sl 3 rb 0 (R.map regAV).length, g, o]) = (mapO (viewA st 8) [i, .sl 3 rb 0 (R.map regAV).length, g, o]).map .agg := by
      show (if AV.free _ then _ else _) = _
      rw [hf]; rfl
    simp only [mapO, e0, e1, viewA_free 7 hi, viewA_free 7 hg, viewA_free 7 ho]
    rfl
def nextR (R : List GReg) (next : List Int) : List GReg := List.zipWith (fun r l => ⟨r.name, r.init, l⟩) R next
def nextP (R : List GReg) (next : List Int) (i : Nat) : List GReg := nextR (R.take i) next ++ R.drop i
theorem nextR_len {R : List GReg} {next : List Int} (h : next.length = R.length) : (nextR R next).length = R.length := by simp [nextR, h]
theorem nextP_zero {R : List GReg} {next : List Int} : nextP R next 0 = R := by simp [nextP, nextR]
theorem nextP_all {R : List GReg} {next : List Int} : nextP R next R.length = nextR R next := by simp [nextP]
theorem nextP_get {R : List GReg} {next : List Int} {i : Nat} (h : next.length = R.length) (hi : i < R.length) : (nextP R next i)[i]? = some R[i] := by
  unfold nextP
  rw [List.getElem?_append_right (by simp only [nextR, List.length_zipWith, List.length_take]; omega)]
  rw [show i - (nextR (R.take i) next).length = 0 by simp only [nextR, List.length_zipWith, List.length_take]; omega, List.drop_eq_getElem_cons hi]; rfl
theorem nextP_succ {R : List GReg} {next : List Int} {i : Nat} (h : next.length = R.length) (hi : i < R.length) : nextP R next (i + 1) = (nextP R next i).set i ⟨R[i].name, R[i].init, next[i]⟩ := by
  unfold nextP
  have hl : (nextR (R.take i) next).length = i := by simp only [nextR, List.length_zipWith, List.length_take]; omega
  rw [List.set_append_right _ _ (by omega), hl, Nat.sub_self, List.drop_eq_getElem_cons hi, List.set_cons_zero]
  have : nextR (R.take (i + 1)) next = nextR (R.take i) next ++ [⟨R[i].name, R[i].init, next[i]⟩] := by
    apply List.ext_getElem?
    intro j
    simp only [nextR, List.getElem?_zipWith]
    by_cases c : j < i
    · rw [List.getElem?_append_left (by simp only [List.length_zipWith, List.length_take]; omega)]
      simp only [List.getElem?_zipWith, List.getElem?_take]
      rw [if_pos (by omega), if_pos c]
    · rw [List.getElem?_append_right (by simp only [List.length_zipWith, List.length_take]; omega)]
      simp only [List.length_zipWith, List.length_take, List.getElem?_take]
      by_cases c2 : j = i
      · subst c2
        rw [if_pos (by omega), show j - min (min j R.length) next.length = 0 by omega, List.getElem?_eq_getElem hi, List.getElem?_eq_getElem (by omega)]; rfl
      · rw [if_neg (by omega), (List.getElem?_eq_none (show 1 ≤ j - min (min i R.length) next.length by omega) : ([_] : List GReg)[j - min (min i R.length) next.length]? = none)]
  rw [this, List.append_assoc]; rfl
attribute [local irreducible] WS QS OS OD Abs.Sub SubO SubK CW GSl.av accA growA
section
variable {pr : Prims} {L : List (Nat × AObj)} {K : List (Nat × Bool)} {st : St}
theorem use138o (h : Has pr 138 Rel138) {t : Nat} {G : List (Int × Int)} (hs : G.length ≤ 1000000) (st : St) : primOf Rel138 [accA t 2 (G.map gateAV)] st = some ((GSl.of G).av 2 gateAV, st) :=
  h.use (r := (GSl.of G).av 2 gateAV) ⟨GSl.of G, by dsimp only; rw [gof_xs]; exact hs, by simp [AV.plainL, plain_acc gate_plain], by dsimp only; rw [cloneG_of]⟩ st
set_option maxHeartbeats 1000000 in
theorem run118 (h1 : pr 118 = none) (h112 : Has pr 112 Rel112) (h137 : pr 137 = none) (h138 : Has pr 138 Rel138) (h80 : pr 80 = none) {m : MkI} {tg : Nat} {G : List (Int × Int)} (hf : m.Fit) (hG : G.length ≤ 20000) (hS : SFa L [] st) :
    CW (En pr) 118 [.agg [m.ins.av 1 strAV, accA m.tr 3 (m.regs.map regAV), accA tg 2 (G.map gateAV), .nilsl]] st fun r st' => ∃ b : Nat, True ∧ r = .agg [(cloneG m.ins).av 1 strAV, slR 3 b (m.regs.map regAV), (GSl.of G).av 2 gateAV, .nilsl] ∧ SFa (slO 3 b (m.regs.map regAV) ++ L) [] st' := by
  obtain ⟨f1, f2⟩ := hf
  have u112 := use112 h112 (s := m.ins) (by omega)
  have z112 : ∀ st, freezeA st ((cloneG m.ins).av 1 strAV) = some ((cloneG m.ins).av 1 strAV, st) := fun st => freeze_free (free_av str_free)
  have u138 := use138o h138 (t := tg) (G := G) (by omega)
  have z138 : ∀ st, freezeA st ((GSl.of G).av 2 gateAV) = some ((GSl.of G).av 2 gateAV, st) := fun st => freeze_free (free_av gate_free)
  have hok : (AV.agg [m.ins.av 1 strAV, accA m.tr 3 (m.regs.map regAV), accA tg 2 (G.map gateAV), .nilsl]).ok = true := ok4 (av_cellOk _ _ _) acc_cell acc_cell rfl
  have hokR : ∀ b, (AV.agg [(cloneG m.ins).av 1 strAV, slR 3 b (m.regs.map regAV), (GSl.of G).av 2 gateAV, .nilsl]).ok = true := fun b => ok4 (av_cellOk _ _ _) slR_cell (av_cellOk _ _ _) rfl
  have c137 : ∀ (L' : List (Nat × AObj)) (st : St), SFa L' [] st → CW (En pr) 137 [accA m.tr 3 (m.regs.map regAV)] st fun r st' => ∃ b : Nat, r = slR 3 b (m.regs.map regAV) ∧ SFa (slO 3 b (m.regs.map regAV) ++ L') [] st' := fun L' st hS => by
    by_cases hne : m.regs.map regAV = []
    · rw [hne, acc_nil]
      exact (run137n h137 hS).mono fun r st' ⟨e, hs⟩ => ⟨0, e, hs⟩
    · rw [acc_vs hne]
      refine (run137o h137 (xs := m.regs) (sz' := 3) (fun _ _ => rfl) rfl (fun _ _ => rfl) (by simp [Nat.beq_refl]) (by omega) hS).mono fun r st' ⟨b, _, e, hs⟩ => ⟨b, ?_, ?_⟩
      · rw [e, (slR_long hne).1, List.length_map]
      · rw [(slR_long hne).2]; exact hs
  refine CW.startS (N := 16) h1 rfl rfl hS ?_
  repeat' (first | (refine OS.do rfl ?_; first | refine OD.box rfl rfl rfl rfl hok rfl (fun b1 => ?_) | refine OD.alloc rfl rfl rfl rfl (fun _ => ?_)) | refine OS.nil ?_ | refine WS.seq ?_ | refine QS.seqN ?_ | refine WS.region ?_)
  refine WS.drawY 12 [] (K := []) rfl rfl rfl rfl ?_; (repeat' (first | refine SegY.nil ?_ | refine SegY.auto rfl rfl rfl rfl ?_ | refine SegY.loadP 0 rfl rfl rfl rfl rfl rfl rfl ?_ | refine SegY.loadP 1 rfl rfl rfl rfl rfl rfl rfl ?_ | refine SegY.loadP 2 rfl rfl rfl rfl rfl rfl rfl ?_ | refine SegY.indexAddr rfl rfl rfl rfl rfl ?_ | refine SegY.call rfl rfl rfl rfl h112.eq u112 z112 ?_ | refine SegY.call rfl rfl rfl rfl h138.eq u138 z138 ?_ | refine SegY.callW (D := Nat) (fun _ => True) (fun b => slR 3 b (m.regs.map regAV)) (fun b => slO 3 b (m.regs.map regAV)) (fun _ => []) rfl rfl rfl rfl (fun st hS => (c137 _ st hS).mono fun r st' ⟨b, e, hs⟩ => ⟨b, st', trivial, by subst e; rfl, hs⟩) (fun b _ => ?_) | refine SegY.callW (D := Unit) (fun _ => True) (fun _ => .nilsl) (fun _ => _) (fun _ => _) rfl rfl rfl rfl (fun st hS => (run80n h80 hS).mono fun r st' ⟨e, hs⟩ => ⟨(), st', trivial, by subst e; rfl, hs⟩) (fun _ _ => ?_)))
  by_cases hne : m.regs.map regAV = []
  · have e1 : ∀ b, slO 3 b (m.regs.map regAV) = [] := fun b => by rw [hne]; rfl
    have e2 : ∀ b, slR 3 b (m.regs.map regAV) = .nilsl := fun b => by rw [hne]; rfl
    simp only [e1, e2] at *
    dsimp only [RSt.at, List.cons_append, List.nil_append]
    repeat' (first | (refine OS.do rfl ?_; first | refine OD.build rfl rfl (bld4 (av_cellOk _ _ _) rfl (av_cellOk _ _ _) rfl) ?_ | refine OD.storeW 0 rfl rfl rfl rfl (hokR 0) rfl rfl rfl ?_) | refine OS.nil ?_ | refine QS.seqN ?_ | refine WS.ret ?_)
    exact QS.retO (ResO.cell 0 (by rfl) (by rfl) (by rfl) (by rfl) (by rfl) .nil) fun st hs => ⟨0, trivial, rfl, hs.subO (.drop (.drop (.refl _)))⟩
  · have e1 : ∀ b, slO 3 b (m.regs.map regAV) = [(b, .row 3 (m.regs.map regAV))] := fun b => (slR_long hne).2
    have e2 : ∀ b, slR 3 b (m.regs.map regAV) = .sl 3 b 0 (m.regs.map regAV).length := fun b => (slR_long hne).1
    simp only [e1, e2] at *
    dsimp only [RSt.at, List.cons_append, List.nil_append]
    repeat' (first | (refine OS.do rfl ?_; first | refine OD.build rfl rfl (bld4 (av_cellOk _ _ _) rfl (av_cellOk _ _ _) rfl) ?_ | refine OD.storeW 1 rfl rfl rfl rfl (hokR b) rfl rfl rfl ?_) | refine OS.nil ?_ | refine QS.seqN ?_ | refine WS.ret ?_)
    exact QS.retO (ResO.cell 1 (by rfl) (by rfl) (by rfl) (by rfl) (by rfl) .nil) fun st hs => ⟨b, trivial, rfl, hs.subO (.keep (.drop (.drop (.refl _))))⟩
theorem st_out4 {sz : Nat} {a b c d v : AV} (h : v.cellOk = true) : AObj.row sz ([AV.agg [a, b, c, d]].set 0 (.agg ([a, b, c, d].take (0 + 3) ++ v.cells ++ [a, b, c, d].drop (0 + 3 + v.cells.length)))) = .row sz [.agg [a, b, c, v]] := by
  rw [cells_of h]; rfl
theorem run117n (h1 : pr 117 = none) (km : Nat) {mb tg : Nat} {m : MkI} {G : List (Int × Int)} (hm : L[km]? = some (mb, mkO m tg G)) (hS : SFa L K st) :
    CW (En pr) 117 [.ptr mb 0 0, .nilsl] st fun r st' => r = .int .i64 0 ∧ SFa L K st' := by
  refine CW.startS (N := 31) h1 rfl rfl hS ?_
  repeat' (first | (refine OS.do rfl ?_; first | refine OD.loadP km rfl rfl hm rfl rfl rfl ?_ | refine OD.auto rfl rfl ?_ | refine OD.len rfl rfl (fun _ => rfl) ?_ | refine OD.nilCheckP rfl rfl ?_) | refine OS.nil ?_ | refine WS.seq ?_ | refine QS.seqN ?_ | refine WS.region ?_ | refine WS.condF rfl ?_ | refine WS.skip ?_ | refine WS.block ?_)
  refine WS.rangeX (A := Unit) (n := 0) ⟨18, _, fun _ => [], fun _ => L, fun _ => K, fun _ _ => True⟩ (()) [0, 16, 17] (trivial) ?_ ?_
  · rintro i _ hi _
    exact absurd hi (Nat.not_lt_zero _)
  · rintro _ _
    dsimp only [RSt.at, List.cons_append, List.nil_append]
    repeat' (first | (refine OS.do rfl ?_; first | refine OD.auto rfl rfl ?_) | refine OS.nil ?_ | refine WS.seq ?_ | refine QS.seqN ?_ | refine WS.region ?_ | refine WS.ret ?_)
    exact QS.retRS (by rfl) fun st hs => ⟨rfl, hs⟩
def netN (m : MkI) (next : List Int) (G : List (Int × Int)) (outs : GSl GPin) : GNet := ⟨cloneG m.ins, GSl.of (nextR m.regs next), GSl.of G, outs⟩
set_option maxHeartbeats 2000000 in
theorem run81 (h1 : pr 81 = none) (h117 : pr 117 = none) (h118 : pr 118 = none) (h112 : Has pr 112 Rel112) (h137 : pr 137 = none) (h138 : Has pr 138 Rel138) (h80 : pr 80 = none) (h57 : Has pr 57 Rel57) (km : Nat) {mb tg : Nat} {m : MkI} {G : List (Int × Int)} (hm : L[km]? = some (mb, mkO m tg G)) (hf : m.Fit) (hG : G.length ≤ 20000)
    {next : List Int} (hn : next.length = m.regs.length) {tn : Nat} {ox : AV} {outs : GSl GPin}
    (c80 : ∀ (X : List (Nat × AObj)) (st : St), SFa (X ++ L) [] st → CW (En pr) 80 [ox] st fun r st' => ∃ (v : AV) (st2 : St), (v.cellOk = true ∧ AV.plain v = outs.av 2 pinAV ∧ AV.free v = true) ∧ freezeA st' r = some (v, st2) ∧ SFa (X ++ L) [] st2)
    (hF : FitsN (netN m next G outs)) (hV : validM (netN m next G outs) = true) (hS : SFa L [] st) :
    CW (En pr) 81 [.ptr mb 0 0, accA tn 1 (next.map intAV), ox] st fun r st' => ∃ (q : Quad) (st2 : St), QOk q (netN m next G outs) ∧ freezeA st' r = some (.tup [qAV q, .int .i64 0], st2) ∧ SFa L [] st2 := by
  have c117 := fun {L' : List (Nat × AObj)} (km : Nat) (hm : L'[km]? = some (mb, mkO m tg G)) (st : St) (hS : SFa L' [] st) => run117n h117 km hm hS
  have c118 := fun {L' : List (Nat × AObj)} (st : St) (hS : SFa L' [] st) => run118 h118 h112 h137 h138 h80 (tg := tg) hf hG hS
  have hf' := hf
  obtain ⟨f1, f2⟩ := hf'
  have hokR : ∀ b, (AV.agg [(cloneG m.ins).av 1 strAV, slR 3 b (m.regs.map regAV), (GSl.of G).av 2 gateAV, .nilsl]).ok = true := fun b => ok4 (av_cellOk _ _ _) slR_cell (av_cellOk _ _ _) rfl
  refine CW.startS (N := 55) h1 rfl rfl hS ?_
  repeat' (first | (refine OS.do rfl ?_; first | refine OD.loadP (km + 1) rfl rfl hm rfl rfl rfl ?_ | refine OD.storeW 0 rfl rfl rfl rfl (hokR _) rfl rfl rfl ?_ | refine OD.auto rfl rfl ?_ | refine OD.len rfl rfl (fun _ => lenTy_accm rfl rfl) ?_ | refine OD.alloc rfl rfl rfl rfl (fun _ => ?_) | refine OD.storeW 0 rfl rfl rfl rfl (by first | rfl | exact net_ok _) rfl rfl rfl ?_ | refine OD.nilCheckP rfl rfl ?_ | (refine OD.callP (fun r => r = .int .i64 0) rfl rfl rfl (c117 (km + 1) hm) (by rintro v st rfl; rfl) ?_; rintro v rfl) | (refine OD.callR (D := Nat) (fun _ => True) (fun b => .agg [(cloneG m.ins).av 1 strAV, slR 3 b (m.regs.map regAV), (GSl.of G).av 2 gateAV, .nilsl]) (fun b => slO 3 b (m.regs.map regAV) ++ _) (fun _ => []) rfl rfl rfl rfl c118 ?_; rintro rb _)) | refine OS.nil ?_ | refine WS.seq ?_ | refine QS.seqN ?_ | refine WS.region ?_ | refine WS.condF rfl ?_ | refine WS.skip ?_ | refine WS.ret ?_ | refine QS.seqR ?_ | refine WS.condNe rfl (fun _ => ?_) (fun _ => ?_))
  · exfalso; omega
  rename_i b6 _ _ b9
  dsimp only [List.set_cons_zero]
  by_cases hne : m.regs = []
  · have hnx : next = [] := by
      rw [hne] at hn
      exact List.length_eq_zero_iff.1 hn
    have e1 : slO 3 rb (m.regs.map regAV) = [] := by rw [hne]; rfl
    have e2 : slR 3 rb (m.regs.map regAV) = .nilsl := by rw [hne]; rfl
    rw [e1, e2]
    dsimp only [List.cons_append, List.nil_append]
    repeat' (first | (refine OS.do rfl ?_; first | refine OD.auto rfl rfl ?_ | refine OD.len rfl rfl (fun _ => lenTy_accm rfl rfl) ?_ | (refine OD.callZ (D := AV) (fun v => v.cellOk = true ∧ AV.plain v = outs.av 2 pinAV ∧ AV.free v = true) (fun v => v) (fun _ => [(b9, _), (b6, _)] ++ L) (fun _ => []) rfl rfl rfl rfl (fun st hS => (c80 [_, _] st hS).mono fun r st' ⟨v, st2, a, b, c⟩ => ⟨v, st2, a, b, c⟩) ?_; rintro v ⟨v1, v2, v3⟩) | (refine OD.storeG 0 rfl rfl rfl rfl rfl (ok_of v1) (by rw [cells_of v1]; rfl) (by rw [cells_of v1]; rfl) ?_; rw [st_out4 v1])) | refine OS.nil ?_ | refine WS.seq ?_ | refine QS.seqN ?_ | refine WS.region ?_ | refine WS.block ?_)
    dsimp only [List.cons_append, List.nil_append, List.set_cons_zero]
    have hview : ∀ st : St, mapO (viewA st 9) [.agg [(cloneG m.ins).av 1 strAV, .nilsl, (GSl.of G).av 2 gateAV, v]] = some [netAV (netN m next G outs)] := fun st => by
      have := view_q (st := st) (rb := rb) (R := []) (free_av str_free (s := cloneG m.ins) (sz := 1)) (free_av gate_free (s := GSl.of G) (sz := 2)) v3 (fun h => absurd rfl h)
      rw [v2, plain_av str_plain, plain_av gate_plain] at this
      unfold netN
      rw [show nextR m.regs next = [] by rw [hne]; rfl]
      exact this
    have u57 : ∀ st : St, primOf Rel57 [.agg [(cloneG m.ins).av 1 strAV, .nilsl, (GSl.of G).av 2 gateAV, v]] st = some (.bool true, st) := fun st => h57.view (hview st) ⟨_, hF, rfl, (congrArg AV.bool hV).symm⟩ rfl
    refine WS.rangeX (A := Unit) (n := next.length) ⟨38, _, fun _ => [], fun _ => (b9, .row ty27.size [.agg [(cloneG m.ins).av 1 strAV, .nilsl, (GSl.of G).av 2 gateAV, v]]) :: (b6, .row ty27.size [ty27.zeroV]) :: L, fun _ => [], fun _ _ => True⟩ (()) [6, 9, 36, 37] (trivial) ?_ ?_
    · rintro i _ hi _
      rw [hnx] at hi
      exact absurd hi (Nat.not_lt_zero _)
    · rintro _ _
      dsimp only [RSt.at, List.cons_append, List.nil_append]
      repeat' (first | (refine OS.do rfl ?_; first | refine OD.storeW 1 rfl rfl rfl rfl (ok4 (av_cellOk _ _ _) rfl (av_cellOk _ _ _) v1) rfl rfl rfl ?_ | refine OD.loadP 0 rfl rfl rfl rfl rfl rfl ?_ | refine OD.auto rfl rfl ?_ | refine OD.call rfl rfl rfl h57.eq u57 (fun _ => rfl) ?_) | refine OS.nil ?_ | refine WS.seq ?_ | refine QS.seqN ?_ | refine WS.region ?_ | refine WS.condF rfl ?_ | refine WS.skip ?_ | refine WS.ret ?_)
      refine QS.retO (ResO.cell 1 (by rfl) (by rfl) (by rfl) (by rfl) (by rfl) (.tmp (by rfl) .nil)) fun st hs => ?_
      obtain ⟨rv, st2, q1, q2, q3⟩ := freeze_q (st := st) (rb := rb) (R := []) (free_av str_free (s := cloneG m.ins) (sz := 1)) (free_av gate_free (s := GSl.of G) (sz := 2)) v3 (L := L) (hs.subO (.drop (.drop (.refl _))))
      refine ⟨((cloneG m.ins).av 1 strAV, rv, (GSl.of G).av 2 gateAV, v), st2, ?_, q2, q3⟩
      have := qok_of (s := cloneG m.ins) (G := G) q1 ⟨v1, v2, v3⟩
      unfold netN
      rw [show nextR m.regs next = [] by rw [hne]; rfl]
      exact this
  · have hne' : m.regs.map regAV ≠ [] := by simpa using hne
    have e1 : slO 3 rb (m.regs.map regAV) = [(rb, .row 3 (m.regs.map regAV))] := (slR_long hne').2
    have e2 : slR 3 rb (m.regs.map regAV) = .sl 3 rb 0 m.regs.length := by rw [(slR_long hne').1, List.length_map]
    rw [e1, e2]
    dsimp only [List.cons_append, List.nil_append]
    repeat' (first | (refine OS.do rfl ?_; first | refine OD.auto rfl rfl ?_ | refine OD.len rfl rfl (fun _ => lenTy_accm rfl rfl) ?_ | (refine OD.callZ (D := AV) (fun v => v.cellOk = true ∧ AV.plain v = outs.av 2 pinAV ∧ AV.free v = true) (fun v => v) (fun _ => [(b9, _), (rb, _), (b6, _)] ++ L) (fun _ => []) rfl rfl rfl rfl (fun st hS => (c80 [_, _, _] st hS).mono fun r st' ⟨v, st2, a, b, c⟩ => ⟨v, st2, a, b, c⟩) ?_; rintro v ⟨v1, v2, v3⟩) | (refine OD.storeG 0 rfl rfl rfl rfl rfl (ok_of v1) (by rw [cells_of v1]; rfl) (by rw [cells_of v1]; rfl) ?_; rw [st_out4 v1])) | refine OS.nil ?_ | refine WS.seq ?_ | refine QS.seqN ?_ | refine WS.region ?_ | refine WS.block ?_)
    dsimp only [List.cons_append, List.nil_append, List.set_cons_zero]
    refine WS.rangeX (A := List GReg) (n := next.length) ⟨38, _, fun _ => [], fun R => (b9, .row ty27.size [.agg [(cloneG m.ins).av 1 strAV, .sl 3 rb 0 m.regs.length, (GSl.of G).av 2 gateAV, v]]) :: (rb, .row 3 (R.map regAV)) :: (b6, .row ty27.size [ty27.zeroV]) :: L, fun _ => [], fun i R => R = nextP m.regs next i⟩ (m.regs) [6, 9, 36, 37] (nextP_zero.symm) ?_ ?_
    · rintro i R hi hR
      try dsimp only at hR
      have hir : i < m.regs.length := by omega
      have hbr : (R.map regAV)[i]? = some (regAV m.regs[i]) := by rw [List.getElem?_map, hR, nextP_get hn hir]; rfl
      have hmr : (R.map regAV).set i (.agg [.str m.regs[i].name, .int .u8 m.regs[i].init.toNat, .int .i64 next[i]]) = (R.set i ⟨m.regs[i].name, m.regs[i].init, next[i]⟩).map regAV := by rw [List.map_set]; rfl
      dsimp only [RSt.at, List.cons_append, List.nil_append]
      repeat' (first | (refine OS.do rfl ?_; first | refine OD.loadP 0 rfl rfl rfl rfl rfl rfl ?_ | refine OD.auto rfl rfl ?_ | refine OD.indexAddr rfl rfl rfl (indexAddrA_accn rfl rfl rfl rfl (by first | assumption | exact List.getElem?_eq_getElem (by omega))) ?_ | refine OD.indexAddr rfl rfl rfl (indexAddrA_sl rfl rfl rfl rfl (by omega)) ?_ | refine OD.storeG 1 rfl rfl rfl rfl hbr rfl rfl rfl ?_) | refine OS.nil ?_ | refine WS.seq ?_ | refine QS.seqN ?_ | refine WS.region ?_)
      exact QS.rangeX (R.set i ⟨m.regs[i].name, m.regs[i].init, next[i]⟩) (by (try dsimp only) <;> exact (by rw [nextP_succ hn hir, hR])) (hL := by (try dsimp only); rw [← hmr]; exact SubO.refl _)
    · rintro R hR
      try dsimp only at hR
      rw [hn, nextP_all] at hR
      subst hR
      have hnl : (nextR m.regs next).length = m.regs.length := nextR_len hn
      have hne2 : (nextR m.regs next).map regAV ≠ [] := by
        intro h
        have : (nextR m.regs next).length = 0 := by rw [List.map_eq_nil_iff.1 h]; rfl
        exact hne (List.length_eq_zero_iff.1 (by omega))
      have e3 : slR 3 rb ((nextR m.regs next).map regAV) = .sl 3 rb 0 m.regs.length := by rw [(slR_long hne2).1, List.length_map, hnl]
      have hview : ∀ st : St, st.get rb = some (.row 3 ((nextR m.regs next).map regAV)) → mapO (viewA st 9) [.agg [(cloneG m.ins).av 1 strAV, .sl 3 rb 0 m.regs.length, (GSl.of G).av 2 gateAV, v]] = some [netAV (netN m next G outs)] := fun st hg => by
        have := view_q (st := st) (rb := rb) (R := nextR m.regs next) (free_av str_free (s := cloneG m.ins) (sz := 1)) (free_av gate_free (s := GSl.of G) (sz := 2)) v3 (fun _ => hg)
        rw [v2, plain_av str_plain, plain_av gate_plain, e3] at this
        exact this
      have u57 : ∀ st : St, SFa ((b9, .row ty27.size [.agg [(cloneG m.ins).av 1 strAV, .sl 3 rb 0 m.regs.length, (GSl.of G).av 2 gateAV, v]]) :: (rb, .row 3 ((nextR m.regs next).map regAV)) :: (b6, .row ty27.size [ty27.zeroV]) :: L) [] st → primOf Rel57 [.agg [(cloneG m.ins).av 1 strAV, .sl 3 rb 0 m.regs.length, (GSl.of G).av 2 gateAV, v]] st = some (.bool true, st) := fun st hS => h57.view (hview st (hS.obj 1 rb _ rfl).1) ⟨_, hF, rfl, (congrArg AV.bool hV).symm⟩ rfl
      dsimp only [RSt.at, List.cons_append, List.nil_append]
      repeat' (first | (refine OS.do rfl ?_; first | refine OD.storeW 2 rfl rfl rfl rfl (ok4 (av_cellOk _ _ _) rfl (av_cellOk _ _ _) v1) rfl rfl rfl ?_ | refine OD.loadP 0 rfl rfl rfl rfl rfl rfl ?_ | refine OD.auto rfl rfl ?_ | refine OD.callV rfl rfl rfl h57.eq u57 (fun _ => rfl) ?_) | refine OS.nil ?_ | refine WS.seq ?_ | refine QS.seqN ?_ | refine WS.region ?_ | refine WS.condF rfl ?_ | refine WS.skip ?_ | refine WS.ret ?_)
      refine QS.retO (ResO.cell 2 (by rfl) (by rfl) (by rfl) (by rfl) (by rfl) (.tmp (by rfl) .nil)) fun st hs => ?_
      obtain ⟨rv, st2, q1, q2, q3⟩ := freeze_q (st := st) (rb := rb) (R := nextR m.regs next) (free_av str_free (s := cloneG m.ins) (sz := 1)) (free_av gate_free (s := GSl.of G) (sz := 2)) v3 (L := L) (by rw [(slR_long hne2).2]; exact hs.subO (.drop (.keep (.drop (.refl _)))))
      rw [e3] at q2
      exact ⟨_, st2, qok_of (s := cloneG m.ins) (G := G) q1 ⟨v1, v2, v3⟩, q2, q3⟩
end
end Go.OptEnv

namespace Go.OptEnv
open Go Go.Proofs Go.Abs Go.RowKit Go.NetM
set_option maxRecDepth 10000
def mapC {α β : Type} (s : GSl α) (f : α → β) : GSl β := match s.nil with
  | some true => GSl.of []
  | _ => GSl.some (s.xs.map f)
theorem mapC_xs {α β : Type} (s : GSl α) (f : α → β) : (mapC s f).xs = s.xs.map f := by
  unfold mapC
  split
  · rename_i h; rw [s.h (by rw [h]; simp)]; rfl
  · rfl
def withLit (lits : List Int) (p : GPin) : GPin := ⟨p.name, atL lits p.lit⟩
def pinP (lits : List Int) (P : List GPin) (i : Nat) : List GPin := (P.take i).map (withLit lits) ++ P.drop i
theorem pinP_get {lits : List Int} {P : List GPin} {i : Nat} (h : i < P.length) : (pinP lits P i)[i]? = some P[i] := by
  unfold pinP
  rw [List.getElem?_append_right (by simp only [List.length_map, List.length_take]; omega)]
  rw [show i - ((P.take i).map (withLit lits)).length = 0 by simp only [List.length_map, List.length_take]; omega, List.drop_eq_getElem_cons h]; rfl
theorem pinP_succ {lits : List Int} {P : List GPin} {i : Nat} (h : i < P.length) : pinP lits P (i + 1) = (pinP lits P i).set i (withLit lits P[i]) := by
  unfold pinP
  rw [map_take_succ h, List.set_append_right _ _ (by simp only [List.length_map, List.length_take]; omega)]
  rw [show i - ((P.take i).map (withLit lits)).length = 0 by simp only [List.length_map, List.length_take]; omega, List.drop_eq_getElem_cons h]
  simp only [List.append_assoc, List.cons_append, List.nil_append, List.set_cons_zero]
theorem pinP_zero {lits : List Int} {P : List GPin} : pinP lits P 0 = P := by simp [pinP]
theorem pinP_all {lits : List Int} {P : List GPin} : pinP lits P P.length = P.map (withLit lits) := by simp [pinP]
structure LitsOk (lits : List Int) : Prop where
  range : ∀ j, 0 ≤ lits.getD j 0 ∧ lits.getD j 0 < 4611686018427387904
  len : lits.length ≤ 1000000
theorem get_at {α : Type} {A B : List α} {p : α} : (A ++ p :: B)[A.length]? = some p := by
  rw [List.getElem?_append_right (Nat.le_refl _), Nat.sub_self]; rfl
theorem SFa.behind {X L : List (Nat × AObj)} {p : Nat × AObj} {st : St} (h : SFa (X ++ p :: L) [] st) : st.get p.1 = some p.2 := (h.obj X.length p.1 p.2 get_at).1
theorem freeze_sl {L : List (Nat × AObj)} {st : St} {sz b n : Nat} {xs : List AV} (hn : n = xs.length) (h : SFa ((b, .row sz xs) :: L) [] st) : freezeA st (.sl sz b 0 n) = some (.vs sz (.tok st.next) xs, (st.drop b).newTok) ∧ SFa L [] ((st.drop b).newTok) := by
  subst hn
  refine ⟨?_, h.freeze⟩
  show freezeC st (.sl sz b 0 xs.length) = _
  simp only [freezeC, (h.obj 0 b _ rfl).1]
  rw [if_pos ⟨trivial, by omega⟩, if_pos (by omega), List.drop_zero, List.take_of_length_le (Nat.le_refl _)]
theorem plain_some {α : Type} {f : α → AV} (hf : ∀ a, AV.plain (f a) = f a) {sz : Nat} {o : Own} {xs : List α} : AV.plain (.vs sz o (xs.map f)) = (GSl.some xs).av sz f := by
  simp only [AV.plain, plainL_map hf]; rfl
attribute [local irreducible] WS QS OS OD Abs.Sub SubO SubK CW GSl.av accA growA
section
variable {pr : Prims} {L : List (Nat × AObj)} {K : List (Nat × Bool)} {st : St}
theorem run125s (h1 : pr 125 = none) (k5 kl : Nat) {b5 lb : Nat} {lits : List Int} (hx : L[k5]? = some (b5, .row 1 [.sl 1 lb 0 lits.length])) (hL : L[kl]? = some (lb, .row 1 (lits.map intAV))) (ho : LitsOk lits) {l : Int} (hl : 0 ≤ l ∧ l < 2 * (lits.length : Int)) (hS : SFa L K st) :
    CW (En pr) 125 [.int .i64 l, .ptr b5 0 0] st fun r st' => r = .int .i64 (atL lits l) ∧ SFa L K st' := by
  obtain ⟨hv, hn⟩ := ho
  have hw : IntKind.i64.wrap (l.tdiv 2) = l / 2 := by
    rw [Int.tdiv_eq_ediv_of_nonneg hl.1]
    exact wrap64 (by omega) (by omega)
  have hidx : indexAddrA (En pr) 38 (.sl 1 lb 0 lits.length) (.int .i64 (IntKind.i64.wrap (l.tdiv 2))) = some (.ptr lb (l / 2).toNat 0) := by
    rw [hw, show l / 2 = (((l / 2).toNat : Nat) : Int) by omega]
    exact indexAddrA_sl rfl rfl rfl rfl (by omega)
  have hg : (lits.map intAV)[(l / 2).toNat]? = some (intAV (lits.getD (l / 2).toNat 0)) := by
    rw [List.getElem?_map, List.getD_eq_getElem?_getD, List.getElem?_eq_getElem (by omega)]; rfl
  refine CW.startS (N := 12) h1 rfl rfl hS ?_
  repeat' (first | (refine OS.do rfl ?_; first | refine OD.loadP k5 rfl rfl hx rfl rfl rfl ?_ | refine OD.indexAddr rfl rfl rfl hidx ?_ | refine OD.loadP kl rfl rfl hL hg rfl rfl ?_ | refine OD.auto rfl rfl ?_) | refine OS.nil ?_ | refine WS.seq ?_ | refine QS.seqN ?_ | refine WS.region ?_ | refine WS.ret ?_)
  exact QS.retRS (by rfl) fun st hs => ⟨by rw [and1 hl.1, xor_flip (hv _) (by omega)]; rfl, hs⟩
set_option maxHeartbeats 2000000 in
theorem run96 (h1 : pr 96 = none) (h81 : pr 81 = none) (h117 : pr 117 = none) (h118 : pr 118 = none) (h112 : Has pr 112 Rel112) (h137 : pr 137 = none) (h138 : Has pr 138 Rel138) (h80 : pr 80 = none) (h57 : Has pr 57 Rel57) (km : Nat) {mb tg : Nat} {m : MkI} {G : List (Int × Int)} (hm : L[km]? = some (mb, mkO m tg G)) (hf : m.Fit) (hG : G.length ≤ 20000)
    (n : GNet) (hnr : n.regs.xs.length = m.regs.length) (hno : n.outs.xs.length ≤ 1000) {x : AV} (hxc : x.cellOk = true) {lits : List Int} (hnx : ∀ r ∈ n.regs.xs, 0 ≤ r.next ∧ r.next < 2 * (lits.length : Int)) (hox : ∀ p ∈ n.outs.xs, 0 ≤ p.lit ∧ p.lit < 2 * (lits.length : Int))
    (cto : ∀ (X : List (Nat × AObj)) (k5 b5 : Nat) (l : Int) (K' : List (Nat × Bool)) (st : St), X[k5]? = some (b5, .row 1 [x]) → (0 ≤ l ∧ l < 2 * (lits.length : Int)) → SFa (X ++ L) K' st → CW (En pr) 125 [.int .i64 l, .ptr b5 0 0] st fun r st' => r = .int .i64 (atL lits l) ∧ SFa (X ++ L) K' st')
    (hF : FitsN (netN m (n.regs.xs.map fun r => atL lits r.next) G (mapC n.outs (withLit lits)))) (hV : validM (netN m (n.regs.xs.map fun r => atL lits r.next) G (mapC n.outs (withLit lits))) = true) (hS : SFa L [] st) :
    CW (En pr) 96 [.ptr mb 0 0, netAV n, x] st fun r st' => ∃ q : Quad, QOk q (netN m (n.regs.xs.map fun r => atL lits r.next) G (mapC n.outs (withLit lits))) ∧ r = .tup [qAV q, .int .i64 0] ∧ SFa L [] st' := by
  have hf' := hf
  obtain ⟨f1, f2⟩ := hf'
  refine CW.startS (N := 56) h1 rfl rfl hS ?_
  repeat' (first | (refine OS.do rfl ?_; first | refine OD.box rfl rfl rfl rfl (net_ok _) rfl (fun b4 => ?_) | refine OD.box rfl rfl rfl rfl (ok_of hxc) (by rw [cells_of hxc]; rfl) (fun b5 => ?_) | refine OD.auto rfl rfl ?_ | refine OD.len rfl rfl (fun _ => lenTy_av rfl rfl) ?_ | refine OD.loadP 2 rfl rfl rfl rfl rfl rfl ?_ | refine OD.alloc rfl rfl rfl rfl (fun _ => ?_)) | refine OS.nil ?_ | refine WS.seq ?_ | refine QS.seqN ?_ | refine WS.region ?_ | refine WS.block ?_)
  rename_i b6
  refine WS.newK ?_
  refine WS.rangeX (A := Nat × List Int) (n := n.regs.xs.length) ⟨18, _, fun a => [(9, accA a.1 1 (a.2.map intAV))], fun _ => (b6, .row ty27.size [ty27.zeroV]) :: (b5, .row ty38.size [x]) :: (b4, .row ty27.size [netAV n]) :: L, fun a => [(a.1, !a.2.isEmpty)], fun i a => a.2 = (n.regs.xs.take i).map (fun r => atL lits r.next)⟩ ((0, [])) [0, 4, 6, 8, 16, 17] (rfl) ?_ ?_ (hm := by (try dsimp only); repeat' (first | exact Sub.nil _ | refine Sub.cons (congrArg some acc_nil.symm) ?_ | refine Sub.cons (congrArg (fun z => some (AV.int .i64 z)) (wrap_succ (by omega))) ?_ | refine Sub.cons rfl ?_))
  · rintro i ⟨t, R⟩ hi hR
    try dsimp only at hR
    have hRl : R.length = i := by rw [hR, List.length_map, List.length_take]; omega
    have hrn := hnx _ (List.getElem_mem hi)
    have hgm : R.map intAV ++ [.int .i64 (atL lits n.regs.xs[i].next)] = (R ++ [atL lits n.regs.xs[i].next]).map intAV := by rw [List.map_append]; rfl
    dsimp only [RSt.at, List.cons_append, List.nil_append]
    repeat' (first | (refine OS.do rfl ?_; first | refine OD.loadP 0 rfl rfl rfl rfl rfl rfl ?_ | refine OD.auto rfl rfl ?_ | refine OD.indexAddr rfl rfl rfl (indexAddrA_nat rfl rfl rfl rfl (by first | assumption | exact List.getElem?_eq_getElem (by omega))) ?_ | refine OD.alloc rfl rfl rfl rfl (fun _ => ?_) | refine OD.storeW 0 rfl rfl rfl rfl (by first | rfl | exact net_ok _) rfl rfl rfl ?_ | (refine OD.callP (fun v => v = .int .i64 (atL lits n.regs.xs[i].next)) rfl rfl rfl (fun st hS => cto [_, _, _, _] 2 b5 n.regs.xs[i].next _ st rfl hrn hS) (by rintro v st rfl; rfl) ?_; rintro v rfl) | refine OD.append 0 (xs := R.map intAV) (ys := [.int .i64 (atL lits n.regs.xs[i].next)]) rfl rfl rfl rfl (by rw [List.isEmpty_map]; rfl) rfl rfl rfl rfl rfl rfl (.inr ⟨⟨_, rfl⟩, rfl⟩) (fun _ => rfl) rfl rfl (roomB rfl (by simp only [List.length_map, List.length_singleton]; omega)) (fun t' => ?_)) | refine OS.nil ?_ | refine WS.seq ?_ | refine QS.seqN ?_ | refine WS.region ?_)
    rw [hgm, List.isEmpty_map]
    exact QS.rangeX ((t', R ++ [atL lits n.regs.xs[i].next])) (by (try dsimp only) <;> exact (by rw [map_take_succ hi, ← hR])) (hL := by (try dsimp only); exact SubO.drop (SubO.refl _))
  · rintro ⟨t, R⟩ hR
    try dsimp only at hR
    rw [List.take_of_length_le (Nat.le_refl _)] at hR
    subst hR
    by_cases hnl : n.outs.nil = some true
    · have ea : n.outs.av 2 pinAV = .nilsl := by unfold GSl.av; rw [hnl]
      have exs : n.outs.xs = [] := n.outs.h (by rw [hnl]; simp)
      have eo : (mapC n.outs (withLit lits)).av 2 pinAV = .nilsl := by unfold mapC; rw [hnl]; unfold GSl.av; rfl
      have c80a := fun {L' : List (Nat × AObj)} {K' : List (Nat × Bool)} (st : St) (hS : SFa L' K' st) => (show CW (En pr) 80 [n.outs.av 2 pinAV] st fun r st' => ∃ _ : Unit, True ∧ r = .nilsl ∧ SFa L' K' st' by rw [ea]; exact (run80n h80 hS).mono fun r st' ⟨e, hs⟩ => ⟨(), trivial, e, hs⟩)
      have c80' : ∀ {L' : List (Nat × AObj)} (X : List (Nat × AObj)) (st : St), SFa (X ++ L') [] st → CW (En pr) 80 [.nilsl] st fun r st' => ∃ (v : AV) (st2 : St), (v.cellOk = true ∧ AV.plain v = (mapC n.outs (withLit lits)).av 2 pinAV ∧ AV.free v = true) ∧ freezeA st' r = some (v, st2) ∧ SFa (X ++ L') [] st2 := fun X st hS => (run80n h80 hS).mono fun r st' ⟨e, hs⟩ => ⟨.nilsl, st', ⟨rfl, eo.symm, rfl⟩, by subst e; rfl, hs⟩
      dsimp only [RSt.at, List.cons_append, List.nil_append]
      repeat' (first | (refine OS.do rfl ?_; first | refine OD.auto rfl rfl ?_ | refine OD.len rfl rfl (fun _ => rfl) ?_ | refine OD.loadP 2 rfl rfl rfl rfl rfl rfl ?_ | (refine OD.callR (D := Unit) (fun _ => True) (fun _ => .nilsl) (fun _ => _) (fun _ => _) rfl rfl rfl rfl c80a ?_; rintro _ _)) | refine OS.nil ?_ | refine WS.seq ?_ | refine QS.seqN ?_ | refine WS.region ?_ | refine WS.block ?_)
      refine WS.rangeX (A := Unit) (n := 0) ⟨35, _, fun _ => [], fun _ => (b6, .row ty27.size [ty27.zeroV]) :: (b5, .row ty38.size [x]) :: (b4, .row ty27.size [netAV n]) :: L, fun _ => [], fun _ _ => True⟩ (()) [0, 6, 8, 9, 12, 34] (trivial) ?_ ?_
      · rintro i _ hi _
        exact absurd hi (Nat.not_lt_zero _)
      rintro _ _
      dsimp only [RSt.at, List.cons_append, List.nil_append]
      repeat' (first | (refine OS.do rfl ?_; first | refine OD.storeW 0 rfl rfl rfl rfl hq.ok rfl rfl rfl ?_ | refine OD.auto rfl rfl ?_ | (refine OD.callZ (D := Quad) (fun q => QOk q (netN m (n.regs.xs.map fun r => atL lits r.next) G (mapC n.outs (withLit lits)))) (fun q => .tup [qAV q, .int .i64 0]) (fun _ => _) (fun _ => []) rfl rfl rfl rfl (fun st hS => run81 h81 h117 h118 h112 h137 h138 h80 h57 (km + 3) hm hf hG (by rw [List.length_map, hnr]) c80' hF hV hS) ?_; rintro q hq)) | refine OS.nil ?_ | refine WS.seq ?_ | refine QS.seqN ?_ | refine WS.region ?_ | refine WS.ret ?_)
      refine QS.retO (ResO.cell 0 (by rfl) (by rfl) (by rfl) (by rfl) (by rfl) (.tmp (by rfl) .nil)) fun st hs => ⟨q, hq, rfl, hs.subO (.drop (.drop (.drop (.refl _))))⟩
    · have hca : n.outs.av 2 pinAV = .es ∨ n.outs.av 2 pinAV = .vs 2 .any (n.outs.xs.map pinAV) := by
        unfold GSl.av
        match hm : n.outs.nil with
        | some true => exact absurd hm hnl
        | some false => exact .inl rfl
        | none => exact .inr rfl
      have hnl0 : ∀ xo yo, binA (En pr) .eql 25 xo yo (n.outs.av 2 pinAV) .nilsl = some (.bool false) := fun xo yo => by rcases hca with h | h <;> rw [h] <;> rfl
      have eo : (mapC n.outs (withLit lits)) = GSl.some (n.outs.xs.map (withLit lits)) := by
        unfold mapC
        match hm : n.outs.nil with
        | some true => exact absurd hm hnl
        | some false => rfl
        | none => rfl
      have c80a := fun {L' : List (Nat × AObj)} {K' : List (Nat × Bool)} (st : St) (hS : SFa L' K' st) => run80o h80 (xs := n.outs.xs) hnl0 isStr_gsl (fun st _ => elemsA_gsl st) szOf_ok (by omega) hS
      dsimp only [RSt.at, List.cons_append, List.nil_append]
      repeat' (first | (refine OS.do rfl ?_; first | refine OD.auto rfl rfl ?_ | refine OD.len rfl rfl (fun _ => rfl) ?_ | refine OD.loadP 2 rfl rfl rfl rfl rfl rfl ?_ | (refine OD.callR (D := Nat) (fun _ => True) (fun b => .sl 2 b 0 n.outs.xs.length) (fun b => (b, .row 2 (n.outs.xs.map pinAV)) :: _) (fun _ => _) rfl rfl rfl rfl c80a ?_; rintro ob _)) | refine OS.nil ?_ | refine WS.seq ?_ | refine QS.seqN ?_ | refine WS.region ?_ | refine WS.block ?_)
      refine WS.rangeX (A := List GPin) (n := n.outs.xs.length) ⟨35, _, fun _ => [], fun P => (ob, .row 2 (P.map pinAV)) :: (b6, .row ty27.size [ty27.zeroV]) :: (b5, .row ty38.size [x]) :: (b4, .row ty27.size [netAV n]) :: L, fun _ => [], fun i P => P = pinP lits n.outs.xs i⟩ (n.outs.xs) [0, 6, 8, 9, 12, 34] (pinP_zero.symm) ?_ ?_
      · rintro i P hi hP
        try dsimp only at hP
        have hlit := hox _ (List.getElem_mem hi)
        have hbr : (P.map pinAV)[i]? = some (pinAV n.outs.xs[i]) := by rw [List.getElem?_map, hP, pinP_get hi]; rfl
        have hmr : (P.map pinAV).set i (.agg [.str n.outs.xs[i].name, .int .i64 (atL lits n.outs.xs[i].lit)]) = (P.set i (withLit lits n.outs.xs[i])).map pinAV := by rw [List.map_set]; rfl
        dsimp only [RSt.at, List.cons_append, List.nil_append]
        repeat' (first | (refine OS.do rfl ?_; first | refine OD.loadP 0 rfl rfl rfl hbr rfl rfl ?_ | refine OD.auto rfl rfl ?_ | refine OD.indexAddr rfl rfl rfl (indexAddrA_sl rfl rfl rfl rfl (by omega)) ?_ | (refine OD.callP (fun v => v = .int .i64 (atL lits n.outs.xs[i].lit)) rfl rfl rfl (fun st hS => cto [_, _, _, _] 2 b5 n.outs.xs[i].lit _ st rfl hlit hS) (by rintro v st rfl; rfl) ?_; rintro v rfl) | refine OD.storeG 0 rfl rfl rfl rfl hbr rfl rfl rfl ?_) | refine OS.nil ?_ | refine WS.seq ?_ | refine QS.seqN ?_ | refine WS.region ?_)
        exact QS.rangeX (P.set i (withLit lits n.outs.xs[i])) (by (try dsimp only) <;> exact (by rw [pinP_succ hi, hP])) (hL := by (try dsimp only); rw [← hmr]; exact SubO.refl _)
      rintro P hP
      try dsimp only at hP
      rw [pinP_all] at hP
      have hPl : P.length = n.outs.xs.length := by rw [hP, List.length_map]
      have c80' : ∀ {L' : List (Nat × AObj)} (X : List (Nat × AObj)) (st : St), SFa (X ++ (ob, .row 2 (P.map pinAV)) :: L') [] st → CW (En pr) 80 [.sl 2 ob 0 n.outs.xs.length] st fun r st' => ∃ (v : AV) (st2 : St), (v.cellOk = true ∧ AV.plain v = (mapC n.outs (withLit lits)).av 2 pinAV ∧ AV.free v = true) ∧ freezeA st' r = some (v, st2) ∧ SFa (X ++ (ob, .row 2 (P.map pinAV)) :: L') [] st2 := fun X st hS =>
        (run80o h80 (xs := P) (sz' := 2) (fun _ _ => rfl) rfl (fun st hS => elems_row (SFa.behind hS) (by rw [List.length_map, hPl])) (by simp [Nat.beq_refl]) (by omega) hS).mono fun r st' ⟨b, _, e, hs⟩ => by
          obtain ⟨z1, z2⟩ := freeze_sl (n := P.length) (by rw [List.length_map]) hs
          refine ⟨_, _, ⟨rfl, ?_, ?_⟩, by rw [e]; exact z1, z2⟩
          · rw [plain_some pin_plain, eo, hP]
          · simp only [AV.free]; exact freeL_map pin_free P
      dsimp only [RSt.at, List.cons_append, List.nil_append]
      repeat' (first | (refine OS.do rfl ?_; first | refine OD.storeW 1 rfl rfl rfl rfl hq.ok rfl rfl rfl ?_ | refine OD.auto rfl rfl ?_ | (refine OD.callZ (D := Quad) (fun q => QOk q (netN m (n.regs.xs.map fun r => atL lits r.next) G (mapC n.outs (withLit lits)))) (fun q => .tup [qAV q, .int .i64 0]) (fun _ => _) (fun _ => []) rfl rfl rfl rfl (fun st hS => run81 h81 h117 h118 h112 h137 h138 h80 h57 (km + 4) hm hf hG (by rw [List.length_map, hnr]) c80' hF hV hS) ?_; rintro q hq)) | refine OS.nil ?_ | refine WS.seq ?_ | refine QS.seqN ?_ | refine WS.region ?_ | refine WS.ret ?_)
      refine QS.retO (ResO.cell 1 (by rfl) (by rfl) (by rfl) (by rfl) (by rfl) (.tmp (by rfl) .nil)) fun st hs => ⟨q, hq, rfl, hs.subO (.drop (.drop (.drop (.drop (.refl _)))))⟩
end
end Go.OptEnv

namespace Go.OptEnv
open Go Go.Proofs Go.Abs Go.RowKit Go.NetM
set_option maxRecDepth 10000
theorem idxOf_at : ∀ {l : List UInt8} {i : Nat} {a : UInt8}, l[i]? = some a → a ∉ l.take i → l.idxOf a = i
  | b :: l, 0, a, h, _ => by
    simp only [List.getElem?_cons_zero, Option.some.injEq] at h
    subst h; simp
  | b :: l, i + 1, a, h, hn => by
    simp only [List.getElem?_cons_succ] at h
    simp only [List.take_succ_cons, List.mem_cons, not_or] at hn
    rw [List.idxOf_cons, show (b == a) = false by simpa using fun e : b = a => hn.1 e.symm, cond_false, idxOf_at h hn.2]
def natAV (k : Nat) : AV := .int .i64 (k : Int)
theorem b8_ne {a b : UInt8} (h : (a.toNat : Int) ≠ b.toNat) : a ≠ b := fun e => h (by rw [e])
theorem b8_eq {a b : UInt8} (h : (a.toNat : Int) = b.toNat) : a = b := by
  apply UInt8.toNat_inj.1; omega
attribute [local irreducible] WS QS OS OD Abs.Sub SubO SubK CW GSl.av accA growA
section
variable {pr : Prims} {L : List (Nat × AObj)} {K : List (Nat × Bool)} {st : St}
theorem run65 (h1 : pr 65 = none) (kk : Nat) {b : Nat} {x r : GReg} (hL : L[kk]? = some (b, .row 3 [regAV r])) (hS : SFa L K st) : CW (En pr) 65 [regAV x, .ptr b 0 0] st fun v st' => v = .bool ((x.init.toNat : Int) == r.init.toNat) ∧ SFa L K st' := by
  refine CW.startS (N := 9) h1 rfl rfl hS ?_
  repeat' (first | (refine OS.do rfl ?_; first | refine OD.loadP (kk + 1) rfl rfl hL rfl rfl rfl ?_ | refine OD.loadP 0 rfl rfl rfl rfl rfl rfl ?_ | refine OD.auto rfl rfl ?_ | refine OD.box rfl rfl rfl rfl (by first | rfl | exact net_ok _) rfl (fun _ => ?_)) | refine OS.nil ?_ | refine WS.seq ?_ | refine QS.seqN ?_ | refine WS.region ?_ | refine WS.ret ?_)
  exact QS.retRS (by rfl) fun st hs => ⟨rfl, hs.tail⟩
set_option maxHeartbeats 1000000 in
theorem run64 (h1 : pr 64 = none) (h65 : pr 65 = none) (kk : Nat) {b : Nat} {r : GReg} (s : GSl GReg) (hs : s.xs.length ≤ 1000) (hr : r.init ∈ s.xs.map (·.init)) (hL : L[kk]? = some (b, .row 3 [regAV r])) (hS : SFa L K st) : CW (En pr) 64 [s.av 3 regAV, .fn 65 [] [.ptr b 0 0]] st fun v st' => v = natAV ((s.xs.map (·.init)).idxOf r.init) ∧ SFa L K st' := by
  have c65 : ∀ (x : GReg) st, SFa L K st → CW (En pr) 65 [regAV x, .ptr b 0 0] st fun v st' => v = .bool ((x.init.toNat : Int) == r.init.toNat) ∧ SFa L K st' := fun x st hs => run65 h65 kk hL hs
  refine CW.startS (N := 19) h1 rfl rfl hS ?_
  repeat' (first | (refine OS.do rfl ?_; first | refine OD.auto rfl rfl ?_ | refine OD.len rfl rfl (fun _ => lenTy_av rfl rfl) ?_) | refine OS.nil ?_ | refine WS.seq ?_ | refine QS.seqN ?_ | refine WS.region ?_ | refine WS.block ?_)
  refine WS.rangeX (A := Unit) (n := s.xs.length) ⟨8, _, fun _ => [], fun _ => L, fun _ => K, fun i _ => r.init ∉ (s.xs.map (·.init)).take i⟩ (()) [0, 1, 7] (by simp) ?_ ?_
  · rintro i _ hi hn
    try dsimp only at hn
    have hx : (s.xs.map (·.init))[i]? = some s.xs[i].init := by rw [List.getElem?_map, List.getElem?_eq_getElem hi]; rfl
    dsimp only [RSt.at, List.cons_append, List.nil_append]
    repeat' (first | (refine OS.do rfl ?_; first | refine OD.auto rfl rfl ?_ | refine OD.indexAddr rfl rfl rfl (indexAddrA_nat rfl rfl rfl rfl (by first | assumption | exact List.getElem?_eq_getElem (by omega))) ?_ | (refine OD.callP (fun v => v = .bool ((s.xs[i].init.toNat : Int) == r.init.toNat)) rfl rfl rfl (c65 s.xs[i]) (by rintro v st rfl; rfl) ?_; rintro v rfl)) | refine OS.nil ?_ | refine WS.seq ?_ | refine QS.seqN ?_ | refine WS.region ?_ | refine WS.condE rfl (fun _ => ?_) (fun _ => ?_) | refine WS.skip ?_ | refine WS.ret ?_ | refine QS.seqR ?_ | refine QS.rangeR ?_)
    · rename_i hc
      refine QS.retRS (by rfl) fun st hs => ⟨?_, hs⟩
      have e := b8_eq hc
      rw [e] at hx
      rw [idxOf_at hx hn]; rfl
    · rename_i hc
      exact QS.rangeX (()) (by (try dsimp only) <;> exact (by rw [List.take_succ_eq_append_getElem (by simpa using hi)]; simp only [List.getElem_map, List.mem_append, List.mem_singleton, not_or]; exact ⟨hn, fun e => b8_ne hc e.symm⟩))
  · rintro _ hn
    exfalso
    try dsimp only at hn
    rw [List.take_of_length_le (by simp)] at hn
    exact hn hr
set_option maxHeartbeats 1000000 in
theorem run68 (h1 : pr 68 = none) (k1 k2 : Nat) {b1 b2 : Nat} {c1 c2 : List Nat} (hl : c1.length = c2.length) (hn : c1.length ≤ 1000) (hL1 : L[k1]? = some (b1, .row 1 (c1.map natAV))) (hL2 : L[k2]? = some (b2, .row 1 (c2.map natAV))) (hS : SFa L K st) : CW (En pr) 68 [.sl 1 b1 0 c1.length, .sl 1 b2 0 c2.length] st fun v st' => v = .bool (decide (c1 = c2)) ∧ SFa L K st' := by
  refine CW.startS (N := 26) h1 rfl rfl hS ?_
  repeat' (first | (refine OS.do rfl ?_; first | refine OD.auto rfl rfl ?_ | refine OD.len rfl rfl (fun _ => rfl) ?_) | refine OS.nil ?_ | refine WS.seq ?_ | refine QS.seqN ?_ | refine WS.region ?_ | refine WS.skip ?_ | refine WS.block ?_ | refine WS.ret ?_ | refine QS.seqR ?_ | refine WS.condNe rfl (fun _ => ?_) (fun _ => ?_))
  · exfalso; rename_i h; omega
  refine WS.rangeX (A := Unit) (n := c1.length) ⟨13, _, fun _ => [], fun _ => L, fun _ => K, fun i _ => c1.take i = c2.take i⟩ (()) [0, 1, 12] (rfl) ?_ ?_
  · rintro i _ hi hq
    try dsimp only at hq
    have e1 : (c1.map natAV)[i]? = some (natAV c1[i]) := by rw [List.getElem?_map, List.getElem?_eq_getElem hi]; rfl
    have e2 : (c2.map natAV)[i]? = some (natAV (c2[i]'(by omega))) := by rw [List.getElem?_map, List.getElem?_eq_getElem (by omega)]; rfl
    dsimp only [RSt.at, List.cons_append, List.nil_append]
    repeat' (first | (refine OS.do rfl ?_; first | refine OD.loadP k1 rfl rfl hL1 e1 rfl rfl ?_ | refine OD.loadP k2 rfl rfl hL2 e2 rfl rfl ?_ | refine OD.auto rfl rfl ?_ | refine OD.indexAddr rfl rfl rfl (indexAddrA_sl rfl rfl rfl rfl (by omega)) ?_) | refine OS.nil ?_ | refine WS.seq ?_ | refine QS.seqN ?_ | refine WS.region ?_ | refine WS.skip ?_ | refine WS.ret ?_ | refine QS.seqR ?_ | refine WS.draw rfl rfl ?_ | refine QS.rangeR ?_ | refine WS.condNe rfl (fun _ => ?_) (fun _ => ?_))
    · rename_i hc
      refine QS.retRS (by rfl) fun st hs => ⟨?_, hs⟩
      rw [decide_eq_false]; · rfl
      intro e
      subst e
      exact hc rfl
    · rename_i hc
      exact QS.rangeX (()) (by (try dsimp only) <;> exact (by rw [List.take_succ_eq_append_getElem hi, List.take_succ_eq_append_getElem (by omega), hq, show c1[i] = c2[i]'(by omega) by omega]))
  · rintro _ hq
    try dsimp only at hq
    rw [List.take_of_length_le (Nat.le_refl _), List.take_of_length_le (by omega)] at hq
    dsimp only [RSt.at, List.cons_append, List.nil_append]
    repeat' (first | (refine OS.do rfl ?_; first | refine OD.auto rfl rfl ?_) | refine OS.nil ?_ | refine WS.seq ?_ | refine QS.seqN ?_ | refine WS.region ?_ | refine WS.ret ?_)
    refine QS.retRS (by rfl) fun st hs => ⟨?_, hs⟩
    rw [decide_eq_true hq]; rfl
end
end Go.OptEnv

namespace Go.OptEnv
open Go Go.Proofs Go.Abs Go.RowKit Go.NetM
set_option maxRecDepth 10000
def boolAV (b : Bool) : AV := .bool b
theorem bool_plain (b : Bool) : AV.plain (boolAV b) = boolAV b := rfl
theorem bool_free (b : Bool) : AV.free (boolAV b) = true := rfl
def GNet.kN (n : GNet) : Nat := 1 + n.ins.xs.length + n.regs.xs.length
def GNet.roots (n : GNet) : List Int := n.nexts ++ n.outs.xs.map (·.lit)
def coneN (n : GNet) (ls : List Int) : List Bool := coneM n.kN n.gates.xs ls
theorem rep_bool (k : Nat) : List.replicate k (AV.bool false) = (List.replicate k false).map boolAV := by rw [List.map_replicate]; rfl
def Rel97 : Rel := RelF (fun p : GNet × GSl Int => (p.1.ins.xs.length ≤ 1000 ∧ p.1.regs.xs.length ≤ 1000 ∧ p.1.gates.xs.length ≤ 20000 ∧ p.2.xs.length ≤ 100000) ∧ okG p.1.kN p.1.gates.xs ∧ ∀ l ∈ p.2.xs, 0 ≤ l ∧ l < 2 * ((p.1.kN + p.1.gates.xs.length : Nat) : Int)) (fun p => [netAV p.1, p.2.av 1 intAV]) fun p => (GSl.some (coneN p.1 p.2.xs)).av 1 boolAV
theorem accA_nil2 (t sz : Nat) : accA t sz [] = .nilsl := rfl
attribute [local irreducible] WS QS OS OD Abs.Sub SubO SubK CW GSl.av accA growA
section
variable {pr : Prims} {L : List (Nat × AObj)} {K : List (Nat × Bool)} {st : St}
set_option maxHeartbeats 1000000 in
theorem run93 (h1 : pr 93 = none) (h66 : pr 66 = none) (h112 : Has pr 112 Rel112) (h57 : Has pr 57 Rel57) (n : GNet) (hn : FitsN n) (hv : validM n = true) (f1 : n.ins.xs.length ≤ 1000) (f2 : n.regs.xs.length ≤ 1000) (hS : SFa L [] st) :
    CW (En pr) 93 [netAV n] st fun r st' => ∃ d : Nat × MkI, (d.2.ins = cloneG n.ins ∧ d.2.regs = n.regs.xs.map zeroR) ∧ r = .ptr d.1 0 0 ∧ SFa ((d.1, mkO d.2 0 []) :: (d.2.tb, thO d.2 []) :: L) [] st' := by
  have c66 := fun {L' : List (Nat × AObj)} {K' : List (Nat × Bool)} (tn ti : Nat) (st : St) (hS : SFa L' K' st) => (run66 h66 h112 h57 n.ins n.regs.xs tn ti f1 f2 (bare_fits hn) (bare_valid hv) hS).mono fun r st' ⟨d, _, e, h⟩ => (⟨(d.1, ⟨cloneG n.ins, n.regs.xs.map zeroR, d.2.1, d.2.2⟩), ⟨rfl, rfl⟩, e, h⟩ : ∃ d : Nat × MkI, (d.2.ins = cloneG n.ins ∧ d.2.regs = n.regs.xs.map zeroR) ∧ r = AV.tup [.ptr d.1 0 0, .int .i64 0] ∧ SFa ((d.1, mkO d.2 0 []) :: (d.2.tb, thO d.2 []) :: L') ((0, false) :: K') st')
  refine CW.startS (N := 36) h1 rfl rfl hS ?_
  repeat' (first | (refine OS.do rfl ?_; first | refine OD.box rfl rfl rfl rfl (net_ok _) rfl (fun b1 => ?_) | refine OD.loadP 0 rfl rfl rfl rfl rfl rfl ?_ | refine OD.auto rfl rfl ?_ | refine OD.len rfl rfl (fun _ => lenTy_av rfl rfl) ?_) | refine OS.nil ?_ | refine WS.seq ?_ | refine QS.seqN ?_ | refine WS.region ?_ | refine WS.block ?_)
  refine WS.rangeX (A := Nat × Nat × List GReg) (n := n.regs.xs.length) ⟨12, _, fun a => [(3, accA a.1 1 ((a.2.2.map (·.name)).map strAV)), (4, accA a.2.1 1 ((a.2.2.map (·.init)).map bitAV))], fun _ => (b1, .row 4 [netAV n]) :: L, fun a => [(a.1, !a.2.2.isEmpty), (a.2.1, !a.2.2.isEmpty)], fun i a => a.2.2 = n.regs.xs.take i⟩ ((0, 0, [])) [1, 10, 11] (rfl) ?_ ?_ (hm := by (try dsimp only); repeat' (first | exact Sub.nil _ | refine Sub.cons (congrArg some (accA_nil2 _ _).symm) ?_ | refine Sub.cons (congrArg (fun z => some (AV.int .i64 z)) (wrap_succ (by omega))) ?_ | refine Sub.cons rfl ?_))
  · rintro i ⟨tn, ti, R⟩ hi hR
    try dsimp only at hR
    have hRl : R.length = i := by rw [hR, List.length_take]; omega
    dsimp only [RSt.at, List.cons_append, List.nil_append]
    repeat' (first | (refine OS.do rfl ?_; first | refine OD.auto rfl rfl ?_ | refine OD.indexAddr rfl rfl rfl (indexAddrA_nat rfl rfl rfl rfl (by first | assumption | exact List.getElem?_eq_getElem (by omega))) ?_ | refine OD.alloc rfl rfl rfl rfl (fun _ => ?_) | refine OD.storeW 0 rfl rfl rfl rfl (by first | rfl | exact net_ok _) rfl rfl rfl ?_) | refine OS.nil ?_ | refine WS.seq ?_ | refine QS.seqN ?_ | refine WS.region ?_)
    refine WS.drawY 8 [(tn, !R.isEmpty), (ti, !R.isEmpty)] (K := []) rfl rfl rfl rfl ?_; (repeat' (first | refine SegY.nil ?_ | refine SegY.auto rfl rfl rfl rfl ?_ | refine SegY.loadP 0 rfl rfl rfl rfl rfl rfl rfl ?_ | refine SegY.loadP 1 rfl rfl rfl rfl rfl rfl rfl ?_ | refine SegY.loadP 2 rfl rfl rfl rfl rfl rfl rfl ?_ | refine SegY.indexAddr rfl rfl rfl rfl rfl ?_ | refine SegY.append 0 (xs := (R.map (·.name)).map strAV) (ys := [strAV n.regs.xs[i].name]) rfl rfl rfl rfl rfl (by simp only [List.isEmpty_map]; rfl) rfl rfl rfl rfl rfl rfl (.inr ⟨⟨_, rfl⟩, rfl⟩) (fun _ => rfl) rfl rfl (roomB rfl (by simp only [List.length_map, List.length_singleton]; omega)) (by simp) (fun tn' => ?_)))
    dsimp only [RSt.at, List.cons_append, List.nil_append]
    repeat' (first | (refine OS.do rfl ?_; first | refine OD.auto rfl rfl ?_ | refine OD.append 1 (xs := (R.map (·.init)).map bitAV) (ys := [bitAV n.regs.xs[i].init]) rfl rfl rfl rfl (by simp only [List.isEmpty_map]; rfl) rfl rfl rfl rfl rfl rfl (.inr ⟨⟨_, rfl⟩, rfl⟩) (fun _ => rfl) rfl rfl (roomB rfl (by simp only [List.length_map, List.length_singleton]; omega)) (fun ti' => ?_)) | refine OS.nil ?_)
    have hm1 : (R.map (·.name)).map strAV ++ [strAV n.regs.xs[i].name] = ((R ++ [n.regs.xs[i]]).map (·.name)).map strAV := by simp
    have hm2 : (R.map (·.init)).map bitAV ++ [bitAV n.regs.xs[i].init] = ((R ++ [n.regs.xs[i]]).map (·.init)).map bitAV := by simp
    rw [show (!((R.map (·.init)).map bitAV ++ [bitAV n.regs.xs[i].init]).isEmpty) = true by simp, hm1, hm2]
    exact QS.rangeX ((tn', ti', R ++ [n.regs.xs[i]])) (by (try dsimp only) <;> exact (by rw [hR, List.take_succ_eq_append_getElem hi]))
  · rintro ⟨tn, ti, R⟩ hR
    try dsimp only at hR
    rw [List.take_of_length_le (Nat.le_refl _)] at hR
    subst hR
    dsimp only [RSt.at, List.cons_append, List.nil_append]
    repeat' (first | (refine OS.do rfl ?_; first | refine OD.loadP 0 rfl rfl rfl rfl rfl rfl ?_ | refine OD.auto rfl rfl ?_ | (refine OD.callM (D := Nat × MkI) (fun d => d.2.ins = cloneG n.ins ∧ d.2.regs = n.regs.xs.map zeroR) (fun d => .tup [.ptr d.1 0 0, .int .i64 0]) (fun d => (d.1, mkO d.2 0 []) :: (d.2.tb, thO d.2 []) :: _) (fun _ => _) rfl rfl rfl (c66 tn ti) (fun _ _ _ => rfl) ?_; rintro ⟨mb, m⟩ hd)) | refine OS.nil ?_ | refine WS.seq ?_ | refine QS.seqN ?_ | refine WS.region ?_ | refine WS.ret ?_)
    exact QS.retRS (by rfl) fun st hs => ⟨(mb, m), hd, rfl, hs.subO (.keep (.keep (.drop (.refl _))))⟩
set_option maxHeartbeats 1000000 in
theorem run97 (h1 : pr 97 = none) (n : GNet) (ls : GSl Int) (f1 : n.ins.xs.length ≤ 1000) (f2 : n.regs.xs.length ≤ 1000) (f3 : n.gates.xs.length ≤ 20000) (f4 : ls.xs.length ≤ 100000) (hg : okG n.kN n.gates.xs) (hl : ∀ l ∈ ls.xs, 0 ≤ l ∧ l < 2 * ((n.kN + n.gates.xs.length : Nat) : Int)) (st : St) :
    CW (En pr) 97 [netAV n, ls.av 1 intAV] st fun r st' => ∃ r' st2, freezeA st' r = some (r', st2) ∧ AV.plain r' = (GSl.some (coneN n ls.xs)).av 1 boolAV ∧ AV.free r' = true := by
  have e1 := wrap64 (n := 1 + (n.ins.xs.length : Int)) (by omega) (by omega)
  have e2 := wrap64 (n := 1 + (n.ins.xs.length : Int) + (n.regs.xs.length : Int)) (by omega) (by omega)
  have e3 := wrap64 (n := 1 + (n.ins.xs.length : Int) + (n.regs.xs.length : Int) + (n.gates.xs.length : Int)) (by omega) (by omega)
  have hk : (n.kN : Int) = 1 + n.ins.xs.length + n.regs.xs.length := by unfold GNet.kN; omega
  have hw : IntKind.i64.wrap (IntKind.i64.wrap (IntKind.i64.wrap (1 + (n.ins.xs.length : Int)) + (n.regs.xs.length : Int)) + (n.gates.xs.length : Int)) = ((n.kN + n.gates.xs.length : Nat) : Int) := by rw [e1, e2, e3]; omega
  refine CW.start (N := 68) h1 rfl rfl ?_
  repeat' (first | (refine OS.do rfl ?_; first | refine OD.box rfl rfl rfl rfl (net_ok _) rfl (fun b1 => ?_) | refine OD.loadP 0 rfl rfl rfl rfl rfl rfl ?_ | refine OD.auto rfl rfl ?_ | refine OD.len rfl rfl (fun _ => lenTy_av rfl rfl) ?_ | refine OD.makeSlice (n := n.kN + n.gates.xs.length) rfl (congrArg (fun z => some (AV.int .i64 z)) hw) (congrArg (fun z => some (AV.int .i64 z)) hw) rfl rfl rfl rfl rfl (roomB rfl (by unfold GNet.kN; omega)) (fun ob => ?_)) | refine OS.nil ?_ | refine WS.seq ?_ | refine QS.seqN ?_ | refine WS.region ?_ | refine WS.block ?_)
  rw [e1, e2, ← hk, show List.replicate (n.kN + n.gates.xs.length) ty4.zeroV = (List.replicate (n.kN + n.gates.xs.length) false).map boolAV from rep_bool _]
  have half : ∀ l : Int, 0 ≤ l ∧ l < 2 * ((n.kN + n.gates.xs.length : Nat) : Int) → indexAddrA (En pr) 69 (.sl ty4.size ob 0 (n.kN + n.gates.xs.length)) (.int .i64 (IntKind.i64.wrap (l.tdiv 2))) = some (.ptr ob (l / 2).toNat 0) := fun l h => by
    have : IntKind.i64.wrap (l.tdiv 2) = (((l / 2).toNat : Nat) : Int) := by
      rw [Int.tdiv_eq_ediv_of_nonneg h.1, wrap64 (by omega) (by omega)]; omega
    rw [this]
    exact indexAddrA_sl rfl rfl rfl rfl (by omega)
  have hbr : ∀ {v : List Bool} {j : Nat}, j < v.length → (v.map boolAV)[j]? = some (.bool (v.getD j false)) := fun {v j} h => by
    rw [List.getElem?_map, List.getD_eq_getElem?_getD, List.getElem?_eq_getElem h]; rfl
  have hst : ∀ {v : List Bool} {j : Nat}, (v.map boolAV).set j (.bool true) = (v.set j true).map boolAV := fun {v j} => by rw [List.map_set]; rfl
  refine WS.rangeX (A := List Bool) (n := ls.xs.length) ⟨26, _, fun _ => [], fun v => [(ob, .row ty4.size (v.map boolAV)), (b1, .row ty27.size [netAV n])], fun _ => [], fun i v => v = markM (List.replicate (n.kN + n.gates.xs.length) false) (ls.xs.take i)⟩ (List.replicate (n.kN + n.gates.xs.length) false) [2, 5, 6, 24, 25] (rfl) ?_ ?_
  · rintro i v hi hv
    try dsimp only at hv
    have hlm := hl _ (List.getElem_mem hi)
    have hvl : v.length = n.kN + n.gates.xs.length := by rw [hv, markM_len, List.length_replicate]
    have hb := hbr (v := v) (j := (ls.xs[i] / 2).toNat) (by omega)
    dsimp only [RSt.at, List.cons_append, List.nil_append]
    repeat' (first | (refine OS.do rfl ?_; first | refine OD.indexAddr rfl rfl rfl (half _ hlm) ?_ | refine OD.auto rfl rfl ?_ | refine OD.indexAddr rfl rfl rfl (indexAddrA_nat rfl rfl rfl rfl (by first | assumption | exact List.getElem?_eq_getElem (by omega))) ?_ | refine OD.storeB 0 rfl rfl rfl rfl rfl hb ?_) | refine OS.nil ?_ | refine WS.seq ?_ | refine QS.seqN ?_ | refine WS.region ?_)
    exact QS.rangeX (v.set (ls.xs[i] / 2).toNat true) (by (try dsimp only) <;> exact (by rw [markM_succ hi, ← hv])) (hL := by (try dsimp only); rw [← hst]; exact SubO.refl _)
  rintro v0 hv0
  try dsimp only at hv0
  rw [List.take_of_length_le (Nat.le_refl _)] at hv0
  have hv0l : v0.length = n.kN + n.gates.xs.length := by rw [hv0, markM_len, List.length_replicate]
  have hw9 : IntKind.i64.wrap ((n.gates.xs.length : Int) - 1) = (n.gates.xs.length : Int) - 1 := wrap64 (by omega) (by omega)
  dsimp only [RSt.at, List.cons_append, List.nil_append]
  repeat' (first | (refine OS.do rfl ?_; first | refine OD.auto rfl rfl ?_ | refine OD.loadP 1 rfl rfl rfl rfl rfl rfl ?_ | refine OD.len rfl rfl (fun _ => lenTy_av rfl rfl) ?_) | refine OS.nil ?_ | refine WS.seq ?_ | refine QS.seqN ?_ | refine WS.region ?_ | refine WS.block ?_)
  refine WS.loopX (D := List Bool × Nat) [2, 5, 6] (fun d => [(9, .int .i64 ((d.2 : Int) - 1))]) (fun d => [(ob, .row ty4.size (d.1.map boolAV)), (b1, .row ty27.size [netAV n])]) (fun _ => []) (fun d => d.2 ≤ n.gates.xs.length ∧ d.1.length = n.kN + n.gates.xs.length ∧ coneD n.kN n.gates.xs d.2 d.1 = coneN n ls.xs) (fun d => d.2) ((v0, n.gates.xs.length)) (⟨Nat.le_refl _, hv0l, by rw [hv0]; rfl⟩) ?_ (hm := by (try dsimp only); repeat' (first | exact Sub.nil _ | refine Sub.cons (congrArg (fun z => some (AV.int .i64 z)) hw9) ?_ | refine Sub.cons (congrArg (fun z => some (AV.int .i64 z)) (wrap_succ (by omega))) ?_ | refine Sub.cons rfl ?_))
  rintro ⟨v, j⟩ ⟨hj, hvl, hc⟩
  try dsimp only at hj hvl hc
  rcases j with _ | i
  · dsimp only [RSt.at, List.cons_append, List.nil_append]
    repeat' (first | (refine OS.do rfl ?_; first | refine OD.auto rfl rfl ?_) | refine OS.nil ?_ | refine WS.seq ?_ | refine QS.seqN ?_ | refine WS.region ?_ | refine WS.condF rfl ?_ | refine WS.ret ?_ | refine WS.exit ?_ | refine QS.seqE ?_ | refine QS.blockH ?_ | refine QS.loopE ?_)
    refine QS.retRS (by rfl) fun st hs => ?_
    obtain ⟨z1, z2⟩ := freeze_sl (n := n.kN + n.gates.xs.length) (by rw [List.length_map, hvl]) hs
    refine ⟨_, _, z1, ?_, ?_⟩
    · rw [plain_some bool_plain, ← hc]; rfl
    · simp only [AV.free]; exact freeL_map bool_free v
  · have e9 : ((i + 1 : Nat) : Int) - 1 = (i : Int) := by omega
    have hw9' : IntKind.i64.wrap ((i : Int) - 1) = (i : Int) - 1 := wrap64 (by omega) (by omega)
    have hki : indexAddrA (En pr) 69 (.sl ty4.size ob 0 (n.kN + n.gates.xs.length)) (.int .i64 (IntKind.i64.wrap ((n.kN : Int) + (i : Int)))) = some (.ptr ob (n.kN + i) 0) := by
      rw [show IntKind.i64.wrap ((n.kN : Int) + (i : Int)) = ((n.kN + i : Nat) : Int) by rw [wrap64 (by omega) (by omega)]; omega]
      exact indexAddrA_sl rfl rfl rfl rfl (by omega)
    obtain ⟨g1, g2⟩ := hg i (by omega)
    have b0 := hbr (v := v) (j := n.kN + i) (by omega)
    have b1' := hbr (v := v) (j := (n.gates.xs[i].1 / 2).toNat) (by omega)
    have b2 := hbr (v := v.set (n.gates.xs[i].1 / 2).toNat true) (j := (n.gates.xs[i].2 / 2).toNat) (by rw [List.length_set]; omega)
    rw [← hst] at b2
    dsimp only [RSt.at, List.cons_append, List.nil_append]
    rw [e9]
    repeat' (first | (refine OS.do rfl ?_; first | refine OD.indexAddr rfl rfl rfl hki ?_ | refine OD.loadP 0 rfl rfl rfl b0 rfl rfl ?_ | refine OD.indexAddr rfl rfl rfl (half _ (by omega)) ?_ | refine OD.auto rfl rfl ?_ | refine OD.loadP 1 rfl rfl rfl rfl rfl rfl ?_ | refine OD.indexAddr rfl rfl rfl (indexAddrA_nat rfl rfl rfl rfl (by first | assumption | exact List.getElem?_eq_getElem (by omega))) ?_ | refine OD.indexAddr rfl rfl rfl rfl ?_ | refine OD.storeB 0 rfl rfl rfl rfl rfl b1' ?_ | refine OD.storeB 0 rfl rfl rfl rfl rfl b2 ?_) | refine OS.nil ?_ | refine WS.seq ?_ | refine QS.seqN ?_ | refine WS.region ?_ | refine WS.condT rfl ?_ | refine WS.skip ?_ | refine WS.block ?_ | refine QS.blockN ?_ | refine WS.condB rfl (fun _ => ?_) (fun _ => ?_))
    all_goals (have eg : n.gates.xs.getD i (0, 0) = n.gates.xs[i] := by rw [List.getD_eq_getElem?_getD, List.getElem?_eq_getElem (by omega)]; rfl)
    · rename_i hm
      have ec : coneD n.kN n.gates.xs (i + 1) v = coneD n.kN n.gates.xs i ((v.set (n.gates.xs[i].1 / 2).toNat true).set (n.gates.xs[i].2 / 2).toNat true) := by
        show coneD n.kN n.gates.xs i (markG n.kN n.gates.xs v i) = _
        unfold markG; rw [if_pos hm, eg]
      dsimp only [List.set_cons_zero]
      rw [hst, hst]
      exact QS.loopX (((v.set (n.gates.xs[i].1 / 2).toNat true).set (n.gates.xs[i].2 / 2).toNat true, i)) (by exact (⟨by dsimp only; omega, by simp only [List.length_set]; exact hvl, by rw [← ec]; exact hc⟩)) (by exact (by dsimp only; omega)) (hl := by (try dsimp only [List.cons_append, List.nil_append]); repeat' (first | exact Sub.nil _ | refine Sub.cons (congrArg (fun z => some (AV.int .i64 z)) hw9') ?_ | refine Sub.cons (congrArg (fun z => some (AV.int .i64 z)) (wrap_succ (by omega))) ?_ | refine Sub.cons rfl ?_))
    · rename_i hm
      have ec : coneD n.kN n.gates.xs (i + 1) v = coneD n.kN n.gates.xs i v := by
        show coneD n.kN n.gates.xs i (markG n.kN n.gates.xs v i) = _
        unfold markG; rw [if_neg (by rw [hm]; simp)]
      exact QS.loopX ((v, i)) (by exact (⟨by dsimp only; omega, hvl, by rw [← ec]; exact hc⟩)) (by exact (by dsimp only; omega)) (hl := by (try dsimp only [List.cons_append, List.nil_append]); repeat' (first | exact Sub.nil _ | refine Sub.cons (congrArg (fun z => some (AV.int .i64 z)) hw9') ?_ | refine Sub.cons (congrArg (fun z => some (AV.int .i64 z)) (wrap_succ (by omega))) ?_ | refine Sub.cons rfl ?_))
theorem con97 (h1 : pr 97 = none) : Con2 (En pr) 97 Rel97 := con_ofz (fun d => by simp [AV.freeL, net_free, free_av int_free]) fun d hd st => run97 h1 d.1 d.2 hd.1.1 hd.1.2.1 hd.1.2.2.1 hd.1.2.2.2 hd.2.1 hd.2.2 st
end
end Go.OptEnv

namespace Go.OptEnv
open Go Go.Proofs Go.Abs Go.RowKit Go.NetM
set_option maxRecDepth 10000
def withNext (lits : List Int) (r : GReg) : GReg := ⟨r.name, r.init, atL lits r.next⟩
def layN (n : GNet) (s : List Int × List (Int × Int)) : GNet := ⟨cloneG n.ins, GSl.of (n.regs.xs.map (withNext s.1)), GSl.of s.2, mapC n.outs (withLit s.1)⟩
def shareS (n : GNet) : List Int × List (Int × Int) := shareM n.kN (idL n.kN) n.gates.xs
def shareN (n : GNet) : GNet := layN n (shareS n)
def nilN : GNet := ⟨GSl.of [], GSl.of [], GSl.of [], GSl.of []⟩
theorem nil_AV : netAV nilN = .agg [.nilsl, .nilsl, .nilsl, .nilsl] := rfl
def resAV (n : GNet) (m : GNet) : AV := .tup [netAV (if validM n = true then m else nilN), .int .i64 (if validM n = true then 0 else 2)]
theorem gatesOk_all : ∀ {G : List (Int × Int)} {k : Nat}, okG k G → gatesOk (k : Int) G = true := fun {G k} h => by
  have : ∀ i, i ≤ G.length → gatesOk (k : Int) (G.take i) = true := by
    intro i
    induction i with
    | zero => intro _; simp [gatesOk]
    | succ i ih =>
      intro hi
      rw [gatesOk_take (by omega), ih (by omega)]
      obtain ⟨⟨a1, a2⟩, a3, a4⟩ := h i (by omega)
      simp only [litOk, Bool.true_and, Bool.and_eq_true, decide_eq_true_eq]
      omega
  have h2 := this G.length (Nat.le_refl _)
  rw [List.take_length] at h2
  exact h2
theorem lay_xs {n : GNet} {s : List Int × List (Int × Int)} : (layN n s).ins.xs = n.ins.xs ∧ (layN n s).regs.xs = n.regs.xs.map (withNext s.1) ∧ (layN n s).gates.xs = s.2 ∧ (layN n s).outs.xs = n.outs.xs.map (withLit s.1) := by
  simp only [layN, clone_xs, gof_xs, mapC_xs, and_self]
theorem lay_valid {n : GNet} (hv : validM n = true) {s : List Int × List (Int × Int)} {N m : Nat} (hs : ShOk n.kN N m s) (hm : m ≤ 20000) : validM (layN n s) = true := by
  have v := validM_iff.1 hv
  obtain ⟨e1, e2, e3, e4⟩ := lay_xs (n := n) (s := s)
  have hf : (layN n s).first = (n.kN : Int) := by unfold GNet.first GNet.kN; rw [e1, e2, List.length_map]; omega
  have hnd : (layN n s).nodes = ((n.kN + s.2.length : Nat) : Int) := by unfold GNet.nodes; rw [hf, e3]; omega
  have hg := hs.gates
  refine validM_iff.2 ⟨by rw [e3]; omega, by rw [e1]; exact v.ins, ?_, ?_, by rw [hf, e3]; exact gatesOk_all hs.ok, ?_, ?_, ?_⟩
  · rw [e2, List.map_map]; exact v.regs
  · rw [e4, List.map_map]; exact v.outs
  · rw [e2, List.all_map]; exact v.inits
  · rw [e2, hnd, List.all_map, List.all_eq_true]
    intro r _
    have := hs.at_ r.next
    exact decide_eq_true this
  · rw [e4, hnd, List.all_map, List.all_eq_true]
    intro r _
    have := hs.at_ r.lit
    exact decide_eq_true this
theorem lay_fits {n : GNet} (hn : FitsN n) (hr : n.ins.xs.length ≤ 1000 ∧ n.regs.xs.length ≤ 1000) {s : List Int × List (Int × Int)} {N m : Nat} (hs : ShOk n.kN N m s) (hm : m ≤ 20000) : FitsN (layN n s) := by
  obtain ⟨e1, e2, e3, e4⟩ := lay_xs (n := n) (s := s)
  obtain ⟨f1, f2, f3, f4, m1, m2, m3, g1, g2, g3⟩ := hn
  have hg := hs.gates
  have hk : n.kN ≤ 3000 := by unfold GNet.kN; omega
  have ha : ∀ l, Fit64 (atL s.1 l) := fun l => by
    have := hs.at_ l
    exact ⟨by omega, by omega⟩
  refine ⟨by rw [e1]; exact f1, by rw [e2, List.length_map]; exact f2, by rw [e3]; omega, by rw [e4, List.length_map]; exact f4, by rw [e1]; exact m1, ?_, ?_, ?_, ?_, ?_⟩
  · rw [e2]; intro r hr
    obtain ⟨x, hx, rfl⟩ := List.mem_map.1 hr
    exact m2 x hx
  · rw [e4]; intro r hr
    obtain ⟨x, hx, rfl⟩ := List.mem_map.1 hr
    exact m3 x hx
  · rw [e3]; intro g hg'
    obtain ⟨i, hi, rfl⟩ := List.mem_iff_getElem.1 hg'
    obtain ⟨a, b⟩ := hs.ok i hi
    exact ⟨⟨by omega, by omega⟩, by omega, by omega⟩
  · rw [e2]; intro r hr
    obtain ⟨x, hx, rfl⟩ := List.mem_map.1 hr
    exact ha _
  · rw [e4]; intro r hr
    obtain ⟨x, hx, rfl⟩ := List.mem_map.1 hr
    exact ha _
theorem net_lay {n : GNet} {m : MkI} {s : List Int × List (Int × Int)} (h1 : m.ins = cloneG n.ins) (h2 : m.regs = n.regs.xs.map zeroR) : netN m (n.regs.xs.map fun r => atL s.1 r.next) s.2 (mapC n.outs (withLit s.1)) = layN n s := by
  unfold netN layN nextR
  rw [h1, h2, cloneG_clone, List.zipWith_map, List.zipWith_self]
  rfl
theorem mk_k {n : GNet} {m : MkI} (h1 : m.ins = cloneG n.ins) (h2 : m.regs = n.regs.xs.map zeroR) : m.k = n.kN := by
  unfold MkI.k GNet.kN; rw [h1, h2, clone_xs, List.length_map]
theorem mk_fit {n : GNet} {m : MkI} (h1 : m.ins = cloneG n.ins) (h2 : m.regs = n.regs.xs.map zeroR) (f1 : n.ins.xs.length ≤ 1000) (f2 : n.regs.xs.length ≤ 1000) : m.Fit := ⟨by rw [h1, clone_xs]; exact f1, by rw [h2, List.length_map]; exact f2⟩
theorem share_sh (n : GNet) {i : Nat} (hi : i ≤ n.gates.xs.length) : ShOk n.kN (n.kN + i) i (shareM n.kN (idL n.kN) (n.gates.xs.take i)) := by
  have hk : 0 < n.kN := by unfold GNet.kN; omega
  have := ShOk.share hk (idL_range hk) n.gates.xs i hi
  rw [idL_len] at this
  exact this
theorem valid_lits {n : GNet} (hv : validM n = true) : okG n.kN n.gates.xs ∧ (∀ r ∈ n.regs.xs, 0 ≤ r.next ∧ r.next < 2 * ((n.kN + n.gates.xs.length : Nat) : Int)) ∧ (∀ p ∈ n.outs.xs, 0 ≤ p.lit ∧ p.lit < 2 * ((n.kN + n.gates.xs.length : Nat) : Int)) := by
  have v := validM_iff.1 hv
  have hf : (n.kN : Int) = n.first := by unfold GNet.first GNet.kN; omega
  refine ⟨okG_of hf v.gates, fun r hr => ?_, fun p hp => ?_⟩
  · have := of_decide_eq_true (List.all_eq_true.1 v.nexts r hr)
    unfold GNet.nodes at this
    omega
  · have := of_decide_eq_true (List.all_eq_true.1 v.lits p hp)
    unfold GNet.nodes at this
    omega
theorem valid_len {n : GNet} (hv : validM n = true) : n.ins.xs.length ≤ 1000 ∧ n.regs.xs.length ≤ 1000 ∧ n.outs.xs.length ≤ 1000 ∧ n.gates.xs.length ≤ 20000 := by
  have v := validM_iff.1 hv
  have a := names_len v.ins
  have b := names_len v.regs
  have c := names_len v.outs
  simp only [List.length_map] at b c
  exact ⟨by omega, by omega, by omega, v.gatesN⟩
attribute [local irreducible] WS QS OS OD Abs.Sub SubO SubK CW GSl.av accA growA
section
variable {pr : Prims}
theorem res_no {n m : GNet} (h : validM n = false) : resAV n m = .tup [.agg [.nilsl, .nilsl, .nilsl, .nilsl], .int .i64 2] := by
  unfold resAV; rw [h, ← nil_AV]; rfl
theorem res_yes {n m : GNet} (h : validM n = true) : resAV n m = .tup [netAV m, .int .i64 0] := by
  unfold resAV; rw [h]; rfl
end
end Go.OptEnv

namespace Go.OptEnv
open Go Go.Proofs Go.Abs Go.RowKit Go.NetM
set_option maxRecDepth 10000
def cleanS (n : GNet) : List Int × List (Int × Int) := keepM n.kN (coneN n n.roots) n.gates.xs
def cleanN (n : GNet) : GNet := layN n (cleanS n)
def nodeM (n : GNet) (keep : List Bool) (i : Nat) : List Int × List (Int × Int) := if i < n.kN then (idL i, []) else keepM n.kN keep (n.gates.xs.take (i - n.kN))
theorem nodeM_len {n : GNet} {keep : List Bool} {i : Nat} (hi : i ≤ n.kN + n.gates.xs.length) : (nodeM n keep i).1.length = i := by
  unfold nodeM
  split
  · exact idL_len i
  · have := (keep_ok (k := n.kN) (by unfold GNet.kN; omega) (keep := keep) n.gates.xs (i - n.kN) (by omega)).len
    omega
theorem nodeM_in {n : GNet} {keep : List Bool} {i : Nat} (hi : i < n.kN) : nodeM n keep (i + 1) = ((nodeM n keep i).1 ++ [2 * (i : Int)], (nodeM n keep i).2) := by
  unfold nodeM
  rw [if_pos hi]
  split
  · rw [idL_succ]
  · rw [show i + 1 - n.kN = 0 by omega, ← idL_succ, show i + 1 = n.kN by omega]; rfl
theorem nodeM_gate {n : GNet} {keep : List Bool} {i : Nat} (hi : i < n.gates.xs.length) : nodeM n keep (n.kN + i + 1) = keepS n.kN keep (nodeM n keep (n.kN + i)) n.gates.xs[i] := by
  unfold nodeM
  rw [if_neg (by omega), if_neg (by omega), show n.kN + i + 1 - n.kN = i + 1 by omega, show n.kN + i - n.kN = i by omega, keepM_succ hi]
theorem nodeM_all {n : GNet} {keep : List Bool} : nodeM n keep (n.kN + n.gates.xs.length) = keepM n.kN keep n.gates.xs := by
  unfold nodeM
  rw [if_neg (by omega), show n.kN + n.gates.xs.length - n.kN = n.gates.xs.length by omega, List.take_length]
theorem nodeM_ok {n : GNet} {keep : List Bool} {i : Nat} (hi : i ≤ n.gates.xs.length) : ShOk n.kN (n.kN + i) i (nodeM n keep (n.kN + i)) := by
  unfold nodeM
  rw [if_neg (by omega), show n.kN + i - n.kN = i by omega]
  exact keep_ok (by unfold GNet.kN; omega) n.gates.xs i hi
theorem rep_int (k : Nat) : List.replicate k (AV.int .i64 0) = (List.replicate k (0 : Int)).map intAV := by rw [List.map_replicate]; rfl
def Rel51 : Rel := RelF FitsN (fun n => [netAV n]) fun n => resAV n (cleanN n)
attribute [local irreducible] WS QS OS OD Abs.Sub SubO SubK CW GSl.av accA growA
section
variable {pr : Prims}
theorem use97a (h : Has pr 97 Rel97) {n : GNet} {t : Nat} {ls : List Int} (hv : validM n = true) (hn : ls.length ≤ 100000) (hl : ∀ l ∈ ls, 0 ≤ l ∧ l < 2 * ((n.kN + n.gates.xs.length : Nat) : Int)) (st : St) : primOf Rel97 [netAV n, accA t 1 (ls.map intAV)] st = some ((GSl.some (coneN n ls)).av 1 boolAV, st) :=
  h.use (r := (GSl.some (coneN n ls)).av 1 boolAV) ⟨(n, GSl.of ls), ⟨⟨(valid_len hv).1, (valid_len hv).2.1, (valid_len hv).2.2.2, by rw [gof_xs]; exact hn⟩, (valid_lits hv).1, by rw [gof_xs]; exact hl⟩, by simp [AV.plainL, net_plain, plain_acc int_plain], by dsimp only; rw [gof_xs]⟩ st
set_option maxHeartbeats 4000000 in
theorem run51 (h1 : pr 51 = none) (h97 : Has pr 97 Rel97) (h93 : pr 93 = none) (h66 : pr 66 = none) (h94 : pr 94 = none) (h96 : pr 96 = none) (h125 : pr 125 = none) (h81 : pr 81 = none) (h117 : pr 117 = none) (h118 : pr 118 = none) (h112 : Has pr 112 Rel112) (h137 : pr 137 = none) (h138 : Has pr 138 Rel138) (h80 : pr 80 = none) (h57 : Has pr 57 Rel57)
    (n : GNet) (hn : FitsN n) (st : St) : CW (En pr) 51 [netAV n] st fun r _ => AV.free r = true ∧ AV.plain r = resAV n (cleanN n) := by
  have u57 := use57 h57 hn
  rcases (Bool.eq_false_or_eq_true (validM n)).symm with hV | hV
  · rw [hV] at u57
    refine CW.start (N := 126) h1 rfl rfl ?_
    repeat' (first | (refine OS.do rfl ?_; first | refine OD.box rfl rfl rfl rfl (net_ok _) rfl (fun b1 => ?_) | refine OD.auto rfl rfl ?_ | refine OD.loadP 1 rfl rfl rfl rfl rfl rfl ?_ | refine OD.alloc rfl rfl rfl rfl (fun _ => ?_) | refine OD.storeW 0 rfl rfl rfl rfl (by first | rfl | exact net_ok _) rfl rfl rfl ?_ | refine OD.call rfl rfl rfl h57.eq u57 (fun _ => rfl) ?_) | refine OS.nil ?_ | refine WS.seq ?_ | refine QS.seqN ?_ | refine WS.region ?_ | refine WS.condT rfl ?_ | refine WS.ret ?_ | refine QS.seqR ?_)
    refine QS.retO (ResO.cell 0 (by rfl) (by rfl) (by rfl) (by rfl) (by rfl) (.tmp (by rfl) .nil)) fun st hs => ⟨rfl, ?_⟩
    rw [res_no hV]; rfl
  rw [hV] at u57
  obtain ⟨f1, f2, f3, f4⟩ := valid_len hV
  obtain ⟨hgo, hrn, hol⟩ := valid_lits hV
  have hk1 : 1 ≤ n.kN ∧ n.kN ≤ 2001 := by unfold GNet.kN; omega
  have hnl : n.nexts.length = n.regs.xs.length := by simp [GNet.nexts]
  refine CW.start (N := 126) h1 rfl rfl ?_
  repeat' (first | (refine OS.do rfl ?_; first | refine OD.box rfl rfl rfl rfl (net_ok _) rfl (fun b1 => ?_) | refine OD.auto rfl rfl ?_ | refine OD.loadP 1 rfl rfl rfl rfl rfl rfl ?_ | refine OD.len rfl rfl (fun _ => lenTy_av rfl rfl) ?_ | refine OD.alloc rfl rfl rfl rfl (fun _ => ?_) | refine OD.call rfl rfl rfl h57.eq u57 (fun _ => rfl) ?_) | refine OS.nil ?_ | refine WS.seq ?_ | refine QS.seqN ?_ | refine WS.region ?_ | refine WS.condF rfl ?_ | refine WS.skip ?_ | refine WS.block ?_)
  rename_i b2
  refine WS.newK ?_
  refine WS.rangeX (A := Nat × List Int) (n := n.regs.xs.length) ⟨22, _, fun a => [(4, accA a.1 1 (a.2.map intAV))], fun _ => [(b2, .row ty27.size [ty27.zeroV]), (b1, .row ty27.size [netAV n])], fun a => [(a.1, !a.2.isEmpty)], fun i a => a.2 = n.nexts.take i⟩ ((0, [])) [1, 2, 20, 21] (rfl) ?_ ?_ (hm := by (try dsimp only); repeat' (first | exact Sub.nil _ | refine Sub.cons (congrArg some (accA_nil2 _ _).symm) ?_ | refine Sub.cons (congrArg (fun z => some (AV.int .i64 z)) (wrap_succ (by omega))) ?_ | refine Sub.cons rfl ?_))
  · rintro i ⟨t, R⟩ hi hR
    try dsimp only at hR
    have hRl : R.length = i := by rw [hR, List.length_take]; omega
    have hgm : R.map intAV ++ [.int .i64 n.regs.xs[i].next] = (R ++ [n.regs.xs[i].next]).map intAV := by rw [List.map_append]; rfl
    have hnx : n.nexts.take (i + 1) = n.nexts.take i ++ [n.regs.xs[i].next] := by
      rw [List.take_succ_eq_append_getElem (by omega)]; simp [GNet.nexts]
    dsimp only [RSt.at, List.cons_append, List.nil_append]
    repeat' (first | (refine OS.do rfl ?_; first | refine OD.loadP 0 rfl rfl rfl rfl rfl rfl ?_ | refine OD.auto rfl rfl ?_ | refine OD.indexAddr rfl rfl rfl (indexAddrA_nat rfl rfl rfl rfl (by first | assumption | exact List.getElem?_eq_getElem (by omega))) ?_ | refine OD.alloc rfl rfl rfl rfl (fun _ => ?_) | refine OD.storeW 0 rfl rfl rfl rfl (by first | rfl | exact net_ok _) rfl rfl rfl ?_ | refine OD.append 0 (xs := R.map intAV) (ys := [.int .i64 n.regs.xs[i].next]) rfl rfl rfl rfl (by rw [List.isEmpty_map]; rfl) rfl rfl rfl rfl rfl rfl (.inr ⟨⟨_, rfl⟩, rfl⟩) (fun _ => rfl) rfl rfl (roomB rfl (by simp only [List.length_map, List.length_singleton]; omega)) (fun t' => ?_)) | refine OS.nil ?_ | refine WS.seq ?_ | refine QS.seqN ?_ | refine WS.region ?_)
    rw [hgm, List.isEmpty_map]
    exact QS.rangeX ((t', R ++ [n.regs.xs[i].next])) (by (try dsimp only) <;> exact (by rw [hnx, ← hR])) (hL := by (try dsimp only); exact SubO.drop (SubO.refl _))
  rintro ⟨t, R⟩ hR
  try dsimp only at hR
  rw [List.take_of_length_le (by omega)] at hR
  dsimp only [RSt.at, List.cons_append, List.nil_append]
  repeat' (first | (refine OS.do rfl ?_; first | refine OD.auto rfl rfl ?_ | refine OD.loadP 1 rfl rfl rfl rfl rfl rfl ?_ | refine OD.len rfl rfl (fun _ => lenTy_av rfl rfl) ?_) | refine OS.nil ?_ | refine WS.seq ?_ | refine QS.seqN ?_ | refine WS.region ?_ | refine WS.block ?_)
  refine WS.rangeX (A := Nat × List Int) (n := n.outs.xs.length) ⟨35, _, fun a => [(4, accA a.1 1 (a.2.map intAV))], fun _ => [(b2, .row ty27.size [ty27.zeroV]), (b1, .row ty27.size [netAV n])], fun a => [(a.1, !a.2.isEmpty)], fun i a => a.2 = n.nexts ++ (n.outs.xs.take i).map (·.lit)⟩ ((t, R)) [1, 2, 33, 34] (by simp [hR]) ?_ ?_
  · rintro i ⟨t, R⟩ hi hR
    try dsimp only at hR
    have hRl : R.length = n.regs.xs.length + i := by rw [hR, List.length_append, List.length_map, List.length_take]; omega
    have hgm : R.map intAV ++ [.int .i64 n.outs.xs[i].lit] = (R ++ [n.outs.xs[i].lit]).map intAV := by rw [List.map_append]; rfl
    dsimp only [RSt.at, List.cons_append, List.nil_append]
    repeat' (first | (refine OS.do rfl ?_; first | refine OD.loadP 0 rfl rfl rfl rfl rfl rfl ?_ | refine OD.auto rfl rfl ?_ | refine OD.indexAddr rfl rfl rfl (indexAddrA_nat rfl rfl rfl rfl (by first | assumption | exact List.getElem?_eq_getElem (by omega))) ?_ | refine OD.alloc rfl rfl rfl rfl (fun _ => ?_) | refine OD.storeW 0 rfl rfl rfl rfl (by first | rfl | exact net_ok _) rfl rfl rfl ?_ | refine OD.append 0 (xs := R.map intAV) (ys := [.int .i64 n.outs.xs[i].lit]) rfl rfl rfl rfl (by rw [List.isEmpty_map]; rfl) rfl rfl rfl rfl rfl rfl (.inr ⟨⟨_, rfl⟩, rfl⟩) (fun _ => rfl) rfl rfl (roomB rfl (by simp only [List.length_map, List.length_singleton]; omega)) (fun t' => ?_)) | refine OS.nil ?_ | refine WS.seq ?_ | refine QS.seqN ?_ | refine WS.region ?_)
    rw [hgm, List.isEmpty_map]
    exact QS.rangeX ((t', R ++ [n.outs.xs[i].lit])) (by (try dsimp only) <;> exact (by rw [map_take_succ hi, hR, List.append_assoc])) (hL := by (try dsimp only); exact SubO.drop (SubO.refl _))
  rintro ⟨t, R⟩ hR
  try dsimp only at hR
  rw [List.take_of_length_le (Nat.le_refl _)] at hR
  have hR : R = n.roots := hR
  subst hR
  have hrl : n.roots.length ≤ 2000 := by unfold GNet.roots; rw [List.length_append, List.length_map]; omega
  have hro : ∀ l ∈ n.roots, 0 ≤ l ∧ l < 2 * ((n.kN + n.gates.xs.length : Nat) : Int) := fun l hl => by
    rcases List.mem_append.1 hl with h | h
    · obtain ⟨r, hr, rfl⟩ := List.mem_map.1 h; exact hrn r hr
    · obtain ⟨r, hr, rfl⟩ := List.mem_map.1 h; exact hol r hr
  have u97 := use97a h97 (t := t) hV (by omega) hro
  have z97 : ∀ st, freezeA st ((GSl.some (coneN n n.roots)).av 1 boolAV) = some ((GSl.some (coneN n n.roots)).av 1 boolAV, st) := fun st => freeze_free (free_av bool_free)
  have hcl : (GSl.some (coneN n n.roots)).xs.length = n.kN + n.gates.xs.length := coneM_len
  have c94 := fun {L' : List (Nat × AObj)} {K' : List (Nat × Bool)} {mb tg : Nat} {m : MkI} {G : List (Int × Int)} (hmf : m.Fit) (hG : G.length ≤ 20000) (km : Nat) (hm : L'[km]? = some (mb, mkO m tg G)) (st : St) (hS : SFa L' K' st) => run94 h94 km hm hmf hG hS
  dsimp only [RSt.at, List.cons_append, List.nil_append]
  repeat' (first | (refine OS.do rfl ?_; first | refine OD.auto rfl rfl ?_ | refine OD.loadP 1 rfl rfl rfl rfl rfl rfl ?_ | refine OD.len rfl rfl (fun _ => lenTy_av rfl rfl) ?_ | refine OD.call rfl rfl rfl h97.eq u97 z97 ?_ | (refine OD.callM (D := Nat × MkI) (fun d => d.2.ins = cloneG n.ins ∧ d.2.regs = n.regs.xs.map zeroR) (fun d => .ptr d.1 0 0) (fun d => (d.1, mkO d.2 0 []) :: (d.2.tb, thO d.2 []) :: _) (fun _ => []) rfl rfl rfl (fun st hS => run93 h93 h66 h112 h57 n hn hV f1 f2 hS.noK) (fun _ _ _ => rfl) ?_; rintro ⟨mb, m⟩ ⟨hmi, hmr⟩) | (refine OD.makeSlice (n := n.kN + n.gates.xs.length) rfl (congrArg (fun (z : Nat) => some (AV.int .i64 (z : Int))) hcl) (congrArg (fun (z : Nat) => some (AV.int .i64 (z : Int))) hcl) rfl rfl rfl rfl rfl (roomB rfl (by omega)) (fun lb => ?_)) | (refine OD.callP (fun r => r = .int .i64 (2 * ((m.k + ([] : List (Int × Int)).length : Nat) : Int))) rfl rfl rfl (c94 (mk_fit hmi hmr f1 f2) (Nat.zero_le _) 1 rfl) (by rintro v st rfl; rfl) ?_; rintro v rfl)) | refine OS.nil ?_ | refine WS.seq ?_ | refine QS.seqN ?_ | refine WS.region ?_ | refine WS.block ?_)
  try dsimp only at hmi hmr
  have hmk : m.k = n.kN := mk_k hmi hmr
  have hmf : m.Fit := mk_fit hmi hmr f1 f2
  have hfirst : IntKind.i64.wrap ((2 * ((m.k + ([] : List (Int × Int)).length : Nat) : Int)).tdiv 2) = (n.kN : Int) := by
    rw [hmk, Int.tdiv_eq_ediv_of_nonneg (by omega), wrap64 (by simp only [List.length_nil]; omega) (by simp only [List.length_nil]; omega)]
    simp only [List.length_nil]; omega
  rw [hfirst, hcl, show List.replicate (n.kN + n.gates.xs.length) ty3.zeroV = (([] : List Int) ++ List.replicate (n.kN + n.gates.xs.length - ([] : List Int).length) 0).map intAV from rep_int _]
  generalize hkeep : coneN n n.roots = keep at *
  dsimp only
  refine WS.newK ?_
  have half : ∀ l : Int, 0 ≤ l ∧ l < 2 * ((n.kN + n.gates.xs.length : Nat) : Int) → indexAddrA (En pr) 38 (.sl ty3.size lb 0 (n.kN + n.gates.xs.length)) (.int .i64 (IntKind.i64.wrap (l.tdiv 2))) = some (.ptr lb (l / 2).toNat 0) := fun l h => by
    have : IntKind.i64.wrap (l.tdiv 2) = (((l / 2).toNat : Nat) : Int) := by
      rw [Int.tdiv_eq_ediv_of_nonneg h.1, wrap64 (by omega) (by omega)]; omega
    rw [this]
    exact indexAddrA_sl rfl rfl rfl rfl (by omega)
  refine WS.rangeX (A := Nat × List Int × List (Int × Int)) (n := n.kN + n.gates.xs.length) ⟨58, _, fun _ => [], fun a => [(lb, .row ty3.size ((a.2.1 ++ List.replicate (n.kN + n.gates.xs.length - a.2.1.length) 0).map intAV)), (mb, mkO m a.1 a.2.2), (m.tb, thO m []), (b2, .row ty27.size [ty27.zeroV]), (b1, .row ty27.size [netAV n])], fun a => [(a.1, !a.2.2.isEmpty)], fun i a => (a.2.1, a.2.2) = nodeM n keep i⟩ ((0, [], [])) [1, 2, 9, 10, 11, 12, 57] ((if_pos (show 0 < n.kN by omega)).symm) ?_ ?_
  · rintro i ⟨tg, lits, G⟩ hi hA
    try dsimp only at hA
    have hl : lits.length = i := by
      have := nodeM_len (n := n) (keep := keep) (i := i) (by omega)
      rw [← hA] at this; exact this
    have hrep : n.kN + n.gates.xs.length - lits.length = (n.kN + n.gates.xs.length - (lits.length + 1)) + 1 := by omega
    have hbr : ((lits ++ List.replicate (n.kN + n.gates.xs.length - lits.length) 0).map intAV)[i]? = some (.int .i64 0) := by
      rw [List.getElem?_map, List.getElem?_append_right (by omega), hl, Nat.sub_self, List.getElem?_replicate, if_pos (by omega)]; rfl
    have hset : ∀ x : Int, ((lits ++ List.replicate (n.kN + n.gates.xs.length - lits.length) 0).map intAV).set i (.int .i64 x) = ((lits ++ [x]) ++ List.replicate (n.kN + n.gates.xs.length - (lits ++ [x]).length) 0).map intAV := fun x => by
      have e : ((lits ++ List.replicate (n.kN + n.gates.xs.length - lits.length) 0).map intAV).set i (.int .i64 x) = ((lits ++ List.replicate (n.kN + n.gates.xs.length - lits.length) 0).set lits.length x).map intAV := by rw [List.map_set, hl]; rfl
      rw [e, hrep, set_zeros, List.length_append]; rfl
    by_cases hik : i < n.kN
    · have hw : IntKind.i64.wrap (2 * (i : Int)) = 2 * (i : Int) := wrap64 (by omega) (by omega)
      dsimp only [RSt.at, List.cons_append, List.nil_append]
      repeat' (first | (refine OS.do rfl ?_; first | refine OD.auto rfl rfl ?_ | refine OD.indexAddr rfl rfl rfl (indexAddrA_nat rfl rfl rfl rfl (by first | assumption | exact List.getElem?_eq_getElem (by omega))) ?_ | refine OD.indexAddr rfl rfl rfl (indexAddrA_sl rfl rfl rfl rfl (by omega)) ?_ | refine OD.storeI 0 rfl rfl rfl rfl rfl hbr ?_) | refine OS.nil ?_ | refine WS.seq ?_ | refine QS.seqN ?_ | refine WS.region ?_ | refine WS.condD rfl (fun _ => ?_) (fun _ => ?_) | refine WS.skip ?_ | refine WS.block ?_ | refine QS.blockN ?_ | refine WS.condB rfl (fun _ => ?_) (fun _ => ?_))
      all_goals try (exfalso; omega)
      rw [hw, hset]
      exact QS.rangeX ((tg, lits ++ [2 * (i : Int)], G)) (by (try dsimp only) <;> exact (by rw [nodeM_in hik, ← hA])) (hL := by (try dsimp only); exact SubO.refl _)
    obtain ⟨j, rfl⟩ : ∃ j, i = n.kN + j := ⟨i - n.kN, by omega⟩
    have hj : j < n.gates.xs.length := by omega
    have hs := nodeM_ok (n := n) (keep := keep) (i := j) (by omega)
    rw [← hA] at hs
    have hGl := hs.gates
    try dsimp only at hGl
    obtain ⟨⟨g1, g2⟩, g3, g4⟩ := hgo j hj
    have r1 := hs.range (n.gates.xs[j].1 / 2).toNat
    have r2 := hs.range (n.gates.xs[j].2 / 2).toNat
    try dsimp only at r1 r2
    have hwj : IntKind.i64.wrap (((n.kN + j : Nat) : Int) - (n.kN : Int)) = (j : Int) := by rw [wrap64 (by omega) (by omega)]; omega
    have hgx : n.gates.xs[((j : Nat) : Int).toNat]? = some n.gates.xs[j] := by rw [Int.toNat_natCast]; exact List.getElem?_eq_getElem hj
    have hkl : keep.length = n.kN + n.gates.xs.length := hcl
    have hkx : (GSl.some keep).xs[n.kN + j]? = some (keep.getD (n.kN + j) false) := by
      show keep[n.kN + j]? = _
      rw [List.getD_eq_getElem?_getD, List.getElem?_eq_getElem (by omega)]; rfl
    have hq : ∀ (x : AV) (l : Int), 0 ≤ l ∧ l < 2 * ((n.kN + j : Nat) : Int) → (((lits ++ List.replicate (n.kN + n.gates.xs.length - lits.length) 0).map intAV).set (n.kN + j) x)[(l / 2).toNat]? = some (intAV (lits.getD (l / 2).toNat 0)) := fun x l h => by
      rw [List.getElem?_set, if_neg (by omega), List.getElem?_map, List.getElem?_append_left (by omega), List.getD_eq_getElem?_getD, List.getElem?_eq_getElem (by omega)]; rfl
    have ex1 : IntKind.i64.wrap ((BitVec.ofInt IntKind.i64.bits (lits.getD (n.gates.xs[j].1 / 2).toNat 0) ^^^ BitVec.ofInt IntKind.i64.bits (IntKind.i64.wrap ((BitVec.ofInt IntKind.i64.bits n.gates.xs[j].1 &&& BitVec.ofInt IntKind.i64.bits 1).toNat : Int))).toNat : Int) = atL lits n.gates.xs[j].1 := by rw [and1 g1, xor_flip (by omega) (by omega)]; rfl
    have ex2 : IntKind.i64.wrap ((BitVec.ofInt IntKind.i64.bits (lits.getD (n.gates.xs[j].2 / 2).toNat 0) ^^^ BitVec.ofInt IntKind.i64.bits (IntKind.i64.wrap ((BitVec.ofInt IntKind.i64.bits n.gates.xs[j].2 &&& BitVec.ofInt IntKind.i64.bits 1).toNat : Int))).toNat : Int) = atL lits n.gates.xs[j].2 := by rw [and1 g3, xor_flip (by omega) (by omega)]; rfl
    have c94' := fun {L' : List (Nat × AObj)} {K' : List (Nat × Bool)} (km : Nat) (hm : L'[km]? = some (mb, mkO m tg G)) (st : St) (hS : SFa L' K' st) => c94 hmf (by omega) km hm st hS
    rw [hmk] at c94'
    have hgm : G.map gateAV ++ [gateAV (atL lits n.gates.xs[j].1, atL lits n.gates.xs[j].2)] = (G ++ [(atL lits n.gates.xs[j].1, atL lits n.gates.xs[j].2)]).map gateAV := by rw [List.map_append]; rfl
    dsimp only [RSt.at, List.cons_append, List.nil_append]
    repeat' (first | (refine OS.do rfl ?_; first | refine OD.indexAddr rfl rfl rfl (indexAddrA_int rfl rfl rfl rfl (by rw [hwj]; omega) (by rw [hwj]; exact hgx)) ?_ | refine OD.indexAddr rfl rfl rfl (half _ (by omega)) ?_ | refine OD.loadP 1 rfl rfl rfl (hq _ _ ⟨g1, g2⟩) rfl rfl ?_ | refine OD.loadP 1 rfl rfl rfl (hq _ _ ⟨g3, g4⟩) rfl rfl ?_ | refine OD.loadP 0 rfl rfl rfl rfl rfl rfl ?_ | refine OD.auto rfl rfl ?_ | refine OD.indexAddr rfl rfl rfl (indexAddrA_nat rfl rfl rfl rfl (by first | assumption | exact List.getElem?_eq_getElem (by omega))) ?_ | refine OD.loadP 2 rfl rfl rfl rfl rfl rfl ?_ | refine OD.alloc rfl rfl rfl rfl (fun _ => ?_) | refine OD.storeW 0 rfl rfl rfl rfl (by first | rfl | exact net_ok _) rfl rfl rfl ?_ | refine OD.indexAddr rfl rfl rfl rfl ?_ | refine OD.nilCheckP rfl rfl ?_ | (refine OD.callP (fun r => r = .int .i64 (2 * ((n.kN + G.length : Nat) : Int))) rfl rfl rfl (c94' 2 rfl) (by rintro v st rfl; rfl) ?_; rintro v rfl) | refine OD.indexAddr rfl rfl rfl (indexAddrA_sl rfl rfl rfl rfl (by omega)) ?_ | refine OD.storeI 1 rfl rfl rfl rfl rfl hbr ?_ | refine OD.loadP 4 rfl rfl rfl rfl rfl rfl ?_ | (rw [ex1, ex2]; refine OD.append 0 (xs := G.map gateAV) (ys := [gateAV (atL lits n.gates.xs[j].1, atL lits n.gates.xs[j].2)]) rfl rfl rfl rfl (by rw [List.isEmpty_map]; rfl) rfl rfl rfl rfl rfl rfl (.inr ⟨⟨_, rfl⟩, rfl⟩) (fun _ => rfl) rfl rfl (roomB rfl (by simp only [List.length_map, List.length_singleton]; omega)) (fun t' => ?_); rw [hgm]) | (refine OD.storeG 2 rfl rfl rfl rfl rfl acc_ok1 (by rw [acc_cells]; rfl) (by rw [acc_cells]; rfl) ?_; rw [st_gates])) | refine OS.nil ?_ | refine WS.seq ?_ | refine QS.seqN ?_ | refine WS.region ?_ | refine WS.condD rfl (fun _ => ?_) (fun _ => ?_) | refine WS.skip ?_ | refine WS.block ?_ | refine QS.blockN ?_ | refine WS.draw rfl rfl ?_ | refine WS.condB rfl (fun _ => ?_) (fun _ => ?_))
    · exfalso; omega
    · rename_i hb _
      have hst := nodeM_gate (n := n) (keep := keep) hj
      rw [← hA] at hst
      unfold keepS at hst
      rw [if_pos (by rw [hl]; exact hb)] at hst
      dsimp only at hst
      rw [hset]
      exact QS.rangeX ((t', lits ++ [2 * ((n.kN + G.length : Nat) : Int)], G ++ [(atL lits n.gates.xs[j].1, atL lits n.gates.xs[j].2)])) (by (try dsimp only) <;> exact (hst.symm)) (hL := by (try dsimp only); exact SubO.drop (SubO.refl _))
    · rename_i hb
      have hst := nodeM_gate (n := n) (keep := keep) hj
      rw [← hA] at hst
      unfold keepS at hst
      rw [if_neg (by rw [hl, hb]; simp)] at hst
      dsimp only at hst
      rw [hrep, skip_zeros]
      have hrl : n.kN + n.gates.xs.length - (lits.length + 1) = n.kN + n.gates.xs.length - (lits ++ [0]).length := by simp
      rw [hrl]
      exact QS.rangeX ((tg, lits ++ [0], G)) (by (try dsimp only) <;> exact (hst.symm)) (hL := by (try dsimp only); exact SubO.refl _)
  · rintro ⟨tg, lits, G⟩ hA
    try dsimp only at hA
    have hs := nodeM_ok (n := n) (keep := keep) (Nat.le_refl _)
    rw [← hA] at hs
    rw [nodeM_all] at hA
    have hRl := hs.len
    have hGl := hs.gates
    try dsimp only at hRl hGl
    have hlay : netN m (n.regs.xs.map fun r => atL lits r.next) G (mapC n.outs (withLit lits)) = cleanN n := by
      have := net_lay (s := (lits, G)) hmi hmr
      rw [this]; unfold cleanN cleanS; rw [hkeep, ← hA]
    have hLO : LitsOk lits := ⟨fun j => by have := hs.range j; dsimp only at this; omega, by omega⟩
    have hV2 := lay_valid hV hs f4
    have hF2 := lay_fits hn ⟨f1, f2⟩ hs f4
    have hcs : layN n (lits, G) = cleanN n := by unfold cleanN cleanS; rw [hkeep, ← hA]
    rw [hcs] at hV2 hF2
    have hrow : (lits ++ List.replicate (n.kN + n.gates.xs.length - lits.length) 0) = lits := by rw [hRl, Nat.sub_self]; simp
    have c96 := fun {L' : List (Nat × AObj)} {K' : List (Nat × Bool)} (km kl : Nat) (hm : L'[km]? = some (mb, mkO m tg G)) (hkl : L'[kl]? = some (lb, .row 1 (lits.map intAV))) (st : St) (hS : SFa L' K' st) => run96 h96 h81 h117 h118 h112 h137 h138 h80 h57 km hm hmf (by omega) n (by rw [hmr, List.length_map]) f3 (x := .sl 1 lb 0 (n.kN + n.gates.xs.length)) rfl (lits := lits) (by rw [hRl]; exact hrn) (by rw [hRl]; exact hol)
      (fun X k5 b5 l K'' st hx hl hS => run125s h125 k5 (X.length + kl) (by rw [List.getElem?_append_left (List.getElem?_eq_some_iff.1 hx).1, hRl]; exact hx) (by rw [List.getElem?_append_right (by omega), Nat.add_sub_cancel_left]; exact hkl) hLO hl hS) (by rw [hlay]; exact hF2) (by rw [hlay]; exact hV2) hS.noK
    rw [hlay] at c96
    dsimp only [RSt.at, List.cons_append, List.nil_append]
    rw [hrow]
    repeat' (first | (refine OS.do rfl ?_; first | refine OD.storeW 3 rfl rfl rfl rfl hq.ok rfl rfl rfl ?_ | refine OD.auto rfl rfl ?_ | refine OD.loadP 4 rfl rfl rfl rfl rfl rfl ?_ | (refine OD.callM (D := Quad) (fun q => QOk q (cleanN n)) (fun q => .tup [qAV q, .int .i64 0]) (fun _ => _) (fun _ => []) rfl rfl rfl (c96 1 0 rfl rfl) (fun q st hq => freeze_free (by simp only [AV.free, AV.freeL, hq.free]; rfl)) ?_; rintro q hq)) | refine OS.nil ?_ | refine WS.seq ?_ | refine QS.seqN ?_ | refine WS.region ?_ | refine WS.ret ?_)
    refine QS.retO (ResO.cell 3 (by rfl) (by rfl) (by rfl) (by rfl) (by rfl) (.tmp (by rfl) .nil)) fun st hs => ⟨?_, ?_⟩
    · show AV.free (.tup [qAV q, .int .i64 0]) = true
      simp only [AV.free, AV.freeL, hq.free]; rfl
    · show AV.plain (.tup [qAV q, .int .i64 0]) = _
      rw [res_yes hV]
      simp only [AV.plain, AV.plainL, hq.plain]
theorem con51 (h1 : pr 51 = none) (h97 : Has pr 97 Rel97) (h93 : pr 93 = none) (h66 : pr 66 = none) (h94 : pr 94 = none) (h96 : pr 96 = none) (h125 : pr 125 = none) (h81 : pr 81 = none) (h117 : pr 117 = none) (h118 : pr 118 = none) (h112 : Has pr 112 Rel112) (h137 : pr 137 = none) (h138 : Has pr 138 Rel138) (h80 : pr 80 = none) (h57 : Has pr 57 Rel57) : Con2 (En pr) 51 Rel51 :=
  con_of (fun d => by simp [AV.freeL, net_free]) fun d hd st => run51 h1 h97 h93 h66 h94 h96 h125 h81 h117 h118 h112 h137 h138 h80 h57 d hd st
end
end Go.OptEnv
