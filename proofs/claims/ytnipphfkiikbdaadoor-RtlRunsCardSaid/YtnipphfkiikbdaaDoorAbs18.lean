/- Own text of this claim: part 18 of an interpreter that is proved sound against the model, and of what it shows of the law. -/
import Derived.Test.YtnipphfkiikbdaaDoorAbs17
/- netwrightref21.value: each operation. -/
namespace Go.RtlEnv
open Go Go.Proofs Go.Abs Go.RowKit
set_option maxRecDepth 10000
structure U45 (pr : Prims) : Prop where
  n45 : pr 45 = none
  n60 : pr 60 = none
  u59 : ∃ p, pr 59 = some p ∧ ∀ (s : GSl UInt8) st, s.xs ≠ [] → s.xs.length ≤ 1000000 → p [s.av 1 bitAV] st = some ((nz (invM s.xs)).av 1 bitAV, st)
  u61 : ∃ p, pr 61 = some p ∧ ∀ (s : GSl UInt8) (n : Int) st, s.xs.length ≤ 1000000 → (-4611686018427387904 < n ∧ n < 4611686018427387904) → p [s.av 1 bitAV, .int .i64 n] st = some ((nz (leftM s.xs n)).av 1 bitAV, st)
  u62 : ∃ p, pr 62 = some p ∧ ∀ b st, p [.bool b] st = some ((nz (oneM b)).av 1 bitAV, st)
  u63 : ∃ p, pr 63 = some p ∧ ∀ (s t : GSl UInt8) st, s.xs.length ≤ 1000000 → t.xs.length = s.xs.length → p [s.av 1 bitAV, t.av 1 bitAV] st = some (.bool (lessM s.xs t.xs), st)
  u64 : ∃ p, pr 64 = some p ∧ ∀ (s : GSl UInt8) st, s.xs.length ≤ 31 → upto 1 s.xs = true → p [s.av 1 bitAV] st = some (.int .i64 (numM s.xs : Int), st)
theorem Rd.acc {pr : Prims} {L : List (Nat × AObj)} {K : List (Nat × Bool)} {t : Nat} (l : List UInt8) : Rd (En pr) L K (accA t 1 (l.map bitAV)) l := by
  cases l with
  | nil => exact ⟨fun st => rfl, fun i h => by simp at h⟩
  | cons a l => exact Rd.vs (a :: l)
theorem frz_acc {t : Nat} (l : List UInt8) (st : St) : freezeA st (accA t 1 (l.map bitAV)) = some (accA t 1 (l.map bitAV), st) := by
  cases l with
  | nil => rfl
  | cons a l => rfl
theorem SFa_tailK {L : List (Nat × AObj)} {K : List (Nat × Bool)} {p : Nat × Bool} {st : St} (h : SFa L (p :: K) st) : SFa L K st :=
  ⟨h.obj, h.uniq, fun k t hk => h.tok (k + 1) t (by simpa using hk), fun k k' t h1 h2 => by have := h.uniqT (k + 1) (k' + 1) t (by simpa using h1) (by simpa using h2); omega⟩
theorem vals_at {s : GSl (GSl UInt8)} {i : Nat} {x : GSl UInt8} (h : s.xs[i]? = some x) : (vals s).getD i [] = x.xs := kd_vals h
attribute [local irreducible] WS QS OS OD Abs.Sub SubO SubK CW GSl.av accA SegK
section
variable {pr : Prims}
set_option maxHeartbeats 1000000
theorem run60g (h1 : pr 60 = none) (A B : AV) (x y : List UInt8) (c0 : UInt8) (hs : x.length ≤ 1000000) (hy : y.length = x.length) {L : List (Nat × AObj)} {K : List (Nat × Bool)} (hA : Rd (En pr) L K A x) (hB : Rd (En pr) L K B y) {st : St} (hS : SFa L K st) :
    CW (En pr) 60 [A, B, bitAV c0] st fun r st' => (∃ t, r = accA t 1 ((addM x y c0).map bitAV)) ∧ SFa L K st' := by
  have hl := addM_len x y c0 hy.symm
  refine CW.startS (N := 35) h1 rfl rfl hS ?_
  repeat' (first | (refine OS.do rfl ?_; first | refine OD.len rfl rfl hA.len ?_ | refine OD.auto rfl rfl ?_) | refine OS.nil ?_ | refine WS.seq ?_ | refine QS.seqN ?_ | refine WS.region ?_ | refine WS.block ?_)
  refine WS.loop (D := Nat × Nat × UInt8 × List UInt8) (fun d => [(0, A), (1, B), (2, bitAV d.2.2.1), (7, accA d.2.1 1 (d.2.2.2.map bitAV)), (11, .int .i64 x.length), (12, .int .i64 d.1)]) (fun _ => L) (fun d => (d.2.1, !(d.2.2.2.map bitAV).isEmpty) :: K)
    (fun d => d.1 ≤ x.length ∧ d.2.2.2.length = d.1 ∧ d.2.2.2 ++ addM (x.drop d.1) (y.drop d.1) d.2.2.1 = addM x y c0) (fun d => x.length + 1 - d.1) (0, 0, c0, []) ⟨by omega, rfl, by simp⟩ ?_ (.refl _) (SubK.new (.refl _)) ?_
  · repeat' (first | exact Sub.nil _ | refine Sub.cons (congrArg some (accA_nil _ _).symm) ?_ | refine Sub.cons (congrArg (fun z => some (AV.int .i64 z)) (wrap_succ (by omega))) ?_ | refine Sub.cons rfl ?_)
  rintro ⟨i, tk, c, done⟩ ⟨hi, hd, ha⟩
  dsimp only at hi hd ha ⊢
  repeat' (first | (refine OS.do rfl ?_; first | (obtain ⟨p, e1, e2⟩ := hA.at' i (by omega); refine OD.indexAddr rfl rfl rfl e1 ?_; refine OS.do rfl ?_; refine OD.loadG rfl rfl (fun st hS => e2 st (SFa_tailK hS)) ?_) | (obtain ⟨p, e1, e2⟩ := hB.at' i (by omega); refine OD.indexAddr rfl rfl rfl e1 ?_; refine OS.do rfl ?_; refine OD.loadG rfl rfl (fun st hS => e2 st (SFa_tailK hS)) ?_) | refine OD.auto rfl rfl ?_ | refine OD.append 0 rfl rfl rfl rfl rfl rfl rfl rfl rfl rfl rfl (.inr ⟨⟨_, rfl⟩, rfl⟩) (fun _ => rfl) rfl rfl (roomB rfl (by simp only [List.length_map, List.length_take, List.length_cons, List.length_nil]; omega)) (fun tk' => ?_)) | refine OS.nil ?_ | refine WS.seq ?_ | refine QS.seqN ?_ | refine WS.region ?_ | refine WS.condD rfl (fun _ => ?_) (fun _ => ?_) | refine WS.skip ?_ | refine WS.block ?_ | refine WS.ret ?_ | refine QS.blockN ?_ | refine WS.exit ?_ | refine QS.seqE ?_ | refine QS.blockH ?_ | refine QS.loopE ?_ | refine WS.draw rfl rfl ?_)
  · have hlt : i < x.length := by omega
    have hlt' : i < y.length := by omega
    refine QS.loopN (i + 1, tk', (x[i] + y[i] + c) / 2, done ++ [(x[i] + y[i] + c) % 2]) ?_ ?_ ?_ ?_ ?_
    · refine ⟨by dsimp only; omega, by simp [hd], ?_⟩
      dsimp only
      rw [← ha, addM_drop hlt hlt']; simp
    · dsimp only; omega
    · have hA : (done ++ [(x[i] + y[i] + c) % 2]).map bitAV = done.map bitAV ++ [.int .u8 ((IntKind.u8.wrap (IntKind.u8.wrap ((x[i].toNat : Int) + (y[i].toNat : Int)) + (c.toNat : Int))).tmod 2)] := by
        rw [List.map_append, u8_sum, u8_mod2]; rfl
      have hC : IntKind.u8.wrap ((IntKind.u8.wrap (IntKind.u8.wrap ((x[i].toNat : Int) + (y[i].toNat : Int)) + (c.toNat : Int))).tdiv 2) = (((x[i] + y[i] + c) / 2).toNat : Int) := by rw [u8_sum, u8_div2]
      repeat' (first | exact Sub.nil _ | refine Sub.cons (congrArg (fun z => some (accA tk' 1 z)) hA.symm) ?_ | refine Sub.cons (congrArg (fun z => some (AV.int .u8 z)) hC) ?_ | refine Sub.cons (congrArg (fun z => some (AV.int .i64 z)) (wrap_succ (by omega))) ?_ | refine Sub.cons rfl ?_)
    · exact .refl _
    · exact SubK.keep (fun _ => by simp) (.refl _)
  have hT : done = addM x y c0 := by
    rw [← ha, List.drop_eq_nil_of_le (by omega)]
    simp [addM]
  rw [hT]
  exact QS.retRS (by rfl) fun _ hS => ⟨⟨_, rfl⟩, SFa_tailK hS⟩
theorem run45_1 (U : U45 pr) (ln : Nat) (n : Int) (kids : GSl Int) (bits : GSl UInt8) (ks ins regs : GSl (GSl UInt8)) (hk : KidsOk 1 ln n (vals ks)) (hb : bits.xs.length = ln) (st : St) :
    CW (En pr) 45 [wordAV ⟨1, ln, n, kids, bits⟩, rowsAV ks, rowsAV ins, rowsAV regs] st (Res (evalM 1 ln n bits.xs (vals ks))) := by
  have hsz := hk.size
  have e : evalM 1 ln n bits.xs (vals ks) = bits.xs := rfl
  rw [e]
  obtain ⟨z, hz1, hz2⟩ := elems_bits' bits
  unfold rowsAV
  refine CW.start (N := 238) U.n45 rfl rfl ?_
  repeat' (first | (refine OS.do rfl ?_; first | refine OD.box rfl rfl rfl rfl (word_ok _) rfl (fun b4 => ?_) | refine OD.appendFull rfl rfl rfl rfl rfl rfl rfl rfl rfl rfl ⟨⟨_, rfl⟩, isStr_av⟩ hz1 (okBits rfl _) hz2 (by simpa using ne_of_len (l := bits.xs) (by omega)) (roomB rfl (by simp only [List.length_map, List.length_nil]; omega)) (fun tk => ?_) | refine OD.loadP 0 rfl rfl rfl rfl rfl rfl ?_ | refine OD.auto rfl rfl ?_) | refine OS.nil ?_ | refine WS.seq ?_ | refine QS.seqN ?_ | refine WS.region ?_ | refine WS.condT rfl ?_ | refine WS.block ?_ | refine WS.ret ?_ | refine QS.seqR ?_ | refine QS.blockR ?_)
  exact QS.retR (by rfl) fun _ => Res.tok
theorem run45_2 (U : U45 pr) (ln : Int) (m : Nat) (kids : GSl Int) (bits : GSl UInt8) (ks ins regs : GSl (GSl UInt8)) (x : GSl UInt8) (hx : ins.xs[m]? = some x) (hl : 1 ≤ x.xs.length ∧ x.xs.length ≤ 4096) (st : St) :
    CW (En pr) 45 [wordAV ⟨2, ln, m, kids, bits⟩, rowsAV ks, rowsAV ins, rowsAV regs] st (Res x.xs) := by
  obtain ⟨z, hz1, hz2⟩ := elems_bits' x
  unfold rowsAV
  refine CW.start (N := 238) U.n45 rfl rfl ?_
  repeat' (first | (refine OS.do rfl ?_; first | refine OD.box rfl rfl rfl rfl (word_ok _) rfl (fun b4 => ?_) | refine OD.indexAddr rfl rfl rfl (indexAddrA_natS rfl rfl rfl rfl hx) ?_ | refine OD.appendFull rfl rfl rfl rfl rfl rfl rfl rfl rfl rfl ⟨⟨_, rfl⟩, isStr_av⟩ hz1 (okBits rfl _) hz2 (by simpa using ne_of_len (l := x.xs) (by omega)) (roomB rfl (by simp only [List.length_map, List.length_nil]; omega)) (fun tk => ?_) | refine OD.loadP 0 rfl rfl rfl rfl rfl rfl ?_ | refine OD.auto rfl rfl ?_) | refine OS.nil ?_ | refine WS.seq ?_ | refine QS.seqN ?_ | refine WS.region ?_ | refine WS.condT rfl ?_ | refine WS.condF rfl ?_ | refine WS.block ?_ | refine WS.ret ?_ | refine QS.seqR ?_ | refine QS.blockR ?_)
  exact QS.retR (by rfl) fun _ => Res.tok
theorem run45_3 (U : U45 pr) (ln : Int) (m : Nat) (kids : GSl Int) (bits : GSl UInt8) (ks ins regs : GSl (GSl UInt8)) (x : GSl UInt8) (hx : regs.xs[m]? = some x) (hl : 1 ≤ x.xs.length ∧ x.xs.length ≤ 4096) (st : St) :
    CW (En pr) 45 [wordAV ⟨3, ln, m, kids, bits⟩, rowsAV ks, rowsAV ins, rowsAV regs] st (Res x.xs) := by
  obtain ⟨z, hz1, hz2⟩ := elems_bits' x
  unfold rowsAV
  refine CW.start (N := 238) U.n45 rfl rfl ?_
  repeat' (first | (refine OS.do rfl ?_; first | refine OD.box rfl rfl rfl rfl (word_ok _) rfl (fun b4 => ?_) | refine OD.indexAddr rfl rfl rfl (indexAddrA_natS rfl rfl rfl rfl hx) ?_ | refine OD.appendFull rfl rfl rfl rfl rfl rfl rfl rfl rfl rfl ⟨⟨_, rfl⟩, isStr_av⟩ hz1 (okBits rfl _) hz2 (by simpa using ne_of_len (l := x.xs) (by omega)) (roomB rfl (by simp only [List.length_map, List.length_nil]; omega)) (fun tk => ?_) | refine OD.loadP 0 rfl rfl rfl rfl rfl rfl ?_ | refine OD.auto rfl rfl ?_) | refine OS.nil ?_ | refine WS.seq ?_ | refine QS.seqN ?_ | refine WS.region ?_ | refine WS.condT rfl ?_ | refine WS.condF rfl ?_ | refine WS.block ?_ | refine WS.ret ?_ | refine QS.seqR ?_ | refine QS.blockR ?_)
  exact QS.retR (by rfl) fun _ => Res.tok
theorem run45_4 (U : U45 pr) (ln : Nat) (n : Int) (kids : GSl Int) (bits : GSl UInt8) (ks ins regs : GSl (GSl UInt8)) (hk : KidsOk 4 ln n (vals ks)) (st : St) :
    CW (En pr) 45 [wordAV ⟨4, ln, n, kids, bits⟩, rowsAV ks, rowsAV ins, rowsAV regs] st (Res (evalM 4 ln n bits.xs (vals ks))) := by
  have hsz := hk.size
  obtain ⟨p59, h59, u59⟩ := U.u59
  have hc : ks.xs.length = 1 := by
    have := hk.count
    unfold okKids kids57 at this
    rw [decide_eq_true_eq, vals_len] at this
    simp at this; omega
  obtain ⟨x, x0, x1, x2, x3, x4⟩ := kid hk (i := 0) (by omega)
  have e : evalM 4 ln n bits.xs (vals ks) = invM x.xs := by rw [← x1]; rfl
  rw [e]
  unfold rowsAV
  refine CW.start (N := 238) U.n45 rfl rfl ?_
  repeat' (first | (refine OS.do rfl ?_; first | refine OD.box rfl rfl rfl rfl (word_ok _) rfl (fun b4 => ?_) | refine OD.indexAddr rfl rfl rfl (indexAddrA_intS (k := 0) rfl rfl rfl rfl (by decide) x0) ?_ | refine OD.call rfl rfl rfl h59 (fun st => u59 x st (ne_of_len (by omega)) (by omega)) av_frz ?_ | refine OD.loadP 0 rfl rfl rfl rfl rfl rfl ?_ | refine OD.auto rfl rfl ?_) | refine OS.nil ?_ | refine WS.seq ?_ | refine QS.seqN ?_ | refine WS.region ?_ | refine WS.condT rfl ?_ | refine WS.condF rfl ?_ | refine WS.block ?_ | refine WS.ret ?_ | refine QS.seqR ?_ | refine QS.blockR ?_)
  exact QS.retR (by rfl) fun _ => Res.nz
theorem run45_8 (U : U45 pr) (ln : Nat) (n : Int) (kids : GSl Int) (bits : GSl UInt8) (ks ins regs : GSl (GSl UInt8)) (hk : KidsOk 8 ln n (vals ks)) (st : St) :
    CW (En pr) 45 [wordAV ⟨8, ln, n, kids, bits⟩, rowsAV ks, rowsAV ins, rowsAV regs] st (Res (evalM 8 ln n bits.xs (vals ks))) := by
  have hsz := hk.size
  have hc := kid2 hk (by omega)
  obtain ⟨x, x0, x1, x2, x3, x4⟩ := kid hk (i := 0) (by omega)
  obtain ⟨y, y0, y1, y2, y3, y4⟩ := kid hk (i := 1) (by omega)
  have lx := same_kid hk (by omega) x0
  have ly := same_kid hk (by omega) y0
  have e : evalM 8 ln n bits.xs (vals ks) = addM x.xs y.xs 0 := by rw [← x1, ← y1]; rfl
  rw [e]
  have hr : (addM x.xs y.xs 0).length = x.xs.length := addM_len _ _ _ (by omega)
  unfold rowsAV
  refine CW.start (N := 238) U.n45 rfl rfl ?_
  repeat' (first | (refine OS.do rfl ?_; first | refine OD.box rfl rfl rfl rfl (word_ok _) rfl (fun b4 => ?_) | refine OD.indexAddr rfl rfl rfl (indexAddrA_intS (k := 0) rfl rfl rfl rfl (by decide) x0) ?_ | refine OD.indexAddr rfl rfl rfl (indexAddrA_intS (k := 1) rfl rfl rfl rfl (by decide) y0) ?_ | (refine OD.callP (fun r => ∃ t, r = accA t 1 ((addM x.xs y.xs 0).map bitAV)) rfl rfl rfl (fun st hS => run60g U.n60 _ _ x.xs y.xs 0 (by skip; omega) (by skip; omega) (Rd.av x) (Rd.av y) hS) (fun v st hv => by obtain ⟨t, rfl⟩ := hv; exact frz_acc _ st) ?_; rintro v ⟨tk, rfl⟩) | refine OD.loadP 0 rfl rfl rfl rfl rfl rfl ?_ | refine OD.auto rfl rfl ?_) | refine OS.nil ?_ | refine WS.seq ?_ | refine QS.seqN ?_ | refine WS.region ?_ | refine WS.condT rfl ?_ | refine WS.condF rfl ?_ | refine WS.block ?_ | refine WS.ret ?_ | refine QS.seqR ?_ | refine QS.blockR ?_ | refine WS.draw rfl rfl ?_)
  exact QS.retR (by rfl) fun _ => Res.acc (ne_of_len (by omega))
theorem run45_9 (U : U45 pr) (ln : Nat) (n : Int) (kids : GSl Int) (bits : GSl UInt8) (ks ins regs : GSl (GSl UInt8)) (hk : KidsOk 9 ln n (vals ks)) (st : St) :
    CW (En pr) 45 [wordAV ⟨9, ln, n, kids, bits⟩, rowsAV ks, rowsAV ins, rowsAV regs] st (Res (evalM 9 ln n bits.xs (vals ks))) := by
  have hsz := hk.size
  obtain ⟨p59, h59, u59⟩ := U.u59
  have hc := kid2 hk (by omega)
  obtain ⟨x, x0, x1, x2, x3, x4⟩ := kid hk (i := 0) (by omega)
  obtain ⟨y, y0, y1, y2, y3, y4⟩ := kid hk (i := 1) (by omega)
  have lx := same_kid hk (by omega) x0
  have ly := same_kid hk (by omega) y0
  have e : evalM 9 ln n bits.xs (vals ks) = addM x.xs (invM y.xs) 1 := by rw [← x1, ← y1]; rfl
  rw [e]
  have hi : (invM y.xs).length = y.xs.length := List.length_map _
  have hr : (addM x.xs (invM y.xs) 1).length = x.xs.length := addM_len _ _ _ (by omega)
  unfold rowsAV
  refine CW.start (N := 238) U.n45 rfl rfl ?_
  repeat' (first | (refine OS.do rfl ?_; first | refine OD.box rfl rfl rfl rfl (word_ok _) rfl (fun b4 => ?_) | refine OD.loadP 0 rfl rfl rfl rfl rfl rfl ?_ | refine OD.auto rfl rfl ?_) | refine OS.nil ?_ | refine WS.seq ?_ | refine QS.seqN ?_ | refine WS.region ?_ | refine WS.condT rfl ?_ | refine WS.condF rfl ?_ | refine WS.block ?_)
  refine WS.drawQK 7 (by rfl) (by rfl) (by rfl) (by rfl) ?_
  (repeat' (first | refine SegK.nil ?_ | refine SegK.auto rfl rfl rfl rfl ?_ | refine SegK.indexAddr rfl rfl rfl rfl (indexAddrA_intS (k := 0) rfl rfl rfl rfl (by decide) x0) ?_ | refine SegK.indexAddr rfl rfl rfl rfl (indexAddrA_intS (k := 1) rfl rfl rfl rfl (by decide) y0) ?_ | refine SegK.call rfl rfl rfl h59 (fun st => u59 y st (ne_of_len (by omega)) (by omega)) av_frz ?_))
  repeat' (first | (refine OS.do rfl ?_; first | (refine OD.callP (fun r => ∃ t, r = accA t 1 ((addM x.xs (invM y.xs) 1).map bitAV)) rfl rfl rfl (fun st hS => run60g U.n60 _ _ x.xs (invM y.xs) 1 (by skip; omega) (by skip; omega) (Rd.av x) (Rd.nz _) hS) (fun v st hv => by obtain ⟨t, rfl⟩ := hv; exact frz_acc _ st) ?_; rintro v ⟨tk, rfl⟩) | refine OD.auto rfl rfl ?_) | refine OS.nil ?_ | refine QS.seqN ?_ | refine WS.ret ?_ | refine QS.seqR ?_ | refine QS.blockR ?_)
  exact QS.retR (by rfl) fun _ => Res.acc (ne_of_len (by omega))
theorem run45_10 (U : U45 pr) (ln : Nat) (n : Int) (kids : GSl Int) (bits : GSl UInt8) (ks ins regs : GSl (GSl UInt8)) (hk : KidsOk 10 ln n (vals ks)) (st : St) :
    CW (En pr) 45 [wordAV ⟨10, ln, n, kids, bits⟩, rowsAV ks, rowsAV ins, rowsAV regs] st (Res (evalM 10 ln n bits.xs (vals ks))) := by
  have hsz := hk.size
  obtain ⟨p61, h61, u61⟩ := U.u61
  have hc := kid2 hk (by omega)
  obtain ⟨x, x0, x1, x2, x3, x4⟩ := kid hk (i := 0) (by omega)
  obtain ⟨y, y0, y1, y2, y3, y4⟩ := kid hk (i := 1) (by omega)
  have lx := same_kid hk (by omega) x0
  have ly := same_kid hk (by omega) y0
  have e : evalM 10 ln n bits.xs (vals ks) = mulS x.xs y.xs y.xs.length := by rw [← x1, ← y1]; rfl
  rw [e]
  unfold rowsAV
  refine CW.start (N := 238) U.n45 rfl rfl ?_
  repeat' (first | (refine OS.do rfl ?_; first | refine OD.box rfl rfl rfl rfl (word_ok _) rfl (fun b4 => ?_) | refine OD.makeSlice rfl rfl rfl rfl rfl rfl rfl rfl (roomB rfl (by omega)) (fun b9 => ?_) | refine OD.indexAddr rfl rfl rfl (indexAddrA_intS (k := 1) rfl rfl rfl rfl (by decide) y0) ?_ | refine OD.loadP 0 rfl rfl rfl rfl rfl rfl ?_ | refine OD.auto rfl rfl ?_ | refine OD.len rfl rfl (fun _ => lenTy_av rfl rfl) ?_) | refine OS.nil ?_ | refine WS.seq ?_ | refine QS.seqN ?_ | refine WS.region ?_ | refine WS.condT rfl ?_ | refine WS.condF rfl ?_ | refine WS.block ?_)
  refine WS.loop (D := Nat × AV) (fun d => [(1, ks.av 1 fun x => x.av 1 bitAV), (9, d.2), (77, y.av 1 bitAV), (78, .int .i64 y.xs.length), (79, .int .i64 d.1)]) (fun d => [(b9, .row 1 ((List.replicate ln (0 : UInt8)).map bitAV))]) (fun _ => [])
    (fun d => d.1 ≤ y.xs.length ∧ ((d.2 = .sl 1 b9 0 ln ∧ mulS x.xs y.xs d.1 = List.replicate ln 0) ∨ ∃ t, d.2 = accA t 1 ((mulS x.xs y.xs d.1).map bitAV))) (fun d => y.xs.length + 1 - d.1) (0, .sl 1 b9 0 ln) ⟨by omega, .inl ⟨rfl, by rw [mulS]; congr 1; omega⟩⟩ ?_ ?_ (.nil _) ?_
  · repeat' (first | exact Sub.nil _ | refine Sub.cons (congrArg (fun z => some (AV.int .i64 z)) (wrap_succ (by omega))) ?_ | refine Sub.cons rfl ?_)
  · (try dsimp only); rw [List.map_replicate]; repeat' (first | exact SubO.nil _ | exact SubO.refl _ | refine SubO.keep ?_ | refine SubO.drop ?_)
  rintro ⟨i, X⟩ ⟨hi, hX⟩
  dsimp only at hi hX ⊢
  have hRd : Rd (En pr) [(b9, .row 1 ((List.replicate ln (0 : UInt8)).map bitAV))] [] X (mulS x.xs y.xs i) := by
    rcases hX with ⟨h1, h2⟩ | ⟨t, h1⟩
    · rw [h1, h2]; exact Rd.sl (k := 0) rfl (by simp)
    · rw [h1]; exact Rd.acc _
  have hml := mulS_len x.xs y.xs i
  have hll := leftM_len x.xs (i : Int)
  repeat' (first | (refine OS.do rfl ?_; first | refine OD.indexAddr rfl rfl rfl (indexAddrA_intS (k := 0) rfl rfl rfl rfl (by decide) x0) ?_ | refine OD.call rfl rfl rfl h61 (fun st => u61 x i st (by omega) (by omega)) av_frz ?_ | (refine OD.callP (fun r => ∃ t, r = accA t 1 ((addM (mulS x.xs y.xs i) (leftM x.xs i) 0).map bitAV)) rfl rfl rfl (fun st hS => run60g U.n60 _ _ (mulS x.xs y.xs i) (leftM x.xs i) 0 (by skip; omega) (by skip; omega) hRd (Rd.nz _) hS) (fun v st hv => by obtain ⟨t, rfl⟩ := hv; exact frz_acc _ st) ?_; rintro v ⟨tk, rfl⟩) | refine OD.auto rfl rfl ?_ | refine OD.indexAddr rfl rfl rfl (indexAddrA_nat rfl rfl rfl rfl (by first | assumption | exact List.getElem?_eq_getElem (by omega))) ?_) | refine OS.nil ?_ | refine WS.seq ?_ | refine QS.seqN ?_ | refine WS.region ?_ | refine WS.condE rfl (fun _ => ?_) (fun _ => ?_) | refine WS.condD rfl (fun _ => ?_) (fun _ => ?_) | refine WS.skip ?_ | refine WS.block ?_ | refine WS.ret ?_ | refine QS.seqR ?_ | refine QS.blockR ?_ | refine QS.blockN ?_ | refine WS.exit ?_ | refine QS.seqE ?_ | refine QS.blockH ?_ | refine QS.loopE ?_)
  · rename_i hbit
    have hlt : i < y.xs.length := by omega
    refine QS.loopN (i + 1, accA tk 1 ((mulS x.xs y.xs (i + 1)).map bitAV)) ?_ ?_ ?_ ?_ ?_
    · exact ⟨by dsimp only; omega, .inr ⟨tk, rfl⟩⟩
    · dsimp only; omega
    · rw [mulS_one hlt hbit]
      repeat' (first | exact Sub.nil _ | refine Sub.cons (congrArg (fun z => some (AV.int .i64 z)) (wrap_succ (by omega))) ?_ | refine Sub.cons rfl ?_)
    · exact .refl _
    · exact .nil _
  · rename_i hbit
    have hlt : i < y.xs.length := by omega
    refine QS.loopN (i + 1, X) ?_ ?_ ?_ ?_ ?_
    · refine ⟨by dsimp only; omega, ?_⟩
      dsimp only
      rw [mulS_zero hlt hbit]; exact hX
    · dsimp only; omega
    · repeat' (first | exact Sub.nil _ | refine Sub.cons (congrArg (fun z => some (AV.int .i64 z)) (wrap_succ (by omega))) ?_ | refine Sub.cons rfl ?_)
    · exact .refl _
    · exact .nil _
  · have hi : i = y.xs.length := by omega
    subst hi
    refine QS.retRS (by rfl) fun st hS => ?_
    rcases hX with ⟨h1, h2⟩ | ⟨t, h1⟩
    · subst h1
      rw [h2]
      exact Res.row (by simp) (hS.obj 0 b9 _ rfl).1
    · subst h1; exact Res.acc (ne_of_len (by omega))
end
end Go.RtlEnv

/- netwrightref21.value: the other operations. -/
namespace Go.RtlEnv
open Go Go.Proofs Go.Abs Go.RowKit
set_option maxRecDepth 10000
theorem lessJ_both (x y : List UInt8) : ∀ j : Nat, (lessJ x y j = false ∧ lessJ y x j = false) ↔ ∀ i, i < j → x.getD i 0 = y.getD i 0
  | 0 => by simp [lessJ]
  | j + 1 => by
    have ih := lessJ_both x y j
    simp only [lessJ]
    by_cases h : x.getD j 0 = y.getD j 0
    · rw [if_pos h, if_pos h.symm, ih]
      constructor
      · intro k i hi
        by_cases hij : i = j
        · subst hij; exact h
        · exact k i (by omega)
      · intro k i hi; exact k i (by omega)
    · rw [if_neg h, if_neg (fun e => h e.symm), decide_eq_false_iff_not, decide_eq_false_iff_not]
      constructor
      · rintro ⟨h1, h2⟩
        exact absurd (UInt8.toNat_inj.1 (by omega)) h
      · intro k; exact absurd (k j (by omega)) h
theorem less_eq {x y : List UInt8} (h : x.length = y.length) : decide (x = y) = (!lessM x y && !lessM y x) := by
  have key : (lessM x y = false ∧ lessM y x = false) ↔ x = y := by
    unfold lessM
    rw [← h, lessJ_both]
    constructor
    · intro k
      refine List.ext_getElem h fun i h1 h2 => ?_
      have := k i h1
      rwa [getD_at h1, getD_at h2] at this
    · rintro rfl i _; rfl
  cases h1 : lessM x y <;> cases h2 : lessM y x <;> rw [h1, h2] at key <;> simp at key ⊢ <;> exact key
theorem flatten_take {ls : List (List UInt8)} {i : Nat} (h : ls.length ≤ i) : (ls.take i).flatten = ls.flatten := by rw [List.take_of_length_le h]
attribute [local irreducible] WS QS OS OD Abs.Sub SubO SubK CW GSl.av accA SegK
section
variable {pr : Prims}
set_option maxHeartbeats 1000000
theorem run45_11 (U : U45 pr) (ln : Nat) (n : Int) (kids : GSl Int) (bits : GSl UInt8) (ks ins regs : GSl (GSl UInt8)) (hk : KidsOk 11 ln n (vals ks)) (st : St) :
    CW (En pr) 45 [wordAV ⟨11, ln, n, kids, bits⟩, rowsAV ks, rowsAV ins, rowsAV regs] st (Res (evalM 11 ln n bits.xs (vals ks))) := by
  have hsz := hk.size
  obtain ⟨p62, h62, u62⟩ := U.u62
  obtain ⟨p63, h63, u63⟩ := U.u63
  have hc := kid2 hk (by omega)
  obtain ⟨x, x0, x1, x2, x3, x4⟩ := kid hk (i := 0) (by omega)
  obtain ⟨y, y0, y1, y2, y3, y4⟩ := kid hk (i := 1) (by omega)
  have hxy : x.xs.length = y.xs.length := by rw [← x1, ← y1]; exact (hk.cmp (.inl rfl)).2
  have e : evalM 11 ln n bits.xs (vals ks) = oneM (!lessM x.xs y.xs && !lessM y.xs x.xs) := by rw [← less_eq hxy, ← x1, ← y1]; rfl
  rw [e]
  unfold rowsAV
  refine CW.start (N := 238) U.n45 rfl rfl ?_
  repeat' (first | (refine OS.do rfl ?_; first | refine OD.box rfl rfl rfl rfl (word_ok _) rfl (fun b4 => ?_) | refine OD.indexAddr rfl rfl rfl (indexAddrA_intS (k := 0) rfl rfl rfl rfl (by decide) x0) ?_ | refine OD.indexAddr rfl rfl rfl (indexAddrA_intS (k := 1) rfl rfl rfl rfl (by decide) y0) ?_ | refine OD.call rfl rfl rfl h63 (fun st => u63 x y st (by omega) (by omega)) (fun _ => rfl) ?_ | refine OD.call rfl rfl rfl h63 (fun st => u63 y x st (by omega) (by omega)) (fun _ => rfl) ?_ | refine OD.call rfl rfl rfl h62 (fun st => u62 _ st) av_frz ?_ | refine OD.loadP 0 rfl rfl rfl rfl rfl rfl ?_ | refine OD.auto rfl rfl ?_) | refine OS.nil ?_ | refine OS.skip rfl rfl rfl ?_ | refine WS.seq ?_ | refine QS.seqN ?_ | refine WS.region ?_ | refine WS.condT rfl ?_ | refine WS.condF rfl ?_ | refine WS.block ?_ | refine WS.ret ?_ | refine QS.seqR ?_ | refine QS.blockR ?_ | refine WS.draw rfl rfl ?_ | ((fail_if_success (refine OS.do rfl ?_)); first | refine OS.splitN rfl rfl rfl (fun _ => ?_) (fun _ => ?_)))
  · rename_i h
    rw [show (!lessM x.xs y.xs && !lessM y.xs x.xs) = !lessM y.xs x.xs from by rw [h]; rfl]
    exact QS.retR (by rfl) fun _ => Res.nz
  · rename_i h
    rw [show (!lessM x.xs y.xs && !lessM y.xs x.xs) = false from by rw [h]; rfl]
    exact QS.retR (by rfl) fun _ => Res.nz
theorem run45_12 (U : U45 pr) (ln : Nat) (n : Int) (kids : GSl Int) (bits : GSl UInt8) (ks ins regs : GSl (GSl UInt8)) (hk : KidsOk 12 ln n (vals ks)) (st : St) :
    CW (En pr) 45 [wordAV ⟨12, ln, n, kids, bits⟩, rowsAV ks, rowsAV ins, rowsAV regs] st (Res (evalM 12 ln n bits.xs (vals ks))) := by
  have hsz := hk.size
  obtain ⟨p62, h62, u62⟩ := U.u62
  obtain ⟨p63, h63, u63⟩ := U.u63
  have hc := kid2 hk (by omega)
  obtain ⟨x, x0, x1, x2, x3, x4⟩ := kid hk (i := 0) (by omega)
  obtain ⟨y, y0, y1, y2, y3, y4⟩ := kid hk (i := 1) (by omega)
  have hxy : x.xs.length = y.xs.length := by rw [← x1, ← y1]; exact (hk.cmp (.inr rfl)).2
  have e : evalM 12 ln n bits.xs (vals ks) = oneM (lessM x.xs y.xs) := by rw [← x1, ← y1]; rfl
  rw [e]
  unfold rowsAV
  refine CW.start (N := 238) U.n45 rfl rfl ?_
  repeat' (first | (refine OS.do rfl ?_; first | refine OD.box rfl rfl rfl rfl (word_ok _) rfl (fun b4 => ?_) | refine OD.indexAddr rfl rfl rfl (indexAddrA_intS (k := 0) rfl rfl rfl rfl (by decide) x0) ?_ | refine OD.indexAddr rfl rfl rfl (indexAddrA_intS (k := 1) rfl rfl rfl rfl (by decide) y0) ?_ | refine OD.call rfl rfl rfl h63 (fun st => u63 x y st (by omega) (by omega)) (fun _ => rfl) ?_ | refine OD.call rfl rfl rfl h62 (fun st => u62 _ st) av_frz ?_ | refine OD.loadP 0 rfl rfl rfl rfl rfl rfl ?_ | refine OD.auto rfl rfl ?_) | refine OS.nil ?_ | refine WS.seq ?_ | refine QS.seqN ?_ | refine WS.region ?_ | refine WS.condT rfl ?_ | refine WS.condF rfl ?_ | refine WS.block ?_ | refine WS.ret ?_ | refine QS.seqR ?_ | refine QS.blockR ?_ | refine WS.draw rfl rfl ?_)
  exact QS.retR (by rfl) fun _ => Res.nz
theorem run45_13 (U : U45 pr) (ln : Nat) (n : Int) (kids : GSl Int) (bits : GSl UInt8) (ks ins regs : GSl (GSl UInt8)) (hk : KidsOk 13 ln n (vals ks)) (st : St) :
    CW (En pr) 45 [wordAV ⟨13, ln, n, kids, bits⟩, rowsAV ks, rowsAV ins, rowsAV regs] st (Res (evalM 13 ln n bits.xs (vals ks))) := by
  have hsz := hk.size
  have hc := kid3 hk
  obtain ⟨x, x0, x1, x2, x3, x4⟩ := kid hk (i := 0) (by omega)
  obtain ⟨y, y0, y1, y2, y3, y4⟩ := kid hk (i := 1) (by omega)
  obtain ⟨z, z0, z1, z2, z3, z4⟩ := kid hk (i := 2) (by omega)
  have e : evalM 13 ln n bits.xs (vals ks) = if x.xs.getD 0 0 = 1 then y.xs else z.xs := by rw [← x1, ← y1, ← z1]; rfl
  rw [e]
  obtain ⟨zy, hz1, hz2⟩ := elems_bits' y
  obtain ⟨zz, hw1, hw2⟩ := elems_bits' z
  have hx0 : x.xs[0]? = some (x.xs[0]'(by omega)) := List.getElem?_eq_getElem _
  have hd : x.xs.getD 0 0 = x.xs[0]'(by omega) := getD_at (by omega)
  unfold rowsAV
  refine CW.start (N := 238) U.n45 rfl rfl ?_
  repeat' (first | (refine OS.do rfl ?_; first | refine OD.box rfl rfl rfl rfl (word_ok _) rfl (fun b4 => ?_) | refine OD.indexAddr rfl rfl rfl (indexAddrA_intS (k := 0) rfl rfl rfl rfl (by decide) x0) ?_ | refine OD.indexAddr rfl rfl rfl (indexAddrA_intS (k := 1) rfl rfl rfl rfl (by decide) y0) ?_ | refine OD.indexAddr rfl rfl rfl (indexAddrA_intS (k := 2) rfl rfl rfl rfl (by decide) z0) ?_ | refine OD.indexAddr rfl rfl rfl (indexAddrA_int (k := 0) rfl rfl rfl rfl (by decide) hx0) ?_ | refine OD.appendFull rfl rfl rfl rfl rfl rfl rfl rfl rfl rfl ⟨⟨_, rfl⟩, isStr_av⟩ hz1 (okBits rfl _) hz2 (by simpa using ne_of_len (l := y.xs) (by omega)) (roomB rfl (by simp only [List.length_map, List.length_nil]; omega)) (fun tk => ?_) | refine OD.appendFull rfl rfl rfl rfl rfl rfl rfl rfl rfl rfl ⟨⟨_, rfl⟩, isStr_av⟩ hw1 (okBits rfl _) hw2 (by simpa using ne_of_len (l := z.xs) (by omega)) (roomB rfl (by simp only [List.length_map, List.length_nil]; omega)) (fun tk => ?_) | refine OD.loadP 0 rfl rfl rfl rfl rfl rfl ?_ | refine OD.auto rfl rfl ?_) | refine OS.nil ?_ | refine WS.seq ?_ | refine QS.seqN ?_ | refine WS.region ?_ | refine WS.condT rfl ?_ | refine WS.condF rfl ?_ | refine WS.condE rfl (fun _ => ?_) (fun _ => ?_) | refine WS.skip ?_ | refine WS.block ?_ | refine WS.ret ?_ | refine QS.seqR ?_ | refine QS.blockR ?_)
  · rename_i hb
    have e1 : x.xs.getD 0 0 = 1 := by rw [hd]; exact UInt8.toNat_inj.1 (by show _ = 1; omega)
    rw [if_pos e1]
    exact QS.retR (by rfl) fun _ => Res.tok
  · rename_i hb
    have e1 : x.xs.getD 0 0 ≠ 1 := by rw [hd]; exact fun e => hb (by rw [e]; rfl)
    rw [if_neg e1]
    exact QS.retR (by rfl) fun _ => Res.tok
theorem run45_14 (U : U45 pr) (ln : Nat) (n : Int) (kids : GSl Int) (bits : GSl UInt8) (ks ins regs : GSl (GSl UInt8)) (hk : KidsOk 14 ln n (vals ks)) (st : St) :
    CW (En pr) 45 [wordAV ⟨14, ln, n, kids, bits⟩, rowsAV ks, rowsAV ins, rowsAV regs] st (Res (evalM 14 ln n bits.xs (vals ks))) := by
  have hsz := hk.size
  have hc := kidC hk
  have hj := hk.join rfl
  have e : evalM 14 ln n bits.xs (vals ks) = (vals ks).flatten := by rfl
  rw [e]
  have hvl := vals_len ks
  unfold rowsAV
  refine CW.start (N := 238) U.n45 rfl rfl ?_
  repeat' (first | (refine OS.do rfl ?_; first | refine OD.box rfl rfl rfl rfl (word_ok _) rfl (fun b4 => ?_) | refine OD.loadP 0 rfl rfl rfl rfl rfl rfl ?_ | refine OD.auto rfl rfl ?_ | refine OD.len rfl rfl (fun _ => lenTy_av rfl rfl) ?_) | refine OS.nil ?_ | refine WS.seq ?_ | refine QS.seqN ?_ | refine WS.region ?_ | refine WS.condT rfl ?_ | refine WS.condF rfl ?_ | refine WS.block ?_)
  refine WS.loop (D := Nat × Nat) (fun d => [(12, accA d.2 1 ((((vals ks).take d.1).flatten).map bitAV)), (146, ks.av 1 fun x => x.av 1 bitAV), (147, .int .i64 ks.xs.length), (148, .int .i64 d.1)]) (fun _ => []) (fun d => [(d.2, !((((vals ks).take d.1).flatten).map bitAV).isEmpty)])
    (fun d => d.1 ≤ ks.xs.length) (fun d => ks.xs.length + 1 - d.1) (0, 0) (by omega) ?_ (.nil _) (by repeat' (first | exact SubK.nil _ | exact SubK.refl _ | refine SubK.keep (by simp) ?_ | refine SubK.new ?_ | refine SubK.drop ?_)) ?_
  · repeat' (first | exact Sub.nil _ | refine Sub.cons (congrArg some (accA_nil _ _).symm) ?_ | refine Sub.cons (congrArg (fun z => some (AV.int .i64 z)) (wrap_succ (by omega))) ?_ | refine Sub.cons rfl ?_)
  rintro ⟨i, tk⟩ hi
  dsimp only at hi ⊢
  have hle := flat_le (vals ks) i
  have hle' := flat_le (vals ks) (i + 1)
  repeat' (first | (refine OS.do rfl ?_; first | refine OD.indexAddr rfl rfl rfl (indexAddrA_natS rfl rfl rfl rfl (by first | assumption | exact List.getElem?_eq_getElem (by omega))) ?_ | (obtain ⟨zz, e1, e2⟩ := elems_bits' (ks.xs[i]'(by omega)); have hfl := flat_len (ls := vals ks) (i := i) (by omega); have hva : ((vals ks)[i]'(by omega)) = (ks.xs[i]'(by omega)).xs := vals_get ks i (by omega); rw [hva] at hfl; refine OD.append 0 rfl rfl rfl rfl rfl rfl rfl rfl rfl rfl rfl (.inr ⟨⟨_, rfl⟩, isStr_av⟩) e1 (okBits rfl _) e2 (roomB rfl (by simp only [List.length_map]; omega)) (fun tk' => ?_)) | refine OD.auto rfl rfl ?_) | refine OS.nil ?_ | refine WS.seq ?_ | refine QS.seqN ?_ | refine WS.region ?_ | refine WS.condD rfl (fun _ => ?_) (fun _ => ?_) | refine WS.skip ?_ | refine WS.block ?_ | refine WS.ret ?_ | refine QS.seqR ?_ | refine QS.blockR ?_ | refine QS.blockN ?_ | refine WS.exit ?_ | refine QS.seqE ?_ | refine QS.blockH ?_ | refine QS.loopE ?_)
  · have hlt : i < (vals ks).length := by omega
    have hva : (vals ks)[i] = (ks.xs[i]'(by omega)).xs := vals_get ks i (by omega)
    have hA : (((vals ks).take (i + 1)).flatten).map bitAV = (((vals ks).take i).flatten).map bitAV ++ ((ks.xs[i]'(by omega)).xs).map bitAV := by
      rw [flat_succ hlt, List.map_append, hva]
    refine QS.loopN (i + 1, tk') ?_ ?_ ?_ ?_ ?_
    · dsimp only; omega
    · dsimp only; omega
    · repeat' (first | exact Sub.nil _ | refine Sub.cons (congrArg (fun z => some (accA tk' 1 z)) hA.symm) ?_ | refine Sub.cons (congrArg (fun z => some (AV.int .i64 z)) (wrap_succ (by omega))) ?_ | refine Sub.cons rfl ?_)
    · exact .nil _
    · dsimp only; rw [hA]; exact .refl _
  · rw [flatten_take (by omega)]
    exact QS.retR (by rfl) fun _ => Res.acc (ne_of_len (by omega))
theorem run45_15 (U : U45 pr) (ln : Nat) (n : Nat) (kids : GSl Int) (bits : GSl UInt8) (ks ins regs : GSl (GSl UInt8)) (hk : KidsOk 15 ln n (vals ks)) (st : St) :
    CW (En pr) 45 [wordAV ⟨15, ln, n, kids, bits⟩, rowsAV ks, rowsAV ins, rowsAV regs] st (Res (evalM 15 ln n bits.xs (vals ks))) := by
  have hsz := hk.size
  have hc := kid1 hk
  obtain ⟨x, x0, x1, x2, x3, x4⟩ := kid hk (i := 0) (by omega)
  have hp := hk.part rfl
  rw [x1] at hp
  have hl2 : ((x.xs.drop n).take ln).length = ln := by rw [List.length_take, List.length_drop]; omega
  obtain ⟨zz, hz1, hz2⟩ := elems_bits' (nz ((x.xs.drop n).take ln))
  have e2 : n + ln - n = ln := by omega
  have hsl := slice_lohi (E := En pr) (t := 51) (k1 := .i64) (k2 := .i64) (lo := n) (hi := n + ln) (x := x) (by omega) rfl rfl rfl rfl (by omega) (by omega)
  rw [e2] at hsl
  have e : evalM 15 ln n bits.xs (vals ks) = (x.xs.drop n).take ln := by rw [← x1]; rfl
  rw [e]
  unfold rowsAV
  refine CW.start (N := 238) U.n45 rfl rfl ?_
  repeat' (first | (refine OS.do rfl ?_; first | refine OD.box rfl rfl rfl rfl (word_ok _) rfl (fun b4 => ?_) | refine OD.indexAddr rfl rfl rfl (indexAddrA_intS (k := 0) rfl rfl rfl rfl (by decide) x0) ?_ | refine OD.bin (v := .int .i64 ((n + ln : Nat) : Int)) rfl rfl rfl (congrArg (fun z => some (AV.int .i64 z)) ((int_wrap (n := (n : Int) + ln) (by omega) (by omega)).trans (by omega))) ?_ | refine OD.slice rfl rfl rfl rfl rfl hsl ?_ | refine OD.appendFull rfl rfl rfl rfl rfl rfl rfl rfl rfl rfl ⟨⟨_, rfl⟩, isStr_av⟩ hz1 (okBits rfl _) hz2 (by have h9 := ne_of_len (l := (x.xs.drop n).take ln) (by omega); intro h8; exact h9 (List.map_eq_nil_iff.1 h8)) (roomB rfl (by simp only [List.length_map, List.length_nil, nz]; omega)) (fun tk => ?_) | refine OD.loadP 0 rfl rfl rfl rfl rfl rfl ?_ | refine OD.auto rfl rfl ?_) | refine OS.nil ?_ | refine WS.seq ?_ | refine QS.seqN ?_ | refine WS.region ?_ | refine WS.condT rfl ?_ | refine WS.condF rfl ?_ | refine WS.block ?_ | refine WS.ret ?_ | refine QS.seqR ?_ | refine QS.blockR ?_ | refine WS.draw rfl rfl ?_)
  exact QS.retR (by rfl) fun _ => Res.tok
theorem run45_16 (U : U45 pr) (ln : Nat) (n : Int) (kids : GSl Int) (bits : GSl UInt8) (ks ins regs : GSl (GSl UInt8)) (hk : KidsOk 16 ln n (vals ks)) (st : St) :
    CW (En pr) 45 [wordAV ⟨16, ln, n, kids, bits⟩, rowsAV ks, rowsAV ins, rowsAV regs] st (Res (evalM 16 ln n bits.xs (vals ks))) := by
  have hsz := hk.size
  obtain ⟨p61, h61, u61⟩ := U.u61
  obtain ⟨p64, h64, u64⟩ := U.u64
  have hc := kid2 hk (by omega)
  obtain ⟨x, x0, x1, x2, x3, x4⟩ := kid hk (i := 0) (by omega)
  obtain ⟨y, y0, y1, y2, y3, y4⟩ := kid hk (i := 1) (by omega)
  have hs := hk.shift (.inl rfl)
  rw [x1, y1] at hs
  obtain ⟨lx, ly⟩ := hs
  have hnl := numM_take_lt y2 (by omega) y.xs.length
  rw [List.take_of_length_le (Nat.le_refl _)] at hnl
  have e : evalM 16 ln n bits.xs (vals ks) = leftM x.xs (numM y.xs) := by rw [← x1, ← y1]; rfl
  rw [e]
  unfold rowsAV
  refine CW.start (N := 238) U.n45 rfl rfl ?_
  repeat' (first | (refine OS.do rfl ?_; first | refine OD.box rfl rfl rfl rfl (word_ok _) rfl (fun b4 => ?_) | refine OD.loadP 0 rfl rfl rfl rfl rfl rfl ?_ | refine OD.auto rfl rfl ?_) | refine OS.nil ?_ | refine WS.seq ?_ | refine QS.seqN ?_ | refine WS.region ?_ | refine WS.condT rfl ?_ | refine WS.condF rfl ?_ | refine WS.block ?_)
  refine WS.drawQK 7 (by rfl) (by rfl) (by rfl) (by rfl) ?_
  (repeat' (first | refine SegK.nil ?_ | refine SegK.auto rfl rfl rfl rfl ?_ | refine SegK.indexAddr rfl rfl rfl rfl (indexAddrA_intS (k := 0) rfl rfl rfl rfl (by decide) x0) ?_ | refine SegK.indexAddr rfl rfl rfl rfl (indexAddrA_intS (k := 1) rfl rfl rfl rfl (by decide) y0) ?_ | refine SegK.call rfl rfl rfl h64 (fun st => u64 y st (by omega) y2) (fun _ => rfl) ?_))
  repeat' (first | (refine OS.do rfl ?_; first | refine OD.call rfl rfl rfl h61 (fun st => u61 x _ st (by omega) (by omega)) av_frz ?_ | refine OD.auto rfl rfl ?_) | refine OS.nil ?_ | refine QS.seqN ?_ | refine WS.ret ?_ | refine QS.seqR ?_ | refine QS.blockR ?_)
  exact QS.retR (by rfl) fun _ => Res.nz
theorem run45_17 (U : U45 pr) (ln : Nat) (n : Int) (kids : GSl Int) (bits : GSl UInt8) (ks ins regs : GSl (GSl UInt8)) (hk : KidsOk 17 ln n (vals ks)) (st : St) :
    CW (En pr) 45 [wordAV ⟨17, ln, n, kids, bits⟩, rowsAV ks, rowsAV ins, rowsAV regs] st (Res (evalM 17 ln n bits.xs (vals ks))) := by
  have hsz := hk.size
  obtain ⟨p61, h61, u61⟩ := U.u61
  obtain ⟨p64, h64, u64⟩ := U.u64
  have hc := kid2 hk (by omega)
  obtain ⟨x, x0, x1, x2, x3, x4⟩ := kid hk (i := 0) (by omega)
  obtain ⟨y, y0, y1, y2, y3, y4⟩ := kid hk (i := 1) (by omega)
  have hs := hk.shift (.inr rfl)
  rw [x1, y1] at hs
  obtain ⟨lx, ly⟩ := hs
  have hnl := numM_take_lt y2 (by omega) y.xs.length
  rw [List.take_of_length_le (Nat.le_refl _)] at hnl
  have e : evalM 17 ln n bits.xs (vals ks) = leftM x.xs (-(numM y.xs : Int)) := by rw [← x1, ← y1]; rfl
  rw [e]
  unfold rowsAV
  refine CW.start (N := 238) U.n45 rfl rfl ?_
  repeat' (first | (refine OS.do rfl ?_; first | refine OD.box rfl rfl rfl rfl (word_ok _) rfl (fun b4 => ?_) | refine OD.loadP 0 rfl rfl rfl rfl rfl rfl ?_ | refine OD.auto rfl rfl ?_) | refine OS.nil ?_ | refine WS.seq ?_ | refine QS.seqN ?_ | refine WS.region ?_ | refine WS.condT rfl ?_ | refine WS.condF rfl ?_ | refine WS.block ?_)
  refine WS.drawQK 7 (by rfl) (by rfl) (by rfl) (by rfl) ?_
  (repeat' (first | refine SegK.nil ?_ | refine SegK.auto rfl rfl rfl rfl ?_ | refine SegK.indexAddr rfl rfl rfl rfl (indexAddrA_intS (k := 0) rfl rfl rfl rfl (by decide) x0) ?_ | refine SegK.indexAddr rfl rfl rfl rfl (indexAddrA_intS (k := 1) rfl rfl rfl rfl (by decide) y0) ?_ | refine SegK.call rfl rfl rfl h64 (fun st => u64 y st (by omega) y2) (fun _ => rfl) ?_))
  repeat' (first | (refine OS.do rfl ?_; first | refine OD.un (v := .int .i64 (-(numM y.xs : Int))) rfl rfl (congrArg (fun z => some (AV.int .i64 z)) ((int_wrap (n := 0 - (numM y.xs : Int)) (by omega) (by omega)).trans (by omega))) ?_ | refine OD.call rfl rfl rfl h61 (fun st => u61 x _ st (by omega) (by omega)) av_frz ?_ | refine OD.auto rfl rfl ?_) | refine OS.nil ?_ | refine QS.seqN ?_ | refine WS.ret ?_ | refine QS.seqR ?_ | refine QS.blockR ?_)
  exact QS.retR (by rfl) fun _ => Res.nz
theorem run45_5 (U : U45 pr) (ln : Nat) (n : Int) (kids : GSl Int) (bits : GSl UInt8) (ks ins regs : GSl (GSl UInt8)) (hk : KidsOk 5 ln n (vals ks)) (st : St) :
    CW (En pr) 45 [wordAV ⟨5, ln, n, kids, bits⟩, rowsAV ks, rowsAV ins, rowsAV regs] st (Res (evalM 5 ln n bits.xs (vals ks))) := by
  have hsz := hk.size
  have hc := kid2 hk (by omega)
  obtain ⟨x, x0, x1, x2, x3, x4⟩ := kid hk (i := 0) (by omega)
  obtain ⟨y, y0, y1, y2, y3, y4⟩ := kid hk (i := 1) (by omega)
  have lx := same_kid hk (by omega) x0
  have ly := same_kid hk (by omega) y0
  have e : evalM 5 ln n bits.xs (vals ks) = List.zipWith (bitM 5) x.xs y.xs := by rw [← x1, ← y1]; rfl
  rw [e]
  have hm : (List.zipWith (bitM 5) x.xs y.xs).length = ln := by rw [List.length_zipWith]; omega
  generalize hmd : List.zipWith (bitM 5) x.xs y.xs = m at hm ⊢
  unfold rowsAV
  refine CW.start (N := 238) U.n45 rfl rfl ?_
  repeat' (first | (refine OS.do rfl ?_; first | refine OD.box rfl rfl rfl rfl (word_ok _) rfl (fun b4 => ?_) | refine OD.indexAddr rfl rfl rfl (indexAddrA_intS (k := 0) rfl rfl rfl rfl (by decide) x0) ?_ | refine OD.loadP 0 rfl rfl rfl rfl rfl rfl ?_ | refine OD.auto rfl rfl ?_ | refine OD.len rfl rfl (fun _ => lenTy_av rfl rfl) ?_) | refine OS.nil ?_ | refine WS.seq ?_ | refine QS.seqN ?_ | refine WS.region ?_ | refine WS.condF rfl ?_ | refine WS.skip ?_ | refine WS.block ?_ | refine QS.blockN ?_)
  refine WS.loop (D := Nat × Nat) (fun d => [(1, ks.av 1 fun x => x.av 1 bitAV), (4, .ptr b4 0 0), (15, accA d.2 1 ((m.take d.1).map bitAV)), (196, .int .i64 x.xs.length), (197, .int .i64 d.1)]) (fun _ => [(b4, .row 5 [wordAV ⟨5, ln, n, kids, bits⟩])]) (fun d => [(d.2, !((m.take d.1).map bitAV).isEmpty)])
    (fun d => d.1 ≤ ln) (fun d => ln + 1 - d.1) (0, 0) (by omega) ?_ (.refl _) (by repeat' (first | exact SubK.nil _ | exact SubK.refl _ | refine SubK.keep (by simp) ?_ | refine SubK.new ?_ | refine SubK.drop ?_)) ?_
  · repeat' (first | exact Sub.nil _ | refine Sub.cons (congrArg some (accA_nil _ _).symm) ?_ | refine Sub.cons (congrArg (fun z => some (AV.int .i64 z)) (wrap_succ (by omega))) ?_ | refine Sub.cons rfl ?_)
  rintro ⟨i, tk⟩ hi
  dsimp only at hi ⊢
  repeat' (first | (refine OS.do rfl ?_; first | refine OD.indexAddr rfl rfl rfl (indexAddrA_intS (k := 0) rfl rfl rfl rfl (by decide) x0) ?_ | refine OD.indexAddr rfl rfl rfl (indexAddrA_intS (k := 1) rfl rfl rfl rfl (by decide) y0) ?_ | refine OD.loadP 0 rfl rfl rfl rfl rfl rfl ?_ | refine OD.auto rfl rfl ?_ | refine OD.indexAddr rfl rfl rfl (indexAddrA_nat rfl rfl rfl rfl (by first | assumption | exact List.getElem?_eq_getElem (by omega))) ?_ | refine OD.append 0 rfl rfl rfl rfl rfl rfl rfl rfl rfl rfl rfl (.inr ⟨⟨_, rfl⟩, rfl⟩) (fun _ => rfl) rfl rfl (roomB rfl (by simp only [List.length_map, List.length_take, List.length_cons, List.length_nil]; omega)) (fun tk' => ?_)) | refine OS.nil ?_ | refine WS.seq ?_ | refine QS.seqN ?_ | refine WS.region ?_ | refine WS.condT rfl ?_ | refine WS.condD rfl (fun _ => ?_) (fun _ => ?_) | refine WS.skip ?_ | refine WS.block ?_ | refine WS.ret ?_ | refine QS.blockN ?_ | refine WS.exit ?_ | refine QS.seqE ?_ | refine QS.blockH ?_ | refine QS.loopE ?_ | refine WS.draw rfl rfl ?_)
  · have hlt : i < m.length := by omega
    have hA : (m.take (i + 1)).map bitAV = (m.take i).map bitAV ++ [AV.int .u8 (IntKind.u8.wrap ((BitVec.ofInt IntKind.u8.bits ((x.xs[i]'(by omega)).toNat : Int) &&& BitVec.ofInt IntKind.u8.bits ((y.xs[i]'(by omega)).toNat : Int)).toNat : Int))] := by
      rw [List.take_succ_eq_append_getElem hlt, List.map_append, u8_and]
      subst hmd
      rw [List.getElem_zipWith]; rfl
    refine QS.loopN (i + 1, tk') ?_ ?_ ?_ ?_ ?_
    · dsimp only; omega
    · dsimp only; omega
    · repeat' (first | exact Sub.nil _ | refine Sub.cons (congrArg (fun z => some (accA tk' 1 z)) hA.symm) ?_ | refine Sub.cons (congrArg (fun z => some (AV.int .i64 z)) (wrap_succ (by omega))) ?_ | refine Sub.cons rfl ?_)
    · exact .refl _
    · exact SubK.keep (fun _ => by simp) (.refl _)
  · rw [List.take_of_length_le (by omega)]
    exact QS.retR (by rfl) fun _ => Res.acc (ne_of_len (by omega))
theorem run45_6 (U : U45 pr) (ln : Nat) (n : Int) (kids : GSl Int) (bits : GSl UInt8) (ks ins regs : GSl (GSl UInt8)) (hk : KidsOk 6 ln n (vals ks)) (st : St) :
    CW (En pr) 45 [wordAV ⟨6, ln, n, kids, bits⟩, rowsAV ks, rowsAV ins, rowsAV regs] st (Res (evalM 6 ln n bits.xs (vals ks))) := by
  have hsz := hk.size
  have hc := kid2 hk (by omega)
  obtain ⟨x, x0, x1, x2, x3, x4⟩ := kid hk (i := 0) (by omega)
  obtain ⟨y, y0, y1, y2, y3, y4⟩ := kid hk (i := 1) (by omega)
  have lx := same_kid hk (by omega) x0
  have ly := same_kid hk (by omega) y0
  have e : evalM 6 ln n bits.xs (vals ks) = List.zipWith (bitM 6) x.xs y.xs := by rw [← x1, ← y1]; rfl
  rw [e]
  have hm : (List.zipWith (bitM 6) x.xs y.xs).length = ln := by rw [List.length_zipWith]; omega
  generalize hmd : List.zipWith (bitM 6) x.xs y.xs = m at hm ⊢
  unfold rowsAV
  refine CW.start (N := 238) U.n45 rfl rfl ?_
  repeat' (first | (refine OS.do rfl ?_; first | refine OD.box rfl rfl rfl rfl (word_ok _) rfl (fun b4 => ?_) | refine OD.indexAddr rfl rfl rfl (indexAddrA_intS (k := 0) rfl rfl rfl rfl (by decide) x0) ?_ | refine OD.loadP 0 rfl rfl rfl rfl rfl rfl ?_ | refine OD.auto rfl rfl ?_ | refine OD.len rfl rfl (fun _ => lenTy_av rfl rfl) ?_) | refine OS.nil ?_ | refine WS.seq ?_ | refine QS.seqN ?_ | refine WS.region ?_ | refine WS.condF rfl ?_ | refine WS.skip ?_ | refine WS.block ?_ | refine QS.blockN ?_)
  refine WS.loop (D := Nat × Nat) (fun d => [(1, ks.av 1 fun x => x.av 1 bitAV), (4, .ptr b4 0 0), (15, accA d.2 1 ((m.take d.1).map bitAV)), (196, .int .i64 x.xs.length), (197, .int .i64 d.1)]) (fun _ => [(b4, .row 5 [wordAV ⟨6, ln, n, kids, bits⟩])]) (fun d => [(d.2, !((m.take d.1).map bitAV).isEmpty)])
    (fun d => d.1 ≤ ln) (fun d => ln + 1 - d.1) (0, 0) (by omega) ?_ (.refl _) (by repeat' (first | exact SubK.nil _ | exact SubK.refl _ | refine SubK.keep (by simp) ?_ | refine SubK.new ?_ | refine SubK.drop ?_)) ?_
  · repeat' (first | exact Sub.nil _ | refine Sub.cons (congrArg some (accA_nil _ _).symm) ?_ | refine Sub.cons (congrArg (fun z => some (AV.int .i64 z)) (wrap_succ (by omega))) ?_ | refine Sub.cons rfl ?_)
  rintro ⟨i, tk⟩ hi
  dsimp only at hi ⊢
  repeat' (first | (refine OS.do rfl ?_; first | refine OD.indexAddr rfl rfl rfl (indexAddrA_intS (k := 0) rfl rfl rfl rfl (by decide) x0) ?_ | refine OD.indexAddr rfl rfl rfl (indexAddrA_intS (k := 1) rfl rfl rfl rfl (by decide) y0) ?_ | refine OD.loadP 0 rfl rfl rfl rfl rfl rfl ?_ | refine OD.auto rfl rfl ?_ | refine OD.indexAddr rfl rfl rfl (indexAddrA_nat rfl rfl rfl rfl (by first | assumption | exact List.getElem?_eq_getElem (by omega))) ?_ | refine OD.append 0 rfl rfl rfl rfl rfl rfl rfl rfl rfl rfl rfl (.inr ⟨⟨_, rfl⟩, rfl⟩) (fun _ => rfl) rfl rfl (roomB rfl (by simp only [List.length_map, List.length_take, List.length_cons, List.length_nil]; omega)) (fun tk' => ?_)) | refine OS.nil ?_ | refine WS.seq ?_ | refine QS.seqN ?_ | refine WS.region ?_ | refine WS.condT rfl ?_ | refine WS.condF rfl ?_ | refine WS.condD rfl (fun _ => ?_) (fun _ => ?_) | refine WS.skip ?_ | refine WS.block ?_ | refine WS.ret ?_ | refine QS.blockN ?_ | refine WS.exit ?_ | refine QS.seqE ?_ | refine QS.blockH ?_ | refine QS.loopE ?_ | refine WS.draw rfl rfl ?_)
  · have hlt : i < m.length := by omega
    have hA : (m.take (i + 1)).map bitAV = (m.take i).map bitAV ++ [AV.int .u8 (IntKind.u8.wrap ((BitVec.ofInt IntKind.u8.bits ((x.xs[i]'(by omega)).toNat : Int) ||| BitVec.ofInt IntKind.u8.bits ((y.xs[i]'(by omega)).toNat : Int)).toNat : Int))] := by
      rw [List.take_succ_eq_append_getElem hlt, List.map_append, u8_or]
      subst hmd
      rw [List.getElem_zipWith]; rfl
    refine QS.loopN (i + 1, tk') ?_ ?_ ?_ ?_ ?_
    · dsimp only; omega
    · dsimp only; omega
    · repeat' (first | exact Sub.nil _ | refine Sub.cons (congrArg (fun z => some (accA tk' 1 z)) hA.symm) ?_ | refine Sub.cons (congrArg (fun z => some (AV.int .i64 z)) (wrap_succ (by omega))) ?_ | refine Sub.cons rfl ?_)
    · exact .refl _
    · exact SubK.keep (fun _ => by simp) (.refl _)
  · rw [List.take_of_length_le (by omega)]
    exact QS.retR (by rfl) fun _ => Res.acc (ne_of_len (by omega))
theorem run45_7 (U : U45 pr) (ln : Nat) (n : Int) (kids : GSl Int) (bits : GSl UInt8) (ks ins regs : GSl (GSl UInt8)) (hk : KidsOk 7 ln n (vals ks)) (st : St) :
    CW (En pr) 45 [wordAV ⟨7, ln, n, kids, bits⟩, rowsAV ks, rowsAV ins, rowsAV regs] st (Res (evalM 7 ln n bits.xs (vals ks))) := by
  have hsz := hk.size
  have hc := kid2 hk (by omega)
  obtain ⟨x, x0, x1, x2, x3, x4⟩ := kid hk (i := 0) (by omega)
  obtain ⟨y, y0, y1, y2, y3, y4⟩ := kid hk (i := 1) (by omega)
  have lx := same_kid hk (by omega) x0
  have ly := same_kid hk (by omega) y0
  have e : evalM 7 ln n bits.xs (vals ks) = List.zipWith (bitM 7) x.xs y.xs := by rw [← x1, ← y1]; rfl
  rw [e]
  have hm : (List.zipWith (bitM 7) x.xs y.xs).length = ln := by rw [List.length_zipWith]; omega
  generalize hmd : List.zipWith (bitM 7) x.xs y.xs = m at hm ⊢
  unfold rowsAV
  refine CW.start (N := 238) U.n45 rfl rfl ?_
  repeat' (first | (refine OS.do rfl ?_; first | refine OD.box rfl rfl rfl rfl (word_ok _) rfl (fun b4 => ?_) | refine OD.indexAddr rfl rfl rfl (indexAddrA_intS (k := 0) rfl rfl rfl rfl (by decide) x0) ?_ | refine OD.loadP 0 rfl rfl rfl rfl rfl rfl ?_ | refine OD.auto rfl rfl ?_ | refine OD.len rfl rfl (fun _ => lenTy_av rfl rfl) ?_) | refine OS.nil ?_ | refine WS.seq ?_ | refine QS.seqN ?_ | refine WS.region ?_ | refine WS.condF rfl ?_ | refine WS.skip ?_ | refine WS.block ?_ | refine QS.blockN ?_)
  refine WS.loop (D := Nat × Nat) (fun d => [(1, ks.av 1 fun x => x.av 1 bitAV), (4, .ptr b4 0 0), (15, accA d.2 1 ((m.take d.1).map bitAV)), (196, .int .i64 x.xs.length), (197, .int .i64 d.1)]) (fun _ => [(b4, .row 5 [wordAV ⟨7, ln, n, kids, bits⟩])]) (fun d => [(d.2, !((m.take d.1).map bitAV).isEmpty)])
    (fun d => d.1 ≤ ln) (fun d => ln + 1 - d.1) (0, 0) (by omega) ?_ (.refl _) (by repeat' (first | exact SubK.nil _ | exact SubK.refl _ | refine SubK.keep (by simp) ?_ | refine SubK.new ?_ | refine SubK.drop ?_)) ?_
  · repeat' (first | exact Sub.nil _ | refine Sub.cons (congrArg some (accA_nil _ _).symm) ?_ | refine Sub.cons (congrArg (fun z => some (AV.int .i64 z)) (wrap_succ (by omega))) ?_ | refine Sub.cons rfl ?_)
  rintro ⟨i, tk⟩ hi
  dsimp only at hi ⊢
  repeat' (first | (refine OS.do rfl ?_; first | refine OD.indexAddr rfl rfl rfl (indexAddrA_intS (k := 0) rfl rfl rfl rfl (by decide) x0) ?_ | refine OD.indexAddr rfl rfl rfl (indexAddrA_intS (k := 1) rfl rfl rfl rfl (by decide) y0) ?_ | refine OD.loadP 0 rfl rfl rfl rfl rfl rfl ?_ | refine OD.auto rfl rfl ?_ | refine OD.indexAddr rfl rfl rfl (indexAddrA_nat rfl rfl rfl rfl (by first | assumption | exact List.getElem?_eq_getElem (by omega))) ?_ | refine OD.append 0 rfl rfl rfl rfl rfl rfl rfl rfl rfl rfl rfl (.inr ⟨⟨_, rfl⟩, rfl⟩) (fun _ => rfl) rfl rfl (roomB rfl (by simp only [List.length_map, List.length_take, List.length_cons, List.length_nil]; omega)) (fun tk' => ?_)) | refine OS.nil ?_ | refine WS.seq ?_ | refine QS.seqN ?_ | refine WS.region ?_ | refine WS.condF rfl ?_ | refine WS.condD rfl (fun _ => ?_) (fun _ => ?_) | refine WS.skip ?_ | refine WS.block ?_ | refine WS.ret ?_ | refine QS.blockN ?_ | refine WS.exit ?_ | refine QS.seqE ?_ | refine QS.blockH ?_ | refine QS.loopE ?_ | refine WS.draw rfl rfl ?_)
  · have hlt : i < m.length := by omega
    have hA : (m.take (i + 1)).map bitAV = (m.take i).map bitAV ++ [AV.int .u8 (IntKind.u8.wrap ((BitVec.ofInt IntKind.u8.bits ((x.xs[i]'(by omega)).toNat : Int) ^^^ BitVec.ofInt IntKind.u8.bits ((y.xs[i]'(by omega)).toNat : Int)).toNat : Int))] := by
      rw [List.take_succ_eq_append_getElem hlt, List.map_append, u8_xor]
      subst hmd
      rw [List.getElem_zipWith]; rfl
    refine QS.loopN (i + 1, tk') ?_ ?_ ?_ ?_ ?_
    · dsimp only; omega
    · dsimp only; omega
    · repeat' (first | exact Sub.nil _ | refine Sub.cons (congrArg (fun z => some (accA tk' 1 z)) hA.symm) ?_ | refine Sub.cons (congrArg (fun z => some (AV.int .i64 z)) (wrap_succ (by omega))) ?_ | refine Sub.cons rfl ?_)
    · exact .refl _
    · exact SubK.keep (fun _ => by simp) (.refl _)
  · rw [List.take_of_length_le (by omega)]
    exact QS.retR (by rfl) fun _ => Res.acc (ne_of_len (by omega))
end
end Go.RtlEnv
