/- Own text of this claim: part 16 of an interpreter that is proved sound against the model, and of what it shows of the law. -/
import Derived.Test.YtnipphfkiikbdaaDoorAbs15
import Derived.Test.YtnipphfkiikbdaaDoorAbs6b
/- Sums of what can be read, wherever it lies. -/
namespace Go.RtlEnv
open Go Go.Proofs Go.Abs Go.RowKit
set_option maxRecDepth 10000
/-- Bits that can be read. -/
structure Rd (E : Env) (L : List (Nat × AObj)) (K : List (Nat × Bool)) (A : AV) (x : List UInt8) : Prop where
  len : ∀ st, lenTy E st 51 A = some (.int .i64 (x.length : Int))
  at' : ∀ (i : Nat) (h : i < x.length), ∃ p, indexAddrA E 51 A (.int .i64 (i : Int)) = some p ∧ ∀ st, SFa L K st → ∃ cs, Abs.loadCells st p = some cs ∧ partA E 60 cs 0 = some (bitAV x[i])
theorem Rd.vs {pr : Prims} {L : List (Nat × AObj)} {K : List (Nat × Bool)} {own : Own} (l : List UInt8) : Rd (En pr) L K (.vs 1 own (l.map bitAV)) l :=
  ⟨fun st => by
    show some (AV.int .i64 (((l.map bitAV).length : Nat) : Int)) = _
    rw [List.length_map], fun i h => by
    refine ⟨.ip (bitAV l[i]).cells, ?_, fun st _ => ⟨_, rfl, rfl⟩⟩
    show elemAddrA 1 (.vs 1 own (l.map bitAV)) (i : Int) = _
    simp [elemAddrA, h]⟩
theorem Rd.av {pr : Prims} {L : List (Nat × AObj)} {K : List (Nat × Bool)} (s : GSl UInt8) : Rd (En pr) L K (s.av 1 bitAV) s.xs :=
  ⟨fun st => lenTy_av rfl rfl, fun i h => ⟨_, indexAddrA_nat rfl rfl rfl rfl (List.getElem?_eq_getElem h), fun st _ => ⟨_, rfl, rfl⟩⟩⟩
theorem Rd.sl {pr : Prims} {L : List (Nat × AObj)} {K : List (Nat × Bool)} {b k n : Nat} {l : List UInt8} (hL : L[k]? = some (b, .row 1 (l.map bitAV))) (hn : l.length = n) : Rd (En pr) L K (.sl 1 b 0 n) l :=
  ⟨fun st => by rw [hn]; rfl, fun i h => by
    refine ⟨.ptr b i 0, indexAddrA_sl rfl rfl rfl rfl (by omega), fun st hS => ⟨(bitAV l[i]).cells.drop 0, ?_, rfl⟩⟩
    simp only [Abs.loadCells, (hS.obj k b _ hL).1, row_get h]
    rfl⟩
theorem Rd.tail {E : Env} {L : List (Nat × AObj)} {K : List (Nat × Bool)} {A : AV} {x : List UInt8} (h : Rd E L K A x) (p : Nat × AObj) : Rd E (p :: L) K A x :=
  ⟨h.len, fun i hi => by obtain ⟨q, h1, h2⟩ := h.at' i hi; exact ⟨q, h1, fun st hS => h2 st hS.tail⟩⟩
attribute [local irreducible] WS QS OS OD Abs.Sub SubO SubK CW GSl.av accA
section
variable {pr : Prims}
set_option maxHeartbeats 1000000 in
theorem run73g (h1 : pr 73 = none) (A B : AV) (x y : List UInt8) (c0 : UInt8) (hs : x.length ≤ 1000000) (hy : y.length = x.length) {L : List (Nat × AObj)} {K : List (Nat × Bool)} (hA : Rd (En pr) L K A x) (hB : Rd (En pr) L K B y) {st : St} (hS : SFa L K st) :
    CW (En pr) 73 [A, B, bitAV c0] st fun r st' => ∃ b, r = .sl 1 b 0 x.length ∧ SFa ((b, .row 1 ((addM x y c0).map bitAV)) :: L) K st' := by
  have hl := addM_len x y c0 hy.symm
  refine CW.startS (N := 38) h1 rfl rfl hS ?_
  repeat' (first | (refine OS.do rfl ?_; first | refine OD.len rfl rfl hA.len ?_ | refine OD.auto rfl rfl ?_ | refine OD.makeSlice rfl rfl rfl rfl rfl rfl rfl rfl (roomB rfl (by omega)) (fun b3 => ?_)) | refine OS.nil ?_ | refine WS.seq ?_ | refine QS.seqN ?_ | refine WS.region ?_ | refine WS.block ?_)
  refine WS.loop (D := Nat × UInt8 × List UInt8 × List UInt8) (fun d => [(0, A), (1, B), (2, bitAV d.2.1), (7, .sl 1 b3 0 x.length), (14, .int .i64 x.length), (15, .int .i64 d.1)]) (fun d => (b3, .row 1 ((d.2.2.1 ++ d.2.2.2).map bitAV)) :: L) (fun _ => K)
    (fun d => d.1 ≤ x.length ∧ d.2.2.1.length = d.1 ∧ d.2.2.1.length + d.2.2.2.length = x.length ∧ d.2.2.1 ++ addM (x.drop d.1) (y.drop d.1) d.2.1 = addM x y c0) (fun d => x.length + 1 - d.1) (0, c0, [], List.replicate x.length 0) ⟨by omega, rfl, by simp, by simp⟩ ?_ ?_ (.refl _) ?_
  · repeat' (first | exact Sub.nil _ | refine Sub.cons (congrArg (fun z => some (AV.int .i64 z)) (wrap_succ (by omega))) ?_ | refine Sub.cons rfl ?_)
  · dsimp only; rw [List.nil_append, List.map_replicate]; exact .refl _
  rintro ⟨i, c, done, rest⟩ ⟨hi, hd, hr, ha⟩
  dsimp only at hi hd hr ha ⊢
  have hm : (done ++ rest).length = x.length := by simp; omega
  repeat' (first | (refine OS.do rfl ?_; first | (obtain ⟨p, e1, e2⟩ := hA.at' i (by omega); refine OD.indexAddr rfl rfl rfl e1 ?_; refine OS.do rfl ?_; refine OD.loadG rfl rfl (fun st hS => e2 st hS.tail) ?_) | (obtain ⟨p, e1, e2⟩ := hB.at' i (by omega); refine OD.indexAddr rfl rfl rfl e1 ?_; refine OS.do rfl ?_; refine OD.loadG rfl rfl (fun st hS => e2 st hS.tail) ?_) | refine OD.auto rfl rfl ?_ | refine OD.indexAddr rfl rfl rfl (indexAddrA_sl rfl rfl rfl rfl (by omega)) ?_ | refine OD.storeI 0 rfl rfl rfl rfl rfl (row_get (by omega)) ?_) | refine OS.nil ?_ | refine WS.seq ?_ | refine QS.seqN ?_ | refine WS.region ?_ | refine WS.condD rfl (fun _ => ?_) (fun _ => ?_) | refine WS.skip ?_ | refine WS.block ?_ | refine WS.ret ?_ | refine QS.blockN ?_ | refine WS.exit ?_ | refine QS.seqE ?_ | refine QS.blockH ?_ | refine QS.loopE ?_ | refine WS.draw rfl rfl ?_)
  all_goals try (have hlt : i < x.length := by omega
                 have hlt' : i < y.length := by omega
                 refine QS.loopN (i + 1, (x[i] + y[i] + c) / 2, done ++ [(x[i] + y[i] + c) % 2], rest.tail) ?_ ?_ ?_ ?_ ?_
                 · refine ⟨by dsimp only; omega, by simp [hd], by simp; omega, ?_⟩
                   dsimp only
                   rw [← ha, addM_drop hlt hlt']; simp
                 · dsimp only; omega
                 · have hC : (IntKind.u8.wrap (IntKind.u8.wrap ((x[i].toNat : Int) + (y[i].toNat : Int)) + (c.toNat : Int))).fdiv (2 ^ min (Int.toNat 1) IntKind.u8.bits) = (((x[i] + y[i] + c) / 2).toNat : Int) := by
                     rw [u8_sum, show (2 : Int) ^ min (Int.toNat 1) IntKind.u8.bits = 2 from rfl, u8_shr1]
                   repeat' (first | exact Sub.nil _ | refine Sub.cons (congrArg (fun z => some (AV.int .u8 z)) hC) ?_ | refine Sub.cons (congrArg (fun z => some (AV.int .i64 z)) (wrap_succ (by omega))) ?_ | refine Sub.cons rfl ?_)
                 · have hM : ((done ++ rest).map bitAV).set i (.int .u8 (IntKind.u8.wrap ((BitVec.ofInt IntKind.u8.bits (IntKind.u8.wrap (IntKind.u8.wrap ((x[i].toNat : Int) + (y[i].toNat : Int)) + (c.toNat : Int))) &&& BitVec.ofInt IntKind.u8.bits 1).toNat : Int))) = ((done ++ [(x[i] + y[i] + c) % 2]) ++ rest.tail).map bitAV := by
                     rw [u8_sum, u8_and1, ← set_mid hd (by omega), List.map_set]; rfl
                   dsimp only
                   rw [← hM]; exact .refl _
                 · exact .refl _)
  refine QS.retRS (by rfl) fun st hS => ⟨b3, rfl, ?_⟩
  have hT : done ++ rest = addM x y c0 := by
    rw [← ha, List.drop_eq_nil_of_le (by omega), List.length_eq_zero_iff.1 (show rest.length = 0 by omega)]
    simp [addM]
  rw [← hT]
  exact hS
end
end Go.RtlEnv

/- words.Value: each operation. -/
namespace Go.RtlEnv
open Go Go.Proofs Go.Abs Go.RowKit
set_option maxRecDepth 10000
structure U58 (pr : Prims) : Prop where
  n58 : pr 58 = none
  n73 : pr 73 = none
  n74 : pr 74 = none
  n80 : pr 80 = none
  u46 : ∃ p, pr 46 = some p ∧ ∀ (s : GSl UInt8) st, s.xs ≠ [] → s.xs.length ≤ 1000000 → p [s.av 1 bitAV] st = some ((nz s.xs).av 1 bitAV, st)
  u72 : ∃ p, pr 72 = some p ∧ ∀ (s : GSl UInt8) st, s.xs.length ≤ 1000000 → p [s.av 1 bitAV] st = some ((nz (invM s.xs)).av 1 bitAV, st)
  u75 : ∃ p, pr 75 = some p ∧ ∀ b st, p [.bool b] st = some ((nz (oneM b)).av 1 bitAV, st)
  u76 : ∃ p, pr 76 = some p ∧ ∀ (s t : GSl UInt8) st, s.xs.length ≤ 1000000 → p [s.av 1 bitAV, t.av 1 bitAV] st = some (.bool (decide (s.xs = t.xs)), st)
  u77 : ∃ p, pr 77 = some p ∧ ∀ (s : GSl UInt8) st, s.xs.length ≤ 31 → upto 1 s.xs = true → p [s.av 1 bitAV] st = some (.int .i64 (numM s.xs : Int), st)
theorem kid {op len n : Int} {ks : GSl (GSl UInt8)} (hk : KidsOk op len n (vals ks)) {i : Nat} (h : i < ks.xs.length) : ∃ x, ks.xs[i]? = some x ∧ kd (vals ks) i = x.xs ∧ upto 1 x.xs = true ∧ 1 ≤ x.xs.length ∧ x.xs.length ≤ 4096 := by
  have h1 := List.getElem?_eq_getElem h
  have h2 := kd_vals h1
  have h3 := hk.each (kd (vals ks) i) (kd_mem (by rw [vals_len]; exact h))
  rw [h2] at h3
  exact ⟨_, h1, h2, h3⟩
theorem kid2 {op len n : Int} {ks : GSl (GSl UInt8)} (hk : KidsOk op len n (vals ks)) (hop : (5 ≤ op ∧ op ≤ 12) ∨ op = 16 ∨ op = 17) : ks.xs.length = 2 := by
  have := (okKids_two hk.count).1 hop
  rwa [vals_len] at this
theorem same_kid {op len n : Int} {ks : GSl (GSl UInt8)} (hk : KidsOk op len n (vals ks)) (hop : 4 ≤ op ∧ op ≤ 10) {i : Nat} {x : GSl UInt8} (hx : ks.xs[i]? = some x) : (x.xs.length : Int) = len := by
  have h := (List.getElem?_eq_some_iff.1 hx).1
  have := hk.same hop (kd (vals ks) i) (kd_mem (by rw [vals_len]; exact h))
  rwa [kd_vals hx] at this
theorem Res.nz {l : List UInt8} {st : St} : Res l ((Go.RtlEnv.nz l).av 1 bitAV) st := Res.any
theorem av_frz {s : GSl UInt8} : ∀ st, freezeA st (s.av 1 bitAV) = some (s.av 1 bitAV, st) := fun st => by
  rcases s.cases bitAV 1 with ⟨_, h2 | h2⟩ | h2 <;> rw [h2] <;> rfl
attribute [local irreducible] WS QS OS OD Abs.Sub SubO SubK CW GSl.av accA
section
variable {pr : Prims}
set_option maxHeartbeats 1000000
theorem run58_1 (U : U58 pr) (ln : Nat) (n : Int) (kids : GSl Int) (bits : GSl UInt8) (ks : GSl (GSl UInt8)) (hk : KidsOk 1 ln n (vals ks)) (hb : bits.xs.length = ln) (st : St) :
    CW (En pr) 58 [wordAV ⟨1, ln, n, kids, bits⟩, rowsAV ks] st (Res (evalM 1 ln n bits.xs (vals ks))) := by
  obtain ⟨p46, h46, u46⟩ := U.u46
  have hsz := hk.size
  have e : evalM 1 ln n bits.xs (vals ks) = bits.xs := rfl
  rw [e]
  unfold rowsAV
  refine CW.start (N := 237) U.n58 rfl rfl ?_
  repeat' (first | (refine OS.do rfl ?_; first | refine OD.box rfl rfl rfl rfl (word_ok _) rfl (fun b2 => ?_) | refine OD.makeSlice rfl rfl rfl rfl rfl rfl rfl rfl (roomB rfl (by omega)) (fun b5 => ?_) | refine OD.call rfl rfl rfl h46 (fun st => u46 bits st (ne_of_len (by omega)) (by omega)) av_frz ?_ | refine OD.loadP 0 rfl rfl rfl rfl rfl rfl ?_ | refine OD.auto rfl rfl ?_ | refine OD.loadP 1 rfl rfl rfl rfl rfl rfl ?_) | refine OS.nil ?_ | refine WS.seq ?_ | refine QS.seqN ?_ | refine WS.region ?_ | refine WS.condT rfl ?_ | refine WS.block ?_ | refine WS.ret ?_ | refine QS.seqR ?_ | refine QS.blockR ?_)
  exact QS.retR (by rfl) fun _ => Res.nz
theorem run58_4 (U : U58 pr) (ln : Nat) (n : Int) (kids : GSl Int) (bits : GSl UInt8) (ks : GSl (GSl UInt8)) (hk : KidsOk 4 ln n (vals ks)) (st : St) :
    CW (En pr) 58 [wordAV ⟨4, ln, n, kids, bits⟩, rowsAV ks] st (Res (evalM 4 ln n bits.xs (vals ks))) := by
  obtain ⟨p72, h72, u72⟩ := U.u72
  have hsz := hk.size
  have hc : ks.xs.length = 1 := by
    have := hk.count
    unfold okKids kids57 at this
    rw [decide_eq_true_eq, vals_len] at this
    simp at this; omega
  obtain ⟨x, x0, x1, x2, x3, x4⟩ := kid hk (i := 0) (by omega)
  have e : evalM 4 ln n bits.xs (vals ks) = invM x.xs := by rw [← x1]; rfl
  rw [e]
  unfold rowsAV
  refine CW.start (N := 237) U.n58 rfl rfl ?_
  repeat' (first | (refine OS.do rfl ?_; first | refine OD.box rfl rfl rfl rfl (word_ok _) rfl (fun b2 => ?_) | refine OD.makeSlice rfl rfl rfl rfl rfl rfl rfl rfl (roomB rfl (by omega)) (fun b5 => ?_) | refine OD.indexAddr rfl rfl rfl (indexAddrA_intS (k := 0) rfl rfl rfl rfl (by decide) x0) ?_ | refine OD.call rfl rfl rfl h72 (fun st => u72 x st (by omega)) av_frz ?_ | refine OD.loadP 0 rfl rfl rfl rfl rfl rfl ?_ | refine OD.auto rfl rfl ?_ | refine OD.loadP 1 rfl rfl rfl rfl rfl rfl ?_) | refine OS.nil ?_ | refine WS.seq ?_ | refine QS.seqN ?_ | refine WS.region ?_ | refine WS.condT rfl ?_ | refine WS.condF rfl ?_ | refine WS.block ?_ | refine WS.ret ?_ | refine QS.seqR ?_ | refine QS.blockR ?_)
  exact QS.retR (by rfl) fun _ => Res.nz
theorem run58_5 (U : U58 pr) (ln : Nat) (n : Int) (kids : GSl Int) (bits : GSl UInt8) (ks : GSl (GSl UInt8)) (hk : KidsOk 5 ln n (vals ks)) (st : St) :
    CW (En pr) 58 [wordAV ⟨5, ln, n, kids, bits⟩, rowsAV ks] st (Res (evalM 5 ln n bits.xs (vals ks))) := by
  have hsz := hk.size
  have hc := kid2 hk (by omega)
  obtain ⟨x, x0, x1, x2, x3, x4⟩ := kid hk (i := 0) (by omega)
  obtain ⟨y, y0, y1, y2, y3, y4⟩ := kid hk (i := 1) (by omega)
  have lx := same_kid hk (by omega) x0
  have ly := same_kid hk (by omega) y0
  have e : evalM 5 ln n bits.xs (vals ks) = List.zipWith (bitM 5) x.xs y.xs := by
    rw [← x1, ← y1]; rfl
  rw [e]
  have hm : (List.zipWith (bitM 5) x.xs y.xs).length = ln := by rw [List.length_zipWith]; omega
  unfold rowsAV
  refine CW.start (N := 237) U.n58 rfl rfl ?_
  repeat' (first | (refine OS.do rfl ?_; first | refine OD.box rfl rfl rfl rfl (word_ok _) rfl (fun b2 => ?_) | refine OD.makeSlice rfl rfl rfl rfl rfl rfl rfl rfl (roomB rfl (by omega)) (fun b5 => ?_) | refine OD.loadP 0 rfl rfl rfl rfl rfl rfl ?_ | refine OD.auto rfl rfl ?_ | refine OD.loadP 1 rfl rfl rfl rfl rfl rfl ?_ | refine OD.len rfl rfl (fun _ => rfl) ?_) | refine OS.nil ?_ | refine WS.seq ?_ | refine QS.seqN ?_ | refine WS.region ?_ | refine WS.condT rfl ?_ | refine WS.condF rfl ?_ | refine WS.skip ?_ | refine WS.block ?_)
  refine WS.loop (D := Nat) (fun i => [(1, ks.av 1 fun x => x.av 1 bitAV), (2, .ptr b2 0 0), (5, .sl 1 b5 0 ln), (35, .int .i64 ln), (36, .int .i64 i)]) (fun i => [(b5, .row 1 ((fillM (List.zipWith (bitM 5) x.xs y.xs) i).map bitAV)), (b2, .row 5 [wordAV ⟨5, ln, n, kids, bits⟩])]) (fun _ => [])
    (fun i => i ≤ ln) (fun i => ln + 1 - i) 0 (by omega) ?_ ?_ (.nil _) ?_
  · repeat' (first | exact Sub.nil _ | refine Sub.cons (congrArg (fun z => some (AV.int .i64 z)) (wrap_succ (by omega))) ?_ | refine Sub.cons rfl ?_)
  · (try dsimp only); rw [fillM_zero, hm, List.map_replicate]; exact .refl _
  rintro i hi
  have hfl := fillM_len _ (show i ≤ (List.zipWith (bitM 5) x.xs y.xs).length by rw [hm]; exact hi)
  repeat' (first | (refine OS.do rfl ?_; first | refine OD.indexAddr rfl rfl rfl (indexAddrA_intS (k := 0) rfl rfl rfl rfl (by decide) x0) ?_ | refine OD.indexAddr rfl rfl rfl (indexAddrA_intS (k := 1) rfl rfl rfl rfl (by decide) y0) ?_ | refine OD.auto rfl rfl ?_ | refine OD.loadP 1 rfl rfl rfl rfl rfl rfl ?_ | refine OD.indexAddr rfl rfl rfl (indexAddrA_nat rfl rfl rfl rfl (by first | assumption | exact List.getElem?_eq_getElem (by omega))) ?_ | refine OD.indexAddr rfl rfl rfl (indexAddrA_sl rfl rfl rfl rfl (by omega)) ?_ | refine OD.storeI 0 rfl rfl rfl rfl rfl (row_get (by omega)) ?_) | refine OS.nil ?_ | refine WS.seq ?_ | refine QS.seqN ?_ | refine WS.region ?_ | refine WS.condT rfl ?_ | refine WS.condD rfl (fun _ => ?_) (fun _ => ?_) | refine WS.skip ?_ | refine WS.block ?_ | refine WS.ret ?_ | refine QS.blockN ?_ | refine WS.exit ?_ | refine QS.seqE ?_ | refine QS.blockH ?_ | refine QS.loopE ?_ | refine WS.draw rfl rfl ?_)
  · have hlt : i < (List.zipWith (bitM 5) x.xs y.xs).length := by rw [hm]; omega
    refine QS.loopN (i + 1) ?_ ?_ ?_ ?_ ?_
    · omega
    · omega
    · repeat' (first | exact Sub.nil _ | refine Sub.cons (congrArg (fun z => some (AV.int .i64 z)) (wrap_succ (by omega))) ?_ | refine Sub.cons rfl ?_)
    · (try dsimp only)
      rw [← fillM_set hlt ((u8_and _ _).trans (congrArg (fun (b : UInt8) => (b.toNat : Int)) (zip_at (op := 5) hlt (by omega) (by omega)).symm))]; exact .refl _
    · exact .nil _
  refine QS.retRS (by rfl) fun st hS => Res.row (by omega) ?_
  have := (hS.obj 0 b5 _ rfl).1
  rw [fillM_all _ (by omega)] at this
  exact this
theorem run58_6 (U : U58 pr) (ln : Nat) (n : Int) (kids : GSl Int) (bits : GSl UInt8) (ks : GSl (GSl UInt8)) (hk : KidsOk 6 ln n (vals ks)) (st : St) :
    CW (En pr) 58 [wordAV ⟨6, ln, n, kids, bits⟩, rowsAV ks] st (Res (evalM 6 ln n bits.xs (vals ks))) := by
  have hsz := hk.size
  have hc := kid2 hk (by omega)
  obtain ⟨x, x0, x1, x2, x3, x4⟩ := kid hk (i := 0) (by omega)
  obtain ⟨y, y0, y1, y2, y3, y4⟩ := kid hk (i := 1) (by omega)
  have lx := same_kid hk (by omega) x0
  have ly := same_kid hk (by omega) y0
  have e : evalM 6 ln n bits.xs (vals ks) = List.zipWith (bitM 6) x.xs y.xs := by
    rw [← x1, ← y1]; rfl
  rw [e]
  have hm : (List.zipWith (bitM 6) x.xs y.xs).length = ln := by rw [List.length_zipWith]; omega
  unfold rowsAV
  refine CW.start (N := 237) U.n58 rfl rfl ?_
  repeat' (first | (refine OS.do rfl ?_; first | refine OD.box rfl rfl rfl rfl (word_ok _) rfl (fun b2 => ?_) | refine OD.makeSlice rfl rfl rfl rfl rfl rfl rfl rfl (roomB rfl (by omega)) (fun b5 => ?_) | refine OD.loadP 0 rfl rfl rfl rfl rfl rfl ?_ | refine OD.auto rfl rfl ?_ | refine OD.loadP 1 rfl rfl rfl rfl rfl rfl ?_ | refine OD.len rfl rfl (fun _ => rfl) ?_) | refine OS.nil ?_ | refine WS.seq ?_ | refine QS.seqN ?_ | refine WS.region ?_ | refine WS.condT rfl ?_ | refine WS.condF rfl ?_ | refine WS.skip ?_ | refine WS.block ?_)
  refine WS.loop (D := Nat) (fun i => [(1, ks.av 1 fun x => x.av 1 bitAV), (2, .ptr b2 0 0), (5, .sl 1 b5 0 ln), (35, .int .i64 ln), (36, .int .i64 i)]) (fun i => [(b5, .row 1 ((fillM (List.zipWith (bitM 6) x.xs y.xs) i).map bitAV)), (b2, .row 5 [wordAV ⟨6, ln, n, kids, bits⟩])]) (fun _ => [])
    (fun i => i ≤ ln) (fun i => ln + 1 - i) 0 (by omega) ?_ ?_ (.nil _) ?_
  · repeat' (first | exact Sub.nil _ | refine Sub.cons (congrArg (fun z => some (AV.int .i64 z)) (wrap_succ (by omega))) ?_ | refine Sub.cons rfl ?_)
  · (try dsimp only); rw [fillM_zero, hm, List.map_replicate]; exact .refl _
  rintro i hi
  have hfl := fillM_len _ (show i ≤ (List.zipWith (bitM 6) x.xs y.xs).length by rw [hm]; exact hi)
  repeat' (first | (refine OS.do rfl ?_; first | refine OD.indexAddr rfl rfl rfl (indexAddrA_intS (k := 0) rfl rfl rfl rfl (by decide) x0) ?_ | refine OD.indexAddr rfl rfl rfl (indexAddrA_intS (k := 1) rfl rfl rfl rfl (by decide) y0) ?_ | refine OD.auto rfl rfl ?_ | refine OD.loadP 1 rfl rfl rfl rfl rfl rfl ?_ | refine OD.indexAddr rfl rfl rfl (indexAddrA_nat rfl rfl rfl rfl (by first | assumption | exact List.getElem?_eq_getElem (by omega))) ?_ | refine OD.indexAddr rfl rfl rfl (indexAddrA_sl rfl rfl rfl rfl (by omega)) ?_ | refine OD.storeI 0 rfl rfl rfl rfl rfl (row_get (by omega)) ?_) | refine OS.nil ?_ | refine WS.seq ?_ | refine QS.seqN ?_ | refine WS.region ?_ | refine WS.condT rfl ?_ | refine WS.condF rfl ?_ | refine WS.condD rfl (fun _ => ?_) (fun _ => ?_) | refine WS.skip ?_ | refine WS.block ?_ | refine WS.ret ?_ | refine QS.blockN ?_ | refine WS.exit ?_ | refine QS.seqE ?_ | refine QS.blockH ?_ | refine QS.loopE ?_ | refine WS.draw rfl rfl ?_)
  · have hlt : i < (List.zipWith (bitM 6) x.xs y.xs).length := by rw [hm]; omega
    refine QS.loopN (i + 1) ?_ ?_ ?_ ?_ ?_
    · omega
    · omega
    · repeat' (first | exact Sub.nil _ | refine Sub.cons (congrArg (fun z => some (AV.int .i64 z)) (wrap_succ (by omega))) ?_ | refine Sub.cons rfl ?_)
    · (try dsimp only)
      rw [← fillM_set hlt ((u8_or _ _).trans (congrArg (fun (b : UInt8) => (b.toNat : Int)) (zip_at (op := 6) hlt (by omega) (by omega)).symm))]; exact .refl _
    · exact .nil _
  refine QS.retRS (by rfl) fun st hS => Res.row (by omega) ?_
  have := (hS.obj 0 b5 _ rfl).1
  rw [fillM_all _ (by omega)] at this
  exact this
theorem run58_7 (U : U58 pr) (ln : Nat) (n : Int) (kids : GSl Int) (bits : GSl UInt8) (ks : GSl (GSl UInt8)) (hk : KidsOk 7 ln n (vals ks)) (st : St) :
    CW (En pr) 58 [wordAV ⟨7, ln, n, kids, bits⟩, rowsAV ks] st (Res (evalM 7 ln n bits.xs (vals ks))) := by
  have hsz := hk.size
  have hc := kid2 hk (by omega)
  obtain ⟨x, x0, x1, x2, x3, x4⟩ := kid hk (i := 0) (by omega)
  obtain ⟨y, y0, y1, y2, y3, y4⟩ := kid hk (i := 1) (by omega)
  have lx := same_kid hk (by omega) x0
  have ly := same_kid hk (by omega) y0
  have e : evalM 7 ln n bits.xs (vals ks) = List.zipWith (bitM 7) x.xs y.xs := by
    rw [← x1, ← y1]; rfl
  rw [e]
  have hm : (List.zipWith (bitM 7) x.xs y.xs).length = ln := by rw [List.length_zipWith]; omega
  unfold rowsAV
  refine CW.start (N := 237) U.n58 rfl rfl ?_
  repeat' (first | (refine OS.do rfl ?_; first | refine OD.box rfl rfl rfl rfl (word_ok _) rfl (fun b2 => ?_) | refine OD.makeSlice rfl rfl rfl rfl rfl rfl rfl rfl (roomB rfl (by omega)) (fun b5 => ?_) | refine OD.loadP 0 rfl rfl rfl rfl rfl rfl ?_ | refine OD.auto rfl rfl ?_ | refine OD.loadP 1 rfl rfl rfl rfl rfl rfl ?_ | refine OD.len rfl rfl (fun _ => rfl) ?_) | refine OS.nil ?_ | refine WS.seq ?_ | refine QS.seqN ?_ | refine WS.region ?_ | refine WS.condT rfl ?_ | refine WS.condF rfl ?_ | refine WS.block ?_)
  refine WS.loop (D := Nat) (fun i => [(1, ks.av 1 fun x => x.av 1 bitAV), (2, .ptr b2 0 0), (5, .sl 1 b5 0 ln), (35, .int .i64 ln), (36, .int .i64 i)]) (fun i => [(b5, .row 1 ((fillM (List.zipWith (bitM 7) x.xs y.xs) i).map bitAV)), (b2, .row 5 [wordAV ⟨7, ln, n, kids, bits⟩])]) (fun _ => [])
    (fun i => i ≤ ln) (fun i => ln + 1 - i) 0 (by omega) ?_ ?_ (.nil _) ?_
  · repeat' (first | exact Sub.nil _ | refine Sub.cons (congrArg (fun z => some (AV.int .i64 z)) (wrap_succ (by omega))) ?_ | refine Sub.cons rfl ?_)
  · (try dsimp only); rw [fillM_zero, hm, List.map_replicate]; exact .refl _
  rintro i hi
  have hfl := fillM_len _ (show i ≤ (List.zipWith (bitM 7) x.xs y.xs).length by rw [hm]; exact hi)
  repeat' (first | (refine OS.do rfl ?_; first | refine OD.indexAddr rfl rfl rfl (indexAddrA_intS (k := 0) rfl rfl rfl rfl (by decide) x0) ?_ | refine OD.indexAddr rfl rfl rfl (indexAddrA_intS (k := 1) rfl rfl rfl rfl (by decide) y0) ?_ | refine OD.auto rfl rfl ?_ | refine OD.loadP 1 rfl rfl rfl rfl rfl rfl ?_ | refine OD.indexAddr rfl rfl rfl (indexAddrA_nat rfl rfl rfl rfl (by first | assumption | exact List.getElem?_eq_getElem (by omega))) ?_ | refine OD.indexAddr rfl rfl rfl (indexAddrA_sl rfl rfl rfl rfl (by omega)) ?_ | refine OD.storeI 0 rfl rfl rfl rfl rfl (row_get (by omega)) ?_) | refine OS.nil ?_ | refine WS.seq ?_ | refine QS.seqN ?_ | refine WS.region ?_ | refine WS.condF rfl ?_ | refine WS.condD rfl (fun _ => ?_) (fun _ => ?_) | refine WS.skip ?_ | refine WS.block ?_ | refine WS.ret ?_ | refine QS.blockN ?_ | refine WS.exit ?_ | refine QS.seqE ?_ | refine QS.blockH ?_ | refine QS.loopE ?_ | refine WS.draw rfl rfl ?_)
  · have hlt : i < (List.zipWith (bitM 7) x.xs y.xs).length := by rw [hm]; omega
    refine QS.loopN (i + 1) ?_ ?_ ?_ ?_ ?_
    · omega
    · omega
    · repeat' (first | exact Sub.nil _ | refine Sub.cons (congrArg (fun z => some (AV.int .i64 z)) (wrap_succ (by omega))) ?_ | refine Sub.cons rfl ?_)
    · (try dsimp only)
      rw [← fillM_set hlt ((u8_xor _ _).trans (congrArg (fun (b : UInt8) => (b.toNat : Int)) (zip_at (op := 7) hlt (by omega) (by omega)).symm))]; exact .refl _
    · exact .nil _
  refine QS.retRS (by rfl) fun st hS => Res.row (by omega) ?_
  have := (hS.obj 0 b5 _ rfl).1
  rw [fillM_all _ (by omega)] at this
  exact this
end
end Go.RtlEnv

/- words.Value: sums, comparisons, choices, parts, shifts. -/
namespace Go.RtlEnv
open Go Go.Proofs Go.Abs Go.RowKit
set_option maxRecDepth 10000
theorem nz_eq {x : GSl UInt8} (h : 1 ≤ x.xs.length) : x.av 1 bitAV = (Go.RtlEnv.nz x.xs).av 1 bitAV := by rw [← nz_of (ne_of_len (by omega))]
theorem Rd.nz {pr : Prims} {L : List (Nat × AObj)} {K : List (Nat × Bool)} (l : List UInt8) : Rd (En pr) L K ((Go.RtlEnv.nz l).av 1 bitAV) l := Rd.av (Go.RtlEnv.nz l)
theorem slice_hi {E : Env} {t e : TypeId} {y et : Ty} {x : GSl UInt8} {k2 : IntKind} {hi : Nat} (h0 : 1 ≤ x.xs.length) (h1 : E.ty t = some y) (h2 : y.d = .slice e) (h3 : E.ty e = some et) (h4 : et.size = 1) (hhi : hi ≤ x.xs.length) :
    sliceA E t (x.av 1 bitAV) none (some (.int k2 (hi : Int))) none = some (.vs 1 .any ((x.xs.take hi).map bitAV)) := by
  rw [nz_eq h0, slice_nzHi h1 h2 h3 h4 hhi]; rfl
theorem slice_lo {E : Env} {t e : TypeId} {y et : Ty} {x : GSl UInt8} {k2 : IntKind} {lo : Nat} (h0 : 1 ≤ x.xs.length) (h1 : E.ty t = some y) (h2 : y.d = .slice e) (h3 : E.ty e = some et) (h4 : et.size = 1) (hlo : lo ≤ x.xs.length) :
    sliceA E t (x.av 1 bitAV) (some (.int k2 (lo : Int))) none none = some (.vs 1 .any ((x.xs.drop lo).map bitAV)) := by
  rw [nz_eq h0, slice_nzLo h1 h2 h3 h4 hlo]; rfl
theorem slice_lohi {E : Env} {t e : TypeId} {y et : Ty} {x : GSl UInt8} {k1 k2 : IntKind} {lo hi : Nat} (h0 : 1 ≤ x.xs.length) (h1 : E.ty t = some y) (h2 : y.d = .slice e) (h3 : E.ty e = some et) (h4 : et.size = 1) (hlo : lo ≤ hi) (hhi : hi ≤ x.xs.length) :
    sliceA E t (x.av 1 bitAV) (some (.int k1 (lo : Int))) (some (.int k2 (hi : Int))) none = some ((nz ((x.xs.drop lo).take (hi - lo))).av 1 bitAV) := by
  rw [nz_eq h0, slice_nz h1 h2 h3 h4 hlo hhi]
theorem ne_toNat {a b : UInt8} (h : (a.toNat : Int) ≠ b.toNat) : a ≠ b := fun e => by subst e; omega
attribute [local irreducible] WS QS OS OD Abs.Sub SubO SubK CW GSl.av accA
section
variable {pr : Prims}
set_option maxHeartbeats 1000000
theorem run58_8 (U : U58 pr) (ln : Nat) (n : Int) (kids : GSl Int) (bits : GSl UInt8) (ks : GSl (GSl UInt8)) (hk : KidsOk 8 ln n (vals ks)) (st : St) :
    CW (En pr) 58 [wordAV ⟨8, ln, n, kids, bits⟩, rowsAV ks] st (Res (evalM 8 ln n bits.xs (vals ks))) := by
  have hsz := hk.size
  have hc := kid2 hk (by omega)
  obtain ⟨x, x0, x1, x2, x3, x4⟩ := kid hk (i := 0) (by omega)
  obtain ⟨y, y0, y1, y2, y3, y4⟩ := kid hk (i := 1) (by omega)
  have lx := same_kid hk (by omega) x0
  have ly := same_kid hk (by omega) y0
  have e : evalM 8 ln n bits.xs (vals ks) = addM x.xs y.xs 0 := by rw [← x1, ← y1]; rfl
  rw [e]
  unfold rowsAV
  refine CW.start (N := 237) U.n58 rfl rfl ?_
  repeat' (first | (refine OS.do rfl ?_; first | refine OD.box rfl rfl rfl rfl (word_ok _) rfl (fun b2 => ?_) | refine OD.makeSlice rfl rfl rfl rfl rfl rfl rfl rfl (roomB rfl (by omega)) (fun b5 => ?_) | refine OD.indexAddr rfl rfl rfl (indexAddrA_intS (k := 0) rfl rfl rfl rfl (by decide) x0) ?_ | refine OD.indexAddr rfl rfl rfl (indexAddrA_intS (k := 1) rfl rfl rfl rfl (by decide) y0) ?_ | refine OD.callFz rfl rfl rfl rfl (by rw [List.length_map]; exact addM_len _ _ _ (by omega)) (fun st hS => run73g U.n73 _ _ x.xs y.xs 0 (by omega) (by omega) (Rd.av x) (Rd.av y) hS) (fun tk => ?_) | refine OD.loadP 0 rfl rfl rfl rfl rfl rfl ?_ | refine OD.auto rfl rfl ?_ | refine OD.loadP 1 rfl rfl rfl rfl rfl rfl ?_) | refine OS.nil ?_ | refine WS.seq ?_ | refine QS.seqN ?_ | refine WS.region ?_ | refine WS.condT rfl ?_ | refine WS.condF rfl ?_ | refine WS.block ?_ | refine WS.ret ?_ | refine QS.seqR ?_ | refine QS.blockR ?_ | refine WS.draw rfl rfl ?_)
  exact QS.retR (by rfl) fun _ => Res.tok
theorem run58_9 (U : U58 pr) (ln : Nat) (n : Int) (kids : GSl Int) (bits : GSl UInt8) (ks : GSl (GSl UInt8)) (hk : KidsOk 9 ln n (vals ks)) (st : St) :
    CW (En pr) 58 [wordAV ⟨9, ln, n, kids, bits⟩, rowsAV ks] st (Res (evalM 9 ln n bits.xs (vals ks))) := by
  obtain ⟨p72, h72, u72⟩ := U.u72
  have hsz := hk.size
  have hc := kid2 hk (by omega)
  obtain ⟨x, x0, x1, x2, x3, x4⟩ := kid hk (i := 0) (by omega)
  obtain ⟨y, y0, y1, y2, y3, y4⟩ := kid hk (i := 1) (by omega)
  have lx := same_kid hk (by omega) x0
  have ly := same_kid hk (by omega) y0
  have e : evalM 9 ln n bits.xs (vals ks) = addM x.xs (invM y.xs) 1 := by rw [← x1, ← y1]; rfl
  rw [e]
  unfold rowsAV
  refine CW.start (N := 237) U.n58 rfl rfl ?_
  repeat' (first | (refine OS.do rfl ?_; first | refine OD.box rfl rfl rfl rfl (word_ok _) rfl (fun b2 => ?_) | refine OD.makeSlice rfl rfl rfl rfl rfl rfl rfl rfl (roomB rfl (by omega)) (fun b5 => ?_) | refine OD.loadP 0 rfl rfl rfl rfl rfl rfl ?_ | refine OD.auto rfl rfl ?_ | refine OD.loadP 1 rfl rfl rfl rfl rfl rfl ?_) | refine OS.nil ?_ | refine WS.seq ?_ | refine QS.seqN ?_ | refine WS.region ?_ | refine WS.condT rfl ?_ | refine WS.condF rfl ?_ | refine WS.block ?_)
  refine WS.drawQK 7 (by rfl) (by rfl) (by rfl) (by rfl) ?_
  (repeat' (first | refine SegK.nil ?_ | refine SegK.auto rfl rfl rfl rfl ?_ | refine SegK.indexAddr rfl rfl rfl rfl (indexAddrA_intS (k := 0) rfl rfl rfl rfl (by decide) x0) ?_ | refine SegK.indexAddr rfl rfl rfl rfl (indexAddrA_intS (k := 1) rfl rfl rfl rfl (by decide) y0) ?_ | refine SegK.call rfl rfl rfl h72 (fun st => u72 y st (by omega)) av_frz ?_))
  repeat' (first | (refine OS.do rfl ?_; first | refine OD.callFz rfl rfl rfl rfl (by rw [List.length_map]; exact addM_len _ _ _ (by simp only [invM, List.length_map]; omega)) (fun st hS => run73g U.n73 _ _ x.xs (invM y.xs) 1 (by omega) (by simp only [invM, List.length_map]; omega) (Rd.av x) (Rd.nz _) hS) (fun tk => ?_) | refine OD.auto rfl rfl ?_) | refine OS.nil ?_ | refine QS.seqN ?_ | refine WS.ret ?_ | refine QS.seqR ?_ | refine QS.blockR ?_)
  exact QS.retR (by rfl) fun _ => Res.tok
end
end Go.RtlEnv
