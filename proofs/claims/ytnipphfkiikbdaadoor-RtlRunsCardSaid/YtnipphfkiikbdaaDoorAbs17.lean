/- Own text of this claim: part 17 of an interpreter that is proved sound against the model, and of what it shows of the law. -/
import Derived.Test.YtnipphfkiikbdaaDoorAbs16
/- words.Value: products. -/
namespace Go.RtlEnv
open Go Go.Proofs Go.Abs Go.RowKit
set_option maxRecDepth 10000
theorem leftM_up' (l : List UInt8) (i : Nat) (h : i ≤ l.length) : leftM l (i : Int) = List.replicate i 0 ++ l.take (l.length - i) := leftM_up l i h
theorem Rd.vsN {pr : Prims} {L : List (Nat × AObj)} {K : List (Nat × Bool)} {own : Own} (l : List UInt8) : Rd (En pr) L K (.vs 1 own (l.map bitAV)) l := Rd.vs l
theorem mulS_one {x y : List UInt8} {i : Nat} (h : i < y.length) (h1 : (y[i].toNat : Int) = 1) : mulS x y (i + 1) = addM (mulS x y i) (leftM x i) 0 := by
  have : y.getD i 0 = 1 := by rw [getD_at h]; exact UInt8.toNat_inj.1 (by show _ = 1; omega)
  rw [mulS, if_pos this]
theorem mulS_zero {x y : List UInt8} {i : Nat} (h : i < y.length) (h1 : (y[i].toNat : Int) ≠ 1) : mulS x y (i + 1) = mulS x y i := by
  have : y.getD i 0 ≠ 1 := by rw [getD_at h]; exact fun e => h1 (by rw [e]; rfl)
  rw [mulS, if_neg this]
attribute [local irreducible] WS QS OS OD Abs.Sub SubO SubK CW GSl.av accA SegK
section
variable {pr : Prims}
set_option maxHeartbeats 1000000
theorem prod_row (n74 : pr 74 = none) (n80 : pr 80 = none) (b i ln : Nat) (x : List UInt8) (hx : x.length = ln) (hi : i < ln) (hl : ln ≤ 4096) {L : List (Nat × AObj)} {K : List (Nat × Bool)} (k : Nat) (hL : L[k]? = some (b, .row 1 (List.replicate i (.int .u8 0)))) {st : St} (hS : SFa L K st) :
    CW (En pr) 74 [.vs 1 .full [.sl 1 b 0 i, .vs 1 .any ((x.take (ln - i)).map bitAV)]] st fun r st' => ∃ b', r = .sl 1 b' 0 ln ∧ SFa ((b', .row 1 ((leftM x i).map bitAV)) :: L) K st' := by
  have hf : leftM x i = [List.replicate i (0 : UInt8), x.take (ln - i)].flatten := by rw [leftM_up x i (by omega), hx]; simp
  have hfl : [List.replicate i (0 : UInt8), x.take (ln - i)].flatten.length = ln := by rw [← hf, leftM_len, hx]
  rw [hf]
  have := run74 (pr := pr) n74 n80 (.vs 1 .full [.sl 1 b 0 i, .vs 1 .any ((x.take (ln - i)).map bitAV)]) [.sl 1 b 0 i, .vs 1 .any ((x.take (ln - i)).map bitAV)] [List.replicate i (0 : UInt8), x.take (ln - i)] rfl (by show 2 ≤ 1000000; omega) (by omega) (by omega) (fun st => rfl) (L := L) (K := K) (fun j h => by
      match j, h with
      | 0, _ => rfl
      | 1, _ => rfl) (fun j h => by
      match j, h with
      | 0, _ => rfl
      | 1, _ => rfl) (fun j h st => by
      match j, h with
      | 0, _ => show some (AV.int .i64 (i : Int)) = some (AV.int .i64 _); simp
      | 1, _ => show some (AV.int .i64 (((x.take (ln - i)).map bitAV).length : Nat)) = some (AV.int .i64 _); simp) (fun j h => by
      match j, h with
      | 0, _ => rfl
      | 1, _ => rfl) (fun j h => by
      match j, h with
      | 0, _ =>
        refine ⟨1, fun st hS => ?_, by simp⟩
        show elemsA st (.sl 1 b 0 i) = _
        have hg := (hS.obj k b _ hL).1
        simp [elemsA, hg, bitAV]
      | 1, _ => exact ⟨1, fun st _ => rfl, by simp⟩) hS
  rw [hfl] at this
  exact this
theorem run58_10 (U : U58 pr) (ln : Nat) (n : Int) (kids : GSl Int) (bits : GSl UInt8) (ks : GSl (GSl UInt8)) (hk : KidsOk 10 ln n (vals ks)) (st : St) :
    CW (En pr) 58 [wordAV ⟨10, ln, n, kids, bits⟩, rowsAV ks] st (Res (evalM 10 ln n bits.xs (vals ks))) := by
  have hsz := hk.size
  have hc := kid2 hk (by omega)
  obtain ⟨x, x0, x1, x2, x3, x4⟩ := kid hk (i := 0) (by omega)
  obtain ⟨y, y0, y1, y2, y3, y4⟩ := kid hk (i := 1) (by omega)
  have lx := same_kid hk (by omega) x0
  have ly := same_kid hk (by omega) y0
  have e : evalM 10 ln n bits.xs (vals ks) = mulS x.xs y.xs y.xs.length := by rw [← x1, ← y1]; rfl
  rw [e]
  unfold rowsAV
  refine CW.start (N := 237) U.n58 rfl rfl ?_
  repeat' (first | (refine OS.do rfl ?_; first | refine OD.box rfl rfl rfl rfl (word_ok _) rfl (fun b2 => ?_) | refine OD.makeSlice rfl rfl rfl rfl rfl rfl rfl rfl (roomB rfl (by omega)) (fun b5 => ?_) | refine OD.indexAddr rfl rfl rfl (indexAddrA_intS (k := 1) rfl rfl rfl rfl (by decide) y0) ?_ | refine OD.loadP 0 rfl rfl rfl rfl rfl rfl ?_ | refine OD.auto rfl rfl ?_ | refine OD.loadP 1 rfl rfl rfl rfl rfl rfl ?_ | refine OD.len rfl rfl (fun _ => lenTy_av rfl rfl) ?_) | refine OS.nil ?_ | refine WS.seq ?_ | refine QS.seqN ?_ | refine WS.region ?_ | refine WS.condT rfl ?_ | refine WS.condF rfl ?_ | refine WS.block ?_)
  refine WS.loop (D := Nat × AV) (fun d => [(1, ks.av 1 fun x => x.av 1 bitAV), (2, .ptr b2 0 0), (5, d.2), (99, y.av 1 bitAV), (100, .int .i64 y.xs.length), (101, .int .i64 d.1)]) (fun d => [(b5, .row 1 ((List.replicate ln (0 : UInt8)).map bitAV)), (b2, .row 5 [wordAV ⟨10, ln, n, kids, bits⟩])]) (fun _ => [])
    (fun d => d.1 ≤ y.xs.length ∧ ((d.2 = .sl 1 b5 0 ln ∧ mulS x.xs y.xs d.1 = List.replicate ln 0) ∨ ∃ t, d.2 = .vs 1 (.tok t) ((mulS x.xs y.xs d.1).map bitAV))) (fun d => y.xs.length + 1 - d.1) (0, .sl 1 b5 0 ln) ⟨by omega, .inl ⟨rfl, by rw [mulS]; congr 1; omega⟩⟩ ?_ ?_ (.nil _) ?_
  · repeat' (first | exact Sub.nil _ | refine Sub.cons (congrArg (fun z => some (AV.int .i64 z)) (wrap_succ (by omega))) ?_ | refine Sub.cons rfl ?_)
  · (try dsimp only); rw [List.map_replicate]; exact .refl _
  rintro ⟨i, X⟩ ⟨hi, hX⟩
  dsimp only at hi hX ⊢
  have hRd : Rd (En pr) [(b5, .row 1 ((List.replicate ln (0 : UInt8)).map bitAV)), (b2, .row 5 [wordAV ⟨10, ln, n, kids, bits⟩])] [] X (mulS x.xs y.xs i) := by
    rcases hX with ⟨h1, h2⟩ | ⟨t, h1⟩
    · rw [h1, h2]; exact Rd.sl (k := 0) rfl (by simp)
    · rw [h1]; exact Rd.vs _
  repeat' (first | (refine OS.do rfl ?_; first | refine OD.auto rfl rfl ?_ | refine OD.indexAddr rfl rfl rfl (indexAddrA_nat rfl rfl rfl rfl (by first | assumption | exact List.getElem?_eq_getElem (by omega))) ?_) | refine OS.nil ?_ | refine WS.seq ?_ | refine QS.seqN ?_ | refine WS.region ?_ | refine WS.condE rfl (fun _ => ?_) (fun _ => ?_) | refine WS.condD rfl (fun _ => ?_) (fun _ => ?_) | refine WS.skip ?_ | refine WS.block ?_ | refine WS.ret ?_ | refine QS.blockN ?_ | refine WS.exit ?_ | refine QS.seqE ?_ | refine QS.blockH ?_ | refine QS.loopE ?_)
  · rename_i hlt hbit
    have hlt : i < y.xs.length := by omega
    refine WS.drawPK 2 8 (n := i) (by rfl) (by rfl) (by rfl) (by rfl) (by rfl) (by rfl) (by rfl) (by rfl) (by rfl) (by rfl) (by rfl) (by rfl) (roomB rfl (by omega)) ?_
    (repeat' (first | refine SegK.nil ?_ | refine SegK.auto rfl rfl rfl rfl ?_))
    refine ⟨by rfl, by rfl, fun b => ?_⟩
    (repeat' (first | refine SegK.nil ?_ | refine SegK.auto rfl rfl rfl rfl ?_ | refine SegK.loadP 1 rfl rfl rfl rfl rfl rfl rfl ?_ | refine SegK.indexAddr rfl rfl rfl rfl (indexAddrA_intS (k := 0) rfl rfl rfl rfl (by decide) x0) ?_))
    repeat' (first | (refine OS.do rfl ?_; first | refine OD.bin (v := .int .i64 ((ln - i : Nat) : Int)) rfl rfl rfl (congrArg (fun z => some (AV.int .i64 z)) ((int_wrap (n := (ln : Int) - i) (by omega) (by omega)).trans (by omega))) ?_ | refine OD.slice rfl rfl rfl rfl rfl (slice_hi (by omega) rfl rfl rfl rfl (by omega)) ?_ | refine OD.callFz rfl rfl rfl rfl (by rw [List.length_map, leftM_len]; omega) (fun st hS => prod_row U.n74 U.n80 b i ln x.xs (by omega) (by omega) (by omega) 0 rfl hS) (fun tk => ?_) | refine OD.callFz rfl rfl rfl rfl (by rw [List.length_map, addM_len _ _ _ (by rw [mulS_len, leftM_len])]) (fun st hS => run73g U.n73 _ _ (mulS x.xs y.xs i) (leftM x.xs i) 0 (by rw [mulS_len]; omega) (by rw [mulS_len, leftM_len]) (hRd.tail _) (Rd.vs _) hS) (fun tk2 => ?_) | refine OD.auto rfl rfl ?_) | refine OS.nil ?_ | refine QS.seqN ?_ | refine WS.region ?_ | refine QS.blockN ?_)


    refine QS.loopN (i + 1, AV.vs 1 (.tok tk2) ((mulS x.xs y.xs (i + 1)).map bitAV)) ?_ ?_ ?_ ?_ ?_
    · exact ⟨by dsimp only; omega, .inr ⟨tk2, rfl⟩⟩
    · dsimp only; omega
    · rw [mulS_one hlt hbit]
      repeat' (first | exact Sub.nil _ | refine Sub.cons (congrArg (fun z => some (AV.int .i64 z)) (wrap_succ (by omega))) ?_ | refine Sub.cons rfl ?_)
    · repeat' (first | exact SubO.nil _ | exact SubO.refl _ | refine SubO.keep ?_ | refine SubO.drop ?_)
    · exact .nil _
  · rename_i hlt hbit
    have hlt : i < y.xs.length := by omega
    refine QS.loopN (i + 1, X) ?_ ?_ ?_ ?_ ?_
    · refine ⟨by dsimp only; omega, ?_⟩
      dsimp only
      rw [mulS_zero hlt hbit]; exact hX
    · dsimp only; omega
    · repeat' (first | exact Sub.nil _ | refine Sub.cons (congrArg (fun z => some (AV.int .i64 z)) (wrap_succ (by omega))) ?_ | refine Sub.cons rfl ?_)
    · exact .refl _
    · exact .nil _
  · have hi : i = y.xs.length := by omega
    subst hi
    refine QS.retRS (by rfl) fun st hS => ?_
    rcases hX with ⟨h1, h2⟩ | ⟨t, h1⟩
    · subst h1
      rw [h2]
      exact Res.row (by simp) (hS.obj 0 b5 _ rfl).1
    · subst h1; exact Res.tok
end
end Go.RtlEnv

/- words.Value: comparisons, choices, parts, shifts. -/
namespace Go.RtlEnv
open Go Go.Proofs Go.Abs Go.RowKit
set_option maxRecDepth 10000
theorem copy_up {l : List UInt8} {n : Nat} (h : n < l.length) :
    ((List.replicate l.length (AV.int .u8 0)).take (0 + n) ++ (l.map bitAV).take (Min.min (l.map bitAV).length (l.length - n)) ++ (List.replicate l.length (AV.int .u8 0)).drop (0 + n + Min.min (l.map bitAV).length (l.length - n))) = (leftM l n).map bitAV := by
  have e1 : Min.min (l.map bitAV).length (l.length - n) = l.length - n := by rw [List.length_map]; omega
  rw [e1, leftM_up l n (by omega), List.map_append, List.map_replicate, List.take_replicate, List.drop_replicate]
  have e2 : min (0 + n) l.length = n := by omega
  have e3 : l.length - (0 + n + (l.length - n)) = 0 := by omega
  rw [e2, e3, List.map_take]; simp; exact .inr rfl
theorem copy_down {l : List UInt8} {n : Nat} (h : n < l.length) :
    ((List.replicate l.length (AV.int .u8 0)).take 0 ++ ((l.drop n).map bitAV).take (Min.min ((l.drop n).map bitAV).length l.length) ++ (List.replicate l.length (AV.int .u8 0)).drop (0 + Min.min ((l.drop n).map bitAV).length l.length)) = (leftM l (-(n : Int))).map bitAV := by
  have e1 : Min.min ((l.drop n).map bitAV).length l.length = l.length - n := by rw [List.length_map, List.length_drop]; omega
  have e2 : l.length - (0 + (l.length - n)) = n := by omega
  rw [e1, leftM_down l n (by omega), List.map_append, List.map_replicate, List.drop_replicate, e2]
  have e3 : ((l.drop n).map bitAV).take (l.length - n) = (l.drop n).map bitAV := List.take_of_length_le (by rw [List.length_map, List.length_drop]; omega)
  rw [e3]
  simp; exact .inr rfl
theorem kid3 {len n : Int} {ks : GSl (GSl UInt8)} (hk : KidsOk 13 len n (vals ks)) : ks.xs.length = 3 := by
  have := hk.count
  unfold okKids kids57 at this
  rw [decide_eq_true_eq, vals_len] at this
  simp at this; omega
theorem kid1 {len n : Int} {ks : GSl (GSl UInt8)} (hk : KidsOk 15 len n (vals ks)) : ks.xs.length = 1 := by
  have := hk.count
  unfold okKids kids57 at this
  rw [decide_eq_true_eq, vals_len] at this
  simp at this; omega
theorem kidC {len n : Int} {ks : GSl (GSl UInt8)} (hk : KidsOk 14 len n (vals ks)) : 1 ≤ ks.xs.length ∧ ks.xs.length ≤ 500 := by
  have := hk.count
  unfold okKids kids57 at this
  rw [decide_eq_true_eq, vals_len] at this
  simp at this; omega
attribute [local irreducible] WS QS OS OD Abs.Sub SubO SubK CW GSl.av accA SegK
section
variable {pr : Prims}
set_option maxHeartbeats 1000000
theorem run58_11 (U : U58 pr) (ln : Nat) (n : Int) (kids : GSl Int) (bits : GSl UInt8) (ks : GSl (GSl UInt8)) (hk : KidsOk 11 ln n (vals ks)) (st : St) :
    CW (En pr) 58 [wordAV ⟨11, ln, n, kids, bits⟩, rowsAV ks] st (Res (evalM 11 ln n bits.xs (vals ks))) := by
  obtain ⟨p75, h75, u75⟩ := U.u75
  obtain ⟨p76, h76, u76⟩ := U.u76
  have hsz := hk.size
  have hc := kid2 hk (by omega)
  obtain ⟨x, x0, x1, x2, x3, x4⟩ := kid hk (i := 0) (by omega)
  obtain ⟨y, y0, y1, y2, y3, y4⟩ := kid hk (i := 1) (by omega)
  have e : evalM 11 ln n bits.xs (vals ks) = oneM (decide (x.xs = y.xs)) := by rw [← x1, ← y1]; rfl
  rw [e]
  unfold rowsAV
  refine CW.start (N := 237) U.n58 rfl rfl ?_
  repeat' (first | (refine OS.do rfl ?_; first | refine OD.box rfl rfl rfl rfl (word_ok _) rfl (fun b2 => ?_) | refine OD.makeSlice rfl rfl rfl rfl rfl rfl rfl rfl (roomB rfl (by omega)) (fun b5 => ?_) | refine OD.indexAddr rfl rfl rfl (indexAddrA_intS (k := 0) rfl rfl rfl rfl (by decide) x0) ?_ | refine OD.indexAddr rfl rfl rfl (indexAddrA_intS (k := 1) rfl rfl rfl rfl (by decide) y0) ?_ | refine OD.call rfl rfl rfl h76 (fun st => u76 x y st (by omega)) (fun _ => rfl) ?_ | refine OD.call rfl rfl rfl h75 (fun st => u75 _ st) av_frz ?_ | refine OD.loadP 0 rfl rfl rfl rfl rfl rfl ?_ | refine OD.auto rfl rfl ?_ | refine OD.loadP 1 rfl rfl rfl rfl rfl rfl ?_) | refine OS.nil ?_ | refine WS.seq ?_ | refine QS.seqN ?_ | refine WS.region ?_ | refine WS.condT rfl ?_ | refine WS.condF rfl ?_ | refine WS.block ?_ | refine WS.ret ?_ | refine QS.seqR ?_ | refine QS.blockR ?_ | refine WS.draw rfl rfl ?_)
  exact QS.retR (by rfl) fun _ => Res.nz
theorem run58_12 (U : U58 pr) (ln : Nat) (n : Int) (kids : GSl Int) (bits : GSl UInt8) (ks : GSl (GSl UInt8)) (hk : KidsOk 12 ln n (vals ks)) (st : St) :
    CW (En pr) 58 [wordAV ⟨12, ln, n, kids, bits⟩, rowsAV ks] st (Res (evalM 12 ln n bits.xs (vals ks))) := by
  obtain ⟨p75, h75, u75⟩ := U.u75
  have hsz := hk.size
  have hc := kid2 hk (by omega)
  obtain ⟨x, x0, x1, x2, x3, x4⟩ := kid hk (i := 0) (by omega)
  obtain ⟨y, y0, y1, y2, y3, y4⟩ := kid hk (i := 1) (by omega)
  have hxy : x.xs.length = y.xs.length := by rw [← x1, ← y1]; exact (hk.cmp (.inr rfl)).2
  have e : evalM 12 ln n bits.xs (vals ks) = oneM (lessM x.xs y.xs) := by rw [← x1, ← y1]; rfl
  rw [e]
  unfold rowsAV
  refine CW.start (N := 237) U.n58 rfl rfl ?_
  repeat' (first | (refine OS.do rfl ?_; first | refine OD.box rfl rfl rfl rfl (word_ok _) rfl (fun b2 => ?_) | refine OD.makeSlice rfl rfl rfl rfl rfl rfl rfl rfl (roomB rfl (by omega)) (fun b5 => ?_) | refine OD.indexAddr rfl rfl rfl (indexAddrA_intS (k := 0) rfl rfl rfl rfl (by decide) x0) ?_ | refine OD.loadP 0 rfl rfl rfl rfl rfl rfl ?_ | refine OD.auto rfl rfl ?_ | refine OD.loadP 1 rfl rfl rfl rfl rfl rfl ?_ | refine OD.len rfl rfl (fun _ => lenTy_av rfl rfl) ?_) | refine OS.nil ?_ | refine WS.seq ?_ | refine QS.seqN ?_ | refine WS.region ?_ | refine WS.condT rfl ?_ | refine WS.condF rfl ?_ | refine WS.block ?_)
  refine WS.loop (D := Nat) (fun j => [(1, ks.av 1 fun x => x.av 1 bitAV), (11, .int .i64 ((j : Int) - 1))]) (fun _ => []) (fun _ => [])
    (fun j => j ≤ x.xs.length ∧ lessJ x.xs y.xs j = lessM x.xs y.xs) (fun j => j) x.xs.length ⟨by omega, rfl⟩ ?_ (.nil _) (.nil _) ?_
  · repeat' (first | exact Sub.nil _ | refine Sub.cons (congrArg (fun z => some (AV.int .i64 z)) (int_wrap (n := (x.xs.length : Int) - 1) (by omega) (by omega))) ?_ | refine Sub.cons (congrArg (fun z => some (AV.int .i64 z)) (wrap_succ (by omega))) ?_ | refine Sub.cons rfl ?_)
  rintro j ⟨hj, ha⟩
  repeat' (first | (refine OS.do rfl ?_; first | refine OD.indexAddr rfl rfl rfl (indexAddrA_intS (k := 0) rfl rfl rfl rfl (by decide) x0) ?_ | refine OD.indexAddr rfl rfl rfl (indexAddrA_intS (k := 1) rfl rfl rfl rfl (by decide) y0) ?_ | refine OD.call rfl rfl rfl h75 (fun st => u75 _ st) av_frz ?_ | refine OD.auto rfl rfl ?_ | refine OD.indexAddr rfl rfl rfl (indexAddrA_int rfl rfl rfl rfl (by first | assumption | omega) (by first | assumption | exact List.getElem?_eq_getElem (by omega))) ?_) | refine OS.nil ?_ | refine WS.seq ?_ | refine QS.seqN ?_ | refine WS.region ?_ | refine WS.condD rfl (fun _ => ?_) (fun _ => ?_) | refine WS.skip ?_ | refine WS.block ?_ | refine WS.ret ?_ | refine QS.seqR ?_ | refine QS.blockR ?_ | refine QS.loopR ?_ | refine QS.blockN ?_ | refine WS.exit ?_ | refine QS.seqE ?_ | refine QS.blockH ?_ | refine QS.loopE ?_ | refine WS.draw rfl rfl ?_ | refine WS.condNe rfl (fun _ => ?_) (fun _ => ?_))
  · obtain ⟨q, rfl⟩ : ∃ q, j = q + 1 := ⟨j - 1, by omega⟩
    have hq : (((q + 1 : Nat) : Int) - 1).toNat = q := by omega
    rename_i hne
    refine QS.retR (by rfl) fun _ => ?_
    simp only [hq] at hne ⊢
    have he : x.xs[q] ≠ y.xs[q] := fun e => by have := congrArg UInt8.toNat e; omega
    have hl : lessM x.xs y.xs = decide ((x.xs[q].toNat : Int) < y.xs[q].toNat) := by
      rw [← ha, lessJ, getD_at (by omega), getD_at (by omega), if_neg he, decide_eq_decide]; omega
    rw [hl]; exact Res.nz
  · obtain ⟨q, rfl⟩ : ∃ q, j = q + 1 := ⟨j - 1, by omega⟩
    have hq : (((q + 1 : Nat) : Int) - 1).toNat = q := by omega
    rename_i heq
    simp only [hq] at heq
    have he : x.xs[q] = y.xs[q] := UInt8.toNat_inj.1 (by omega)
    refine QS.loopN q ?_ ?_ ?_ ?_ ?_
    · refine ⟨by omega, ?_⟩
      rw [← ha, lessJ, getD_at (by omega), getD_at (by omega), if_pos he]
    · omega
    · repeat' (first | exact Sub.nil _ | refine Sub.cons (congrArg (fun z => some (AV.int .i64 z)) ((int_wrap (n := ((q + 1 : Nat) : Int) - 1 - 1) (by omega) (by omega)).trans (by omega))) ?_ | refine Sub.cons (congrArg (fun z => some (AV.int .i64 z)) (wrap_succ (by omega))) ?_ | refine Sub.cons rfl ?_)
    · exact .nil _
    · exact .nil _
  · have hj0 : j = 0 := by omega
    subst hj0
    refine QS.retR (by rfl) fun _ => ?_
    rw [← ha]; exact Res.nz
theorem run58_13 (U : U58 pr) (ln : Nat) (n : Int) (kids : GSl Int) (bits : GSl UInt8) (ks : GSl (GSl UInt8)) (hk : KidsOk 13 ln n (vals ks)) (st : St) :
    CW (En pr) 58 [wordAV ⟨13, ln, n, kids, bits⟩, rowsAV ks] st (Res (evalM 13 ln n bits.xs (vals ks))) := by
  obtain ⟨p46, h46, u46⟩ := U.u46
  have hsz := hk.size
  have hc := kid3 hk
  obtain ⟨x, x0, x1, x2, x3, x4⟩ := kid hk (i := 0) (by omega)
  obtain ⟨y, y0, y1, y2, y3, y4⟩ := kid hk (i := 1) (by omega)
  obtain ⟨z, z0, z1, z2, z3, z4⟩ := kid hk (i := 2) (by omega)
  have e : evalM 13 ln n bits.xs (vals ks) = if x.xs.getD 0 0 = 1 then y.xs else z.xs := by rw [← x1, ← y1, ← z1]; rfl
  rw [e]
  have hx1 : (x.xs[0]'(by omega)).toNat ≤ 1 := upto_at x2 (by omega)
  have hx : (x.xs[0]? = some 1 ∧ x.xs.getD 0 0 = 1) ∨ (x.xs[0]? = some 0 ∧ x.xs.getD 0 0 = 0) := by
    rw [getD_at (by omega), List.getElem?_eq_getElem (by omega)]
    have : (x.xs[0]'(by omega)).toNat = 1 ∨ (x.xs[0]'(by omega)).toNat = 0 := by omega
    rcases this with h | h
    · have e : x.xs[0]'(by omega) = 1 := UInt8.toNat_inj.1 h
      exact .inl ⟨by rw [e], e⟩
    · have e : x.xs[0]'(by omega) = 0 := UInt8.toNat_inj.1 h
      exact .inr ⟨by rw [e], e⟩
  unfold rowsAV
  rcases hx with ⟨hx0, hx1⟩ | ⟨hx0, hx1⟩
  · rw [if_pos hx1]
    refine CW.start (N := 237) U.n58 rfl rfl ?_
    repeat' (first | (refine OS.do rfl ?_; first | refine OD.box rfl rfl rfl rfl (word_ok _) rfl (fun b2 => ?_) | refine OD.makeSlice rfl rfl rfl rfl rfl rfl rfl rfl (roomB rfl (by omega)) (fun b5 => ?_) | refine OD.indexAddr rfl rfl rfl (indexAddrA_intS (k := 0) rfl rfl rfl rfl (by decide) x0) ?_ | refine OD.indexAddr rfl rfl rfl (indexAddrA_int (k := 0) rfl rfl rfl rfl (by decide) hx0) ?_ | refine OD.bin (v := .int .u8 1) rfl rfl rfl rfl ?_ | refine OD.indexAddr rfl rfl rfl (indexAddrA_intS (k := 1) rfl rfl rfl rfl (by decide) y0) ?_ | refine OD.call rfl rfl rfl h46 (fun st => u46 y st (ne_of_len (by omega)) (by omega)) av_frz ?_ | refine OD.loadP 0 rfl rfl rfl rfl rfl rfl ?_ | refine OD.auto rfl rfl ?_ | refine OD.loadP 1 rfl rfl rfl rfl rfl rfl ?_) | refine OS.nil ?_ | refine WS.seq ?_ | refine QS.seqN ?_ | refine WS.region ?_ | refine WS.condT rfl ?_ | refine WS.condF rfl ?_ | refine WS.block ?_ | refine WS.ret ?_ | refine QS.seqR ?_ | refine QS.blockR ?_)
    exact QS.retR (by rfl) fun _ => Res.nz
  · rw [if_neg (by rw [hx1]; decide)]
    refine CW.start (N := 237) U.n58 rfl rfl ?_
    repeat' (first | (refine OS.do rfl ?_; first | refine OD.box rfl rfl rfl rfl (word_ok _) rfl (fun b2 => ?_) | refine OD.makeSlice rfl rfl rfl rfl rfl rfl rfl rfl (roomB rfl (by omega)) (fun b5 => ?_) | refine OD.indexAddr rfl rfl rfl (indexAddrA_intS (k := 0) rfl rfl rfl rfl (by decide) x0) ?_ | refine OD.indexAddr rfl rfl rfl (indexAddrA_int (k := 0) rfl rfl rfl rfl (by decide) hx0) ?_ | refine OD.bin (v := .int .u8 2) rfl rfl rfl rfl ?_ | refine OD.indexAddr rfl rfl rfl (indexAddrA_intS (k := 2) rfl rfl rfl rfl (by decide) z0) ?_ | refine OD.call rfl rfl rfl h46 (fun st => u46 z st (ne_of_len (by omega)) (by omega)) av_frz ?_ | refine OD.loadP 0 rfl rfl rfl rfl rfl rfl ?_ | refine OD.auto rfl rfl ?_ | refine OD.loadP 1 rfl rfl rfl rfl rfl rfl ?_) | refine OS.nil ?_ | refine WS.seq ?_ | refine QS.seqN ?_ | refine WS.region ?_ | refine WS.condT rfl ?_ | refine WS.condF rfl ?_ | refine WS.block ?_ | refine WS.ret ?_ | refine QS.seqR ?_ | refine QS.blockR ?_)
    exact QS.retR (by rfl) fun _ => Res.nz
theorem run58_14 (U : U58 pr) (ln : Nat) (n : Int) (kids : GSl Int) (bits : GSl UInt8) (ks : GSl (GSl UInt8)) (hk : KidsOk 14 ln n (vals ks)) (st : St) :
    CW (En pr) 58 [wordAV ⟨14, ln, n, kids, bits⟩, rowsAV ks] st (Res (evalM 14 ln n bits.xs (vals ks))) := by
  have hsz := hk.size
  have hc := kidC hk
  have hj := hk.join rfl
  have e : evalM 14 ln n bits.xs (vals ks) = (vals ks).flatten := rfl
  rw [e]
  refine CW.start (N := 237) U.n58 rfl rfl ?_
  repeat' (first | (refine OS.do rfl ?_; first | refine OD.box rfl rfl rfl rfl (word_ok _) rfl (fun b2 => ?_) | refine OD.makeSlice rfl rfl rfl rfl rfl rfl rfl rfl (roomB rfl (by omega)) (fun b5 => ?_) | refine OD.callFz rfl rfl rfl rfl (by rw [List.length_map]) (fun st hS => run74s U.n74 U.n80 ks (by omega) (by omega) (by omega) hS) (fun tk => ?_) | refine OD.loadP 0 rfl rfl rfl rfl rfl rfl ?_ | refine OD.auto rfl rfl ?_ | refine OD.loadP 1 rfl rfl rfl rfl rfl rfl ?_) | refine OS.nil ?_ | refine WS.seq ?_ | refine QS.seqN ?_ | refine WS.region ?_ | refine WS.condT rfl ?_ | refine WS.condF rfl ?_ | refine WS.block ?_ | refine WS.ret ?_ | refine QS.seqR ?_ | refine QS.blockR ?_)
  exact QS.retR (by rfl) fun _ => Res.tok
theorem run58_15 (U : U58 pr) (ln m : Nat) (kids : GSl Int) (bits : GSl UInt8) (ks : GSl (GSl UInt8)) (hk : KidsOk 15 ln m (vals ks)) (st : St) :
    CW (En pr) 58 [wordAV ⟨15, ln, m, kids, bits⟩, rowsAV ks] st (Res (evalM 15 ln m bits.xs (vals ks))) := by
  obtain ⟨p46, h46, u46⟩ := U.u46
  have hsz := hk.size
  have hc := kid1 hk
  obtain ⟨x, x0, x1, x2, x3, x4⟩ := kid hk (i := 0) (by omega)
  have hp := hk.part rfl
  rw [x1] at hp
  have e : evalM 15 ln m bits.xs (vals ks) = (x.xs.drop m).take ln := by rw [← x1]; rfl
  rw [e]
  unfold rowsAV
  refine CW.start (N := 237) U.n58 rfl rfl ?_
  repeat' (first | (refine OS.do rfl ?_; first | refine OD.box rfl rfl rfl rfl (word_ok _) rfl (fun b2 => ?_) | refine OD.makeSlice rfl rfl rfl rfl rfl rfl rfl rfl (roomB rfl (by omega)) (fun b5 => ?_) | refine OD.indexAddr rfl rfl rfl (indexAddrA_intS (k := 0) rfl rfl rfl rfl (by decide) x0) ?_ | refine OD.bin (v := .int .i64 ((m + ln : Nat) : Int)) rfl rfl rfl (congrArg (fun z => some (AV.int .i64 z)) ((int_wrap (n := (m : Int) + ln) (by omega) (by omega)).trans (by omega))) ?_ | refine OD.slice rfl rfl rfl rfl rfl (slice_lohi (by omega) rfl rfl rfl rfl (by omega) (by omega)) ?_ | refine OD.call rfl rfl rfl h46 (fun st => u46 (nz ((x.xs.drop m).take (m + ln - m))) st (ne_of_len (by simp only [nz, List.length_take, List.length_drop]; omega)) (by simp only [nz, List.length_take, List.length_drop]; omega)) av_frz ?_ | refine OD.loadP 0 rfl rfl rfl rfl rfl rfl ?_ | refine OD.auto rfl rfl ?_ | refine OD.loadP 1 rfl rfl rfl rfl rfl rfl ?_) | refine OS.nil ?_ | refine WS.seq ?_ | refine QS.seqN ?_ | refine WS.region ?_ | refine WS.condT rfl ?_ | refine WS.condF rfl ?_ | refine WS.block ?_ | refine WS.ret ?_ | refine QS.seqR ?_ | refine QS.blockR ?_ | refine WS.draw rfl rfl ?_)
  refine QS.retR (by rfl) fun _ => ?_
  have e2 : m + ln - m = ln := by omega
  rw [e2]
  exact Res.nz
theorem run58_16 (U : U58 pr) (ln : Nat) (n : Int) (kids : GSl Int) (bits : GSl UInt8) (ks : GSl (GSl UInt8)) (hk : KidsOk 16 ln n (vals ks)) (st : St) :
    CW (En pr) 58 [wordAV ⟨16, ln, n, kids, bits⟩, rowsAV ks] st (Res (evalM 16 ln n bits.xs (vals ks))) := by
  obtain ⟨p77, h77, u77⟩ := U.u77
  have hsz := hk.size
  have hc := kid2 hk (by omega)
  obtain ⟨x, x0, x1, x2, x3, x4⟩ := kid hk (i := 0) (by omega)
  obtain ⟨y, y0, y1, y2, y3, y4⟩ := kid hk (i := 1) (by omega)
  have hs := hk.shift (.inl rfl)
  rw [x1, y1] at hs
  obtain ⟨lx, ly⟩ := hs
  have lx : ln = x.xs.length := by omega
  have e : evalM 16 ln n bits.xs (vals ks) = leftM x.xs (numM y.xs) := by rw [← x1, ← y1]; rfl
  rw [e]
  subst lx
  obtain ⟨z, hz1, hz2⟩ := elems_bits' x
  unfold rowsAV
  refine CW.start (N := 237) U.n58 rfl rfl ?_
  repeat' (first | (refine OS.do rfl ?_; first | refine OD.box rfl rfl rfl rfl (word_ok _) rfl (fun b2 => ?_) | refine OD.makeSlice rfl rfl rfl rfl rfl rfl rfl rfl (roomB rfl (by omega)) (fun b5 => ?_) | refine OD.indexAddr rfl rfl rfl (indexAddrA_intS (k := 0) rfl rfl rfl rfl (by decide) x0) ?_ | refine OD.indexAddr rfl rfl rfl (indexAddrA_intS (k := 1) rfl rfl rfl rfl (by decide) y0) ?_ | refine OD.call rfl rfl rfl h77 (fun st => u77 y st (by omega) y2) (fun _ => rfl) ?_ | refine OD.slice rfl rfl rfl rfl rfl (sliceA_slLo (h := numM y.xs) rfl rfl rfl rfl (by have h9 : (numM y.xs : Int) < x.xs.length := (by assumption); omega)) ?_ | refine OD.copy 0 rfl rfl rfl rfl (by have h9 : (numM y.xs : Int) < x.xs.length := (by assumption); rw [List.length_replicate]; omega) rfl rfl rfl rfl rfl rfl isStr_av hz1 (okBits rfl _) hz2 (by have h9 : (numM y.xs : Int) < x.xs.length := (by assumption); rw [List.length_map]; omega) ?_ | refine OD.loadP 0 rfl rfl rfl rfl rfl rfl ?_ | refine OD.auto rfl rfl ?_ | refine OD.loadP 1 rfl rfl rfl rfl rfl rfl ?_) | refine OS.nil ?_ | refine WS.seq ?_ | refine QS.seqN ?_ | refine WS.region ?_ | refine WS.condT rfl ?_ | refine WS.condF rfl ?_ | refine WS.condD rfl (fun _ => ?_) (fun _ => ?_) | refine WS.skip ?_ | refine WS.block ?_ | refine WS.ret ?_ | refine QS.blockN ?_ | refine WS.draw rfl rfl ?_)
  · rename_i hlt
    have hlt : (numM y.xs : Int) < x.xs.length := hlt
    refine QS.retRS (by rfl) fun st hS => Res.row (by rw [leftM_len]) ?_
    have := (hS.obj 0 b5 _ rfl).1
    rw [← copy_up (by omega)]
    exact this
  · rename_i hlt
    have hlt : ¬ (numM y.xs : Int) < x.xs.length := hlt
    refine QS.retRS (by rfl) fun st hS => Res.row (by rw [leftM_len]) ?_
    have := (hS.obj 0 b5 _ rfl).1
    rw [leftM_over _ _ (by omega), List.map_replicate]
    exact this
theorem run58_17 (U : U58 pr) (ln : Nat) (n : Int) (kids : GSl Int) (bits : GSl UInt8) (ks : GSl (GSl UInt8)) (hk : KidsOk 17 ln n (vals ks)) (st : St) :
    CW (En pr) 58 [wordAV ⟨17, ln, n, kids, bits⟩, rowsAV ks] st (Res (evalM 17 ln n bits.xs (vals ks))) := by
  obtain ⟨p77, h77, u77⟩ := U.u77
  have hsz := hk.size
  have hc := kid2 hk (by omega)
  obtain ⟨x, x0, x1, x2, x3, x4⟩ := kid hk (i := 0) (by omega)
  obtain ⟨y, y0, y1, y2, y3, y4⟩ := kid hk (i := 1) (by omega)
  have hs := hk.shift (.inr rfl)
  rw [x1, y1] at hs
  obtain ⟨lx, ly⟩ := hs
  have lx : ln = x.xs.length := by omega
  have e : evalM 17 ln n bits.xs (vals ks) = leftM x.xs (-(numM y.xs : Int)) := by rw [← x1, ← y1]; rfl
  rw [e]
  subst lx
  unfold rowsAV
  refine CW.start (N := 237) U.n58 rfl rfl ?_
  repeat' (first | (refine OS.do rfl ?_; first | refine OD.box rfl rfl rfl rfl (word_ok _) rfl (fun b2 => ?_) | refine OD.makeSlice rfl rfl rfl rfl rfl rfl rfl rfl (roomB rfl (by omega)) (fun b5 => ?_) | refine OD.indexAddr rfl rfl rfl (indexAddrA_intS (k := 0) rfl rfl rfl rfl (by decide) x0) ?_ | refine OD.indexAddr rfl rfl rfl (indexAddrA_intS (k := 1) rfl rfl rfl rfl (by decide) y0) ?_ | refine OD.call rfl rfl rfl h77 (fun st => u77 y st (by omega) y2) (fun _ => rfl) ?_ | refine OD.slice rfl rfl rfl rfl rfl (slice_lo (lo := numM y.xs) (by omega) rfl rfl rfl rfl (by have h9 : (numM y.xs : Int) < x.xs.length := (by assumption); omega)) ?_ | refine OD.copy 0 rfl rfl rfl rfl (by rw [List.length_replicate]; omega) rfl rfl rfl rfl rfl rfl rfl (fun _ => rfl) (okBits rfl _) (Bool.or_true _) (by have h9 : (numM y.xs : Int) < x.xs.length := (by assumption); rw [List.length_map, List.length_drop]; omega) ?_ | refine OD.loadP 0 rfl rfl rfl rfl rfl rfl ?_ | refine OD.auto rfl rfl ?_ | refine OD.loadP 1 rfl rfl rfl rfl rfl rfl ?_) | refine OS.nil ?_ | refine WS.seq ?_ | refine QS.seqN ?_ | refine WS.region ?_ | refine WS.condT rfl ?_ | refine WS.condF rfl ?_ | refine WS.condD rfl (fun _ => ?_) (fun _ => ?_) | refine WS.skip ?_ | refine WS.block ?_ | refine WS.ret ?_ | refine QS.blockN ?_)
  · rename_i hlt
    have hlt : (numM y.xs : Int) < x.xs.length := hlt
    refine QS.retRS (by rfl) fun st hS => Res.row (by rw [leftM_len]) ?_
    have := (hS.obj 0 b5 _ rfl).1
    rw [← copy_down (by omega)]
    exact this
  · rename_i hlt
    have hlt : ¬ (numM y.xs : Int) < x.xs.length := hlt
    refine QS.retRS (by rfl) fun st hS => Res.row (by rw [leftM_len]) ?_
    have := (hS.obj 0 b5 _ rfl).1
    rw [leftM_under _ _ (by omega), List.map_replicate]
    exact this
end
end Go.RtlEnv
