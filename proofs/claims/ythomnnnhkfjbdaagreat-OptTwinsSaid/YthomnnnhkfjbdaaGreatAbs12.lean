/- Own text of this claim: part 12 of an interpreter that is proved sound against the model, and of what it shows of the law. -/
import Derived.Test.YthomnnnhkfjbdaaGreatAbs11
import Derived.Test.YthomnnnhkfjbdaaGreatAbs9
/- Eval, where the registers' bits lie in memory. -/
namespace Go.OptEnv
open Go Go.Proofs Go.Abs Go.RowKit Go.NetM
set_option maxRecDepth 10000
attribute [local irreducible] WS QS OS OD Abs.Sub SubO SubK CW GSl.av accA growA
section
variable {pr : Prims}
set_option maxHeartbeats 1000000 in
theorem run59o (h1 : pr 59 = none) (h109 : pr 109 = none) (h57 : Has pr 57 Rel57) (h131 : Has pr 131 Rel131) (h110 : Has pr 110 Rel110) (h132 : pr 132 = some (tabPrim tab132)) (n : GNet) (hn : FitsN n) (ins : GSl UInt8) (regs : List UInt8) (hi : ins.xs.length ≤ 100000000000) (hr : regs.length ≤ 100000000000) {L : List (Nat × AObj)} {RA : AV} (hRA : BArg L RA regs) {st : St} (hS : SFa L [] st) :
    CW (En pr) 59 [netAV n, ins.av 1 bitAV, RA] st fun r st' => ((evalR n ins.xs regs = none ∧ r = .tup [.nilsl, .nilsl, .int .i64 2]) ∨ ∃ o x t u, evalR n ins.xs regs = some (o, x) ∧ r = .tup [accA t 1 (o.map bitAV), accA u 1 (x.map bitAV), .int .i64 0]) ∧ SFa L [] st' := by
  have hn' := hn
  obtain ⟨f1, f2, f3, f4, _, _, _, _, _, _⟩ := hn'
  have u1 := fun (p : Nat × AObj) (st : St) (hs : SFa (p :: L) [] st) => run109o h109 h57 h131 h110 h132 n hn ins regs hi hr (hRA.up (p := p)) hs
  unfold evalR
  cases hx : allR n ins.xs regs with
  | none =>
    have c1 : ∀ (p : Nat × AObj) (st : St), SFa (p :: L) [] st → CW (En pr) 109 [netAV n, ins.av 1 bitAV, RA] st fun x st' => x = .tup [.nilsl, .int .i64 2] ∧ SFa (p :: L) [] st' := fun p st hs => (u1 p st hs).mono fun x st' h => And.intro (by
      rcases h.1 with ⟨_, h⟩ | ⟨v, b, t, h, _⟩
      · exact h
      · exact absurd (hx.symm.trans h) (by simp)) h.2
    refine CW.startS (N := 56) h1 rfl rfl hS ?_
    repeat' (first | (refine OS.do rfl ?_; first | refine OD.box rfl rfl rfl rfl (net_ok _) rfl (fun b1 => ?_) | refine OD.loadP 0 rfl rfl rfl rfl rfl rfl ?_ | refine OD.auto rfl rfl ?_ | refine OD.callS rfl rfl rfl (c1 _) (fun _ => rfl) ?_) | refine OS.nil ?_ | refine WS.seq ?_ | refine QS.seqN ?_ | refine WS.region ?_ | refine WS.condT rfl ?_ | refine WS.ret ?_ | refine QS.seqR ?_)
    refine QS.retRS (by rfl) fun _ hS => ⟨.inl ⟨rfl, rfl⟩, hS.tail⟩
  | some v =>
    rw [hx] at u1
    obtain ⟨hv, _, _, _, _, _, hv2, hvl⟩ := allR_spec hx
    have hgn := hv.gatesN
    have hvb : v.length ≤ 300000 := by
      have := names_len hv.ins
      have := names_len hv.regs
      simp only [List.length_map, GNet.nodes, GNet.first] at *
      omega
    have hol : n.outs.xs.length ≤ 500 := by have := names_len hv.outs; simpa using this
    have hrl : n.regs.xs.length ≤ 500 := by have := names_len hv.regs; simpa using this
    have c1 : ∀ (p : Nat × AObj) (st : St), SFa (p :: L) [] st → CW (En pr) 109 [netAV n, ins.av 1 bitAV, RA] st fun x st' => (∃ b t, x = .tup [growA b t 1 (v.map bitAV), .int .i64 0]) ∧ SFa (p :: L) [] st' := fun p st hs => (u1 p st hs).mono fun x st' h => And.intro (by
      rcases h.1 with ⟨h, _⟩ | ⟨v', b, t, h, h'⟩
      · exact absurd h (by simp)
      · rw [Option.some.injEq] at h; subst h; exact ⟨b, t, h'⟩) h.2
    have hz1 : ∀ (y : AV) (st : St), (∃ b t, y = .tup [growA b t 1 (v.map bitAV), .int .i64 0]) → freezeA st y = some (y, st) := by
      rintro y st ⟨b, t, rfl⟩
      exact freeze_free (by simp only [AV.free, AV.freeL, free_grow bit_free, Bool.and_true])
    refine CW.startS (N := 56) h1 rfl rfl hS ?_
    repeat' (first | (refine OS.do rfl ?_; first | refine OD.box rfl rfl rfl rfl (net_ok _) rfl (fun b1 => ?_) | refine OD.loadP 0 rfl rfl rfl rfl rfl rfl ?_ | refine OD.auto rfl rfl ?_ | refine OD.len rfl rfl (fun _ => lenTy_av rfl rfl) ?_ | (refine OD.callP (fun x => ∃ b t, x = .tup [growA b t 1 (v.map bitAV), .int .i64 0]) rfl rfl rfl (c1 _) hz1 ?_; rintro y ⟨gb, gt, rfl⟩)) | refine OS.nil ?_ | refine WS.seq ?_ | refine QS.seqN ?_ | refine WS.region ?_ | refine WS.condF rfl ?_ | refine WS.skip ?_ | refine WS.block ?_)
    refine WS.range (A := Nat × List UInt8) (n := n.outs.xs.length) ⟨27, _, fun a => [(6, accA a.1 1 (a.2.map bitAV))], fun _ => (b1, .row 4 [netAV n]) :: L, fun a => [(a.1, !(a.2.map bitAV).isEmpty)], fun i a => a.2 = (n.outs.xs.take i).map (fun p => ofL v p.lit)⟩ ((0, [])) [3, 7, 9, 25, 26] (by rfl) (by omega) (by simp) (by rfl) (by (try dsimp only); repeat' (first | exact Sub.nil _ | refine Sub.cons (congrArg some (accA_nil _ _).symm) ?_ | refine Sub.cons (congrArg (fun z => some (AV.int .i64 z)) (wrap_succ (by omega))) ?_ | refine Sub.cons rfl ?_)) (by (try dsimp only); repeat' (first | exact SubO.nil _ | exact SubO.refl _ | refine SubO.keep ?_ | refine SubO.drop ?_)) (by (try dsimp only); repeat' (first | exact SubK.nil _ | exact SubK.refl _ | refine SubK.keep (by simp) ?_ | refine SubK.new ?_ | refine SubK.drop ?_)) (by rfl) (by rfl) (by rfl) (by rfl) (by rfl) (by rfl) (fun _ _ => by rfl) (fun _ => by rfl) (fun _ _ => by rfl) (fun _ _ => by rfl) ?_ ?_
    · rintro i ⟨tk, a⟩ hi ha
      try dsimp only at ha
      have hal : a.length ≤ 500 := by rw [ha]; simp only [List.length_map, List.length_take]; omega
      have hl := lit_of (all_get hv.lits hi)
      have c1 := use110g h110 (k := n.outs.xs[i].lit) (v := v) (b := gb) (t := gt) ⟨hl.1, by omega⟩ (by omega) hv2
      dsimp only [RSt.at, List.cons_append, List.nil_append]
      repeat' (first | (refine OS.do rfl ?_; first | refine OD.loadP 0 rfl rfl rfl rfl rfl rfl ?_ | refine OD.auto rfl rfl ?_ | refine OD.indexAddr rfl rfl rfl (indexAddrA_nat rfl rfl rfl rfl (by first | assumption | exact List.getElem?_eq_getElem (by omega))) ?_ | refine OD.alloc rfl rfl rfl rfl (fun _ => ?_) | refine OD.storeW 0 rfl rfl rfl rfl (by first | rfl | exact net_ok _) rfl rfl rfl ?_ | refine OD.call rfl rfl rfl h110.eq c1 (fun _ => rfl) ?_ | refine OD.append 0 rfl rfl rfl rfl rfl rfl rfl rfl rfl rfl rfl (.inr ⟨⟨_, rfl⟩, rfl⟩) (fun _ => rfl) rfl rfl (roomB rfl (by simp only [List.length_map, List.length_append, List.length_take, List.length_cons, List.length_nil]; omega)) (fun tk' => ?_)) | refine OS.nil ?_ | refine WS.seq ?_ | refine QS.seqN ?_ | refine WS.region ?_)
      refine QS.rangeN ((tk', a ++ [ofL v n.outs.xs[i].lit])) (by (try dsimp only) <;> exact (by rw [map_take_succ hi, ha])) (by (try dsimp only [RSt.at, List.cons_append, List.nil_append]); repeat' (first | exact Sub.nil _ | refine Sub.cons (by rw [List.map_append]; rfl) ?_ | refine Sub.cons (congrArg (fun z => some (AV.int .i64 z)) (wrap_succ (by omega))) ?_ | refine Sub.cons rfl ?_)) (by (try dsimp only); repeat' (first | exact SubO.nil _ | exact SubO.refl _ | refine SubO.keep ?_ | refine SubO.drop ?_)) (by (try dsimp only); repeat' (first | exact SubK.nil _ | exact SubK.refl _ | refine SubK.keep (by simp) ?_ | refine SubK.new ?_ | refine SubK.drop ?_))
    rintro ⟨tk, a⟩ ha
    try dsimp only at ha
    rw [List.take_of_length_le (Nat.le_refl _)] at ha
    dsimp only [RSt.at, List.cons_append, List.nil_append]
    repeat' (first | (refine OS.do rfl ?_; first | refine OD.loadP 0 rfl rfl rfl rfl rfl rfl ?_ | refine OD.auto rfl rfl ?_ | refine OD.len rfl rfl (fun _ => lenTy_av rfl rfl) ?_) | refine OS.nil ?_ | refine WS.seq ?_ | refine QS.seqN ?_ | refine WS.region ?_ | refine WS.block ?_)
    refine WS.range (A := Nat × List UInt8) (n := n.regs.xs.length) ⟨42, _, fun a => [(7, accA a.1 1 (a.2.map bitAV))], fun _ => (b1, .row 4 [netAV n]) :: L, fun a => [(a.1, !(a.2.map bitAV).isEmpty)], fun i a => a.2 = (n.regs.xs.take i).map (fun p => ofL v p.next)⟩ ((0, [])) [6, 9, 40, 41] (by rfl) (by omega) (by simp) (by rfl) (by (try dsimp only); repeat' (first | exact Sub.nil _ | refine Sub.cons (congrArg some (accA_nil _ _).symm) ?_ | refine Sub.cons (congrArg (fun z => some (AV.int .i64 z)) (wrap_succ (by omega))) ?_ | refine Sub.cons rfl ?_)) (by (try dsimp only); repeat' (first | exact SubO.nil _ | exact SubO.refl _ | refine SubO.keep ?_ | refine SubO.drop ?_)) (by (try dsimp only); repeat' (first | exact SubK.nil _ | exact SubK.refl _ | refine SubK.keep (by simp) ?_ | refine SubK.new ?_ | refine SubK.drop ?_)) (by rfl) (by rfl) (by rfl) (by rfl) (by rfl) (by rfl) (fun _ _ => by rfl) (fun _ => by rfl) (fun _ _ => by rfl) (fun _ _ => by rfl) ?_ ?_
    · rintro i ⟨tk2, c⟩ hi hc
      try dsimp only at hc
      have hcl : c.length ≤ 500 := by rw [hc]; simp only [List.length_map, List.length_take]; omega
      have hl := lit_of (all_get hv.nexts hi)
      have c1 := use110g h110 (k := n.regs.xs[i].next) (v := v) (b := gb) (t := gt) ⟨hl.1, by omega⟩ (by omega) hv2
      dsimp only [RSt.at, List.cons_append, List.nil_append]
      repeat' (first | (refine OS.do rfl ?_; first | refine OD.loadP 0 rfl rfl rfl rfl rfl rfl ?_ | refine OD.auto rfl rfl ?_ | refine OD.indexAddr rfl rfl rfl (indexAddrA_nat rfl rfl rfl rfl (by first | assumption | exact List.getElem?_eq_getElem (by omega))) ?_ | refine OD.alloc rfl rfl rfl rfl (fun _ => ?_) | refine OD.storeW 0 rfl rfl rfl rfl (by first | rfl | exact net_ok _) rfl rfl rfl ?_ | refine OD.call rfl rfl rfl h110.eq c1 (fun _ => rfl) ?_ | refine OD.append 0 rfl rfl rfl rfl rfl rfl rfl rfl rfl rfl rfl (.inr ⟨⟨_, rfl⟩, rfl⟩) (fun _ => rfl) rfl rfl (roomB rfl (by simp only [List.length_map, List.length_append, List.length_take, List.length_cons, List.length_nil]; omega)) (fun tk' => ?_)) | refine OS.nil ?_ | refine WS.seq ?_ | refine QS.seqN ?_ | refine WS.region ?_)
      refine QS.rangeN ((tk', c ++ [ofL v n.regs.xs[i].next])) (by (try dsimp only) <;> exact (by rw [map_take_succ hi, hc])) (by (try dsimp only [RSt.at, List.cons_append, List.nil_append]); repeat' (first | exact Sub.nil _ | refine Sub.cons (by rw [List.map_append]; rfl) ?_ | refine Sub.cons (congrArg (fun z => some (AV.int .i64 z)) (wrap_succ (by omega))) ?_ | refine Sub.cons rfl ?_)) (by (try dsimp only); repeat' (first | exact SubO.nil _ | exact SubO.refl _ | refine SubO.keep ?_ | refine SubO.drop ?_)) (by (try dsimp only); repeat' (first | exact SubK.nil _ | exact SubK.refl _ | refine SubK.keep (by simp) ?_ | refine SubK.new ?_ | refine SubK.drop ?_))
    rintro ⟨tk2, c⟩ hc
    try dsimp only at hc
    rw [List.take_of_length_le (Nat.le_refl _)] at hc
    dsimp only [RSt.at, List.cons_append, List.nil_append]
    repeat' (first | (refine OS.do rfl ?_; first | refine OD.auto rfl rfl ?_) | refine OS.nil ?_ | refine WS.seq ?_ | refine QS.seqN ?_ | refine WS.region ?_ | refine WS.ret ?_)
    refine QS.retRS (by rfl) fun _ hS => ⟨.inr ⟨a, c, tk, tk2, ?_, rfl⟩, hS.tail.noK⟩
    rw [ha, hc]; rfl
end
end Go.OptEnv

/- slices.Repeat at one x, for few: by closed runs. -/
namespace Go.OptEnv
open Go Go.Proofs Go.Abs Go.RowKit Go.NetM
set_option maxRecDepth 100000
def row58 (c : Nat) : List AV × AV := ([.vs 1 .any [.int .u8 2], .int .i64 (c : Int)], .vs 1 .any (List.replicate c (.int .u8 2)))
def tab58 : List (List AV × AV) := (List.range 121).map row58
noncomputable def runs58 (a b : Nat) : Bool := (List.range' a b).all fun c => runIs (En ap0) 2000 58 (row58 c).1 (row58 c).2
theorem runs58_a : runs58 0 31 = true := by kernel_rfl
theorem runs58_b : runs58 31 30 = true := by kernel_rfl
theorem runs58_c : runs58 61 30 = true := by kernel_rfl
theorem runs58_d : runs58 91 30 = true := by kernel_rfl
theorem runs58_at {a b c : Nat} (h : runs58 a b = true) (h1 : a ≤ c) (h2 : c < a + b) : runIs (En ap0) 2000 58 (row58 c).1 (row58 c).2 = true := by
  refine List.all_eq_true.1 h c ?_
  rw [List.mem_range'_1]; omega
theorem tabok58 : TabOk (En ap0) 58 tab58 := by
  intro e he
  obtain ⟨c, hc, rfl⟩ := List.mem_map.1 he
  have hc : c < 121 := List.mem_range.1 hc
  refine ⟨2000, ?_⟩
  by_cases h1 : c < 31
  · exact runs58_at runs58_a (by omega) (by omega)
  · by_cases h2 : c < 61
    · exact runs58_at runs58_b (by omega) (by omega)
    · by_cases h3 : c < 91
      · exact runs58_at runs58_c (by omega) (by omega)
      · exact runs58_at runs58_d (by omega) (by omega)
def find58 (c : Nat) : Bool := match tabFind tab58 (row58 c).1 with | some r => AV.beq r (row58 c).2 | none => false
theorem found58 : ((List.range 121).all find58) = true := by kernel_rfl
theorem use58 {c : Nat} (h : c ≤ 120) (st : St) : tabPrim tab58 [.vs 1 .full [.int .u8 2], .int .i64 (c : Int)] st = some ((GSl.some (List.replicate c 2)).av 1 bitAV, st) := by
  have h1 := List.all_eq_true.1 found58 c (List.mem_range.2 (by omega))
  have e : (GSl.some (List.replicate c (2 : UInt8))).av 1 bitAV = (row58 c).2 := by
    show AV.vs 1 .any ((List.replicate c (2 : UInt8)).map bitAV) = AV.vs 1 .any _
    rw [List.map_replicate]; rfl
  rw [e]
  have e2 : tabPrim tab58 [.vs 1 .full [.int .u8 2], .int .i64 (c : Int)] st = (match tabFind tab58 (row58 c).1 with | some r => some (r, st) | none => none) := rfl
  rw [e2]
  unfold find58 at h1
  split at h1
  · rename_i r hr
    rw [AV.eq_of_beq _ _ h1]
  · cases h1
end Go.OptEnv

/- Stuck, as the program has it. -/
namespace Go.OptEnv
open Go Go.Proofs Go.Abs Go.RowKit Go.NetM
set_option maxRecDepth 10000
theorem row_get {m : List UInt8} {i : Nat} (h : i < m.length) : (m.map bitAV)[i]? = some (bitAV m[i]) := by
  rw [List.getElem?_map, List.getElem?_eq_getElem h]; rfl
theorem le2_zip {S L : List UInt8} (h : le2 S = true) : le2 (List.zipWith downB S L) = true := by
  induction S generalizing L with
  | nil => rfl
  | cons s S ih =>
    cases L with
    | nil => rfl
    | cons b L =>
      simp only [le2, List.all_cons, Bool.and_eq_true, decide_eq_true_eq] at h
      simp only [List.zipWith_cons_cons, le2, List.all_cons, Bool.and_eq_true, decide_eq_true_eq]
      refine ⟨?_, ih h.2⟩
      unfold downB
      split
      · decide
      · exact h.1
theorem sink_of_fix {gs : List (Int × Int)} {nins : Nat} {next : List Int} {S : List UInt8} (h : downM gs nins next S = S) : ∀ m, sinkM gs nins next m S = S
  | 0 => rfl
  | m + 1 => by simp only [sinkM, if_pos h]
theorem sink_step {gs : List (Int × Int)} {nins : Nat} {next : List Int} {S : List UInt8} {m : Nat} (hl : S.length = next.length) (hk : knownN S ≤ m) (h : downM gs nins next S ≠ S) :
    ∃ m', knownN (downM gs nins next S) ≤ m' ∧ knownN (downM gs nins next S) < knownN S ∧ sinkM gs nins next m S = sinkM gs nins next m' (downM gs nins next S) := by
  have h1 := (knownN_zip S (litsB gs (List.replicate nins 2) S next) (by rw [litsB_len, hl])).2 h
  have h1 : knownN (downM gs nins next S) < knownN S := h1
  cases m with
  | zero => omega
  | succ m => exact ⟨m, by omega, h1, by simp only [sinkM, if_neg h]⟩
/-- On the way down: the first ones are done. -/
def partM (S X : List UInt8) (i : Nat) : List UInt8 := List.zipWith downB (S.take i) (X.take i) ++ S.drop i
theorem part_len {S X : List UInt8} {i : Nat} (h : X.length = S.length) (hi : i ≤ S.length) : (partM S X i).length = S.length := by
  simp only [partM, List.length_append, List.length_zipWith, List.length_take, List.length_drop]
  omega
theorem part_get {S X : List UInt8} {i : Nat} (h : X.length = S.length) (hi : i < S.length) : (partM S X i)[i]? = some S[i] := by
  have hz : (List.zipWith downB (S.take i) (X.take i)).length = i := by
    simp only [List.length_zipWith, List.length_take]; omega
  unfold partM
  rw [List.getElem?_append_right (by omega), hz, Nat.sub_self, List.getElem?_drop, Nat.add_zero, List.getElem?_eq_getElem hi]
theorem part_succ {S X : List UInt8} {i : Nat} (h : X.length = S.length) (hi : i < S.length) : partM S X (i + 1) = (partM S X i).set i (downB S[i] (X[i]'(by omega))) := by
  have hz : (List.zipWith downB (S.take i) (X.take i)).length = i := by
    simp only [List.length_zipWith, List.length_take]; omega
  unfold partM
  rw [List.take_succ_eq_append_getElem hi, List.take_succ_eq_append_getElem (l := X) (by omega), List.zipWith_append (by simp only [List.length_take]; omega), List.set_append_right _ _ (by rw [hz]; exact Nat.le_refl _), hz, Nat.sub_self, List.drop_eq_getElem_cons hi]
  simp only [List.zipWith_cons_cons, List.zipWith_nil_left, List.append_assoc, List.cons_append, List.nil_append, List.set_cons_zero]
theorem part_zero {S X : List UInt8} : partM S X 0 = S := by simp [partM]
theorem part_all {S X : List UInt8} (h : X.length = S.length) : partM S X S.length = List.zipWith downB S X := by
  unfold partM
  rw [List.take_of_length_le (Nat.le_refl _), List.take_of_length_le (by omega), List.drop_eq_nil_of_le (Nat.le_refl _), List.append_nil]
theorem part_same {S X : List UInt8} {i : Nat} (h : X.length = S.length) (hi : i < S.length) (hs : S[i] = 2 ∨ S[i] = X[i]'(by omega)) : partM S X (i + 1) = partM S X i := by
  rw [part_succ h hi]
  have : downB S[i] (X[i]'(by omega)) = S[i] := by
    unfold downB
    rw [if_neg (by rintro ⟨h1, h2⟩; rcases hs with h | h; exact h1 h; exact h2 h)]
  rw [this]
  exact set_same (part_get h hi)
theorem part_down {S X : List UInt8} {i : Nat} (h : X.length = S.length) (hi : i < S.length) (h1 : S[i] ≠ 2) (h2 : S[i] ≠ X[i]'(by omega)) : partM S X (i + 1) = (partM S X i).set i 2 ∧ partM S X (i + 1) ≠ S := by
  have e : downB S[i] (X[i]'(by omega)) = 2 := by
    unfold downB
    rw [if_pos ⟨h1, h2⟩]
  have e1 := part_succ h hi
  rw [e] at e1
  refine ⟨e1, fun hc => ?_⟩
  have : (partM S X (i + 1))[i]? = some 2 := by
    rw [e1, List.getElem?_set, if_pos rfl, if_pos (by rw [part_len h (by omega)]; exact hi)]
  rw [hc, List.getElem?_eq_getElem hi] at this
  exact h1 (Option.some.inj this)
theorem u8_ne {a b : UInt8} (h : (a.toNat : Int) ≠ b.toNat) : a ≠ b := fun e => h (by rw [e])
theorem u8_eq {a b : UInt8} (h : (a.toNat : Int) = b.toNat) : a = b := UInt8.toNat_inj.1 (by omega)
theorem freeze_two {st : St} {sz b n : Nat} {xs : List AV} {k : IntKind} {i : Int} (hg : st.get b = some (.row sz xs)) (hn : xs.length = n) : ∃ tk st', freezeA st (.tup [.sl sz b 0 n, .int k i]) = some (.tup [.vs sz (.tok tk) xs, .int k i], st') := by
  refine ⟨st.next, (st.drop b).newTok, ?_⟩
  have e : freezeC st (.sl sz b 0 n) = some (.vs sz (.tok st.next) xs, (st.drop b).newTok) := by
    simp only [freezeC, hg]
    rw [if_pos ⟨trivial, by omega⟩, if_pos (by omega)]
    simp [← hn]
  simp only [freezeA, freezeM, freezeB, e]
  rfl
def slO (b : Nat) (xs : List UInt8) : AV := match xs with | [] => .nilsl | _ :: _ => .sl 1 b 0 xs.length
def obO (b : Nat) (xs : List UInt8) : List (Nat × AObj) := match xs with | [] => [] | _ :: _ => [(b, .row 1 (xs.map bitAV))]
def GNet.nexts (n : GNet) : List Int := n.regs.xs.map (·.next)
def GNet.inits (n : GNet) : List UInt8 := n.regs.xs.map (·.init)
def GNet.stuck (n : GNet) : List UInt8 := stuckM n.gates.xs n.ins.xs.length n.nexts n.inits
def stuckAV (n : GNet) : AV := if validM n = true then .tup [(GSl.of n.stuck).av 1 bitAV, .int .i64 0] else .tup [.nilsl, .int .i64 2]
def Rel22 : Rel := RelF (fun n : GNet => FitsN n ∧ n.ins.xs.length ≤ 120) (fun n => [netAV n]) stuckAV
attribute [local irreducible] WS QS OS OD Abs.Sub SubO SubK CW GSl.av accA growA
section
variable {pr : Prims}
set_option maxHeartbeats 2000000 in
theorem run22 (h1 : pr 22 = none) (h58 : pr 58 = some (tabPrim tab58)) (h59 : pr 59 = none) (h109 : pr 109 = none) (h57 : Has pr 57 Rel57) (h131 : Has pr 131 Rel131) (h110 : Has pr 110 Rel110) (h132 : pr 132 = some (tabPrim tab132)) (n : GNet) (hn : FitsN n) (hi : n.ins.xs.length ≤ 120) (st : St) :
    CW (En pr) 22 [netAV n] st fun r st' => ∃ r' st2, freezeA st' r = some (r', st2) ∧ AV.plain r' = stuckAV n ∧ AV.free r' = true := by
  have hn' := hn
  obtain ⟨f1, f2, f3, f4, _, _, _, _, _, _⟩ := hn'
  have u1 := use57 h57 hn
  refine CW.start (N := 72) h1 rfl rfl ?_
  repeat' (first | (refine OS.do rfl ?_; first | refine OD.box rfl rfl rfl rfl (net_ok _) rfl (fun b1 => ?_) | refine OD.loadP 0 rfl rfl rfl rfl rfl rfl ?_ | refine OD.auto rfl rfl ?_ | refine OD.len rfl rfl (fun _ => lenTy_av rfl rfl) ?_ | refine OD.call rfl rfl rfl h57.eq u1 (fun _ => rfl) ?_ | refine OD.call rfl rfl rfl h58 (use58 hi) (fun _ => by unfold GSl.av; rfl) ?_) | refine OS.nil ?_ | refine WS.seq ?_ | refine QS.seqN ?_ | refine WS.region ?_ | refine WS.skip ?_ | refine WS.block ?_ | refine WS.ret ?_ | refine QS.seqR ?_ | refine WS.condN rfl (fun _ => ?_) (fun _ => ?_))
  · rename_i hv
    exact QS.retR (by rfl) fun st => ⟨_, st, rfl, by unfold stuckAV; rw [if_neg (by rw [hv]; simp)]; rfl, rfl⟩
  rename_i hV
  have v := validM_iff.1 hV
  have hrl : n.regs.xs.length ≤ 500 := by have := names_len v.regs; simpa using this
  refine WS.range (A := Nat × List UInt8) (n := n.regs.xs.length) ⟨25, _, fun a => [(5, slO a.1 a.2)], fun a => obO a.1 a.2 ++ [(b1, .row 4 [netAV n])], fun _ => [], fun i a => a.2 = (n.regs.xs.take i).map (·.init)⟩ ((0, [])) [1, 4, 23, 24] (by rfl) (by omega) (by simp) (by rfl) (by (try dsimp only); repeat' (first | exact Sub.nil _ | refine Sub.cons (congrArg (fun z => some (AV.int .i64 z)) (wrap_succ (by omega))) ?_ | refine Sub.cons rfl ?_)) (by (try dsimp only); repeat' (first | exact SubO.nil _ | exact SubO.refl _ | refine SubO.keep ?_ | refine SubO.drop ?_)) (by (try dsimp only); repeat' (first | exact SubK.nil _ | exact SubK.refl _ | refine SubK.keep (by simp) ?_ | refine SubK.new ?_ | refine SubK.drop ?_)) (by rfl) (by rfl) (by rfl) (by rfl) (by rfl) (by rfl) (fun _ _ => by rfl) (fun _ => by rfl) (fun _ _ => by rfl) (fun _ _ => by rfl) ?_ ?_
  · rintro i ⟨b5, a⟩ hi ha
    try dsimp only at ha
    have hal : a.length ≤ 500 := by rw [ha]; simp only [List.length_map, List.length_take]; omega
    have ht : (n.regs.xs.take (i + 1)).map (·.init) = a ++ [n.regs.xs[i].init] := by rw [map_take_succ hi, ha]
    cases a with
    | nil =>
      dsimp only [slO, obO]
      dsimp only [RSt.at, List.cons_append, List.nil_append]
      repeat' (first | (refine OS.do rfl ?_; first | refine OD.loadP 0 rfl rfl rfl rfl rfl rfl ?_ | refine OD.auto rfl rfl ?_ | refine OD.indexAddr rfl rfl rfl (indexAddrA_nat rfl rfl rfl rfl (by first | assumption | exact List.getElem?_eq_getElem (by omega))) ?_ | refine OD.alloc rfl rfl rfl rfl (fun _ => ?_) | refine OD.storeW 0 rfl rfl rfl rfl (by first | rfl | exact net_ok _) rfl rfl rfl ?_ | refine OD.appendNilO rfl rfl rfl rfl rfl rfl rfl rfl rfl (.inr ⟨⟨_, rfl⟩, rfl⟩) (fun _ => rfl) rfl rfl (by simp) (roomB rfl (by simp)) (fun b' => ?_)) | refine OS.nil ?_ | refine WS.seq ?_ | refine QS.seqN ?_ | refine WS.region ?_)
      refine QS.rangeN ((b', [n.regs.xs[i].init])) (by (try dsimp only) <;> exact (ht.symm)) (by (try dsimp only [RSt.at, List.cons_append, List.nil_append]); repeat' (first | exact Sub.nil _ | refine Sub.cons (congrArg (fun z => some (AV.int .i64 z)) (wrap_succ (by omega))) ?_ | refine Sub.cons rfl ?_)) (by (try dsimp only); repeat' (first | exact SubO.nil _ | exact SubO.refl _ | refine SubO.keep ?_ | refine SubO.drop ?_)) (by (try dsimp only); repeat' (first | exact SubK.nil _ | exact SubK.refl _ | refine SubK.keep (by simp) ?_ | refine SubK.new ?_ | refine SubK.drop ?_))
    | cons x a =>
      dsimp only [slO, obO]
      dsimp only [RSt.at, List.cons_append, List.nil_append]
      repeat' (first | (refine OS.do rfl ?_; first | refine OD.loadP 0 rfl rfl rfl rfl rfl rfl ?_ | refine OD.auto rfl rfl ?_ | refine OD.indexAddr rfl rfl rfl (indexAddrA_nat rfl rfl rfl rfl (by first | assumption | exact List.getElem?_eq_getElem (by omega))) ?_ | refine OD.alloc rfl rfl rfl rfl (fun _ => ?_) | refine OD.storeW 0 rfl rfl rfl rfl (by first | rfl | exact net_ok _) rfl rfl rfl ?_ | refine OD.appendSl1 (xs := x :: a) (f := bitAV) 1 rfl rfl rfl rfl rfl rfl rfl rfl rfl rfl ⟨⟨_, rfl⟩, rfl⟩ (fun _ _ => rfl) rfl rfl (roomB rfl (by omega)) (fun b' => ?_)) | refine OS.nil ?_ | refine WS.seq ?_ | refine QS.seqN ?_ | refine WS.region ?_)
      refine QS.rangeN ((b', x :: (a ++ [n.regs.xs[i].init]))) (by (try dsimp only) <;> exact (ht.symm)) (by (try dsimp only [RSt.at, List.cons_append, List.nil_append]); repeat' (first | exact Sub.nil _ | refine Sub.cons (congrArg (fun z => some (AV.int .i64 z)) (wrap_succ (by omega))) ?_ | refine Sub.cons rfl ?_)) (by (try dsimp only); repeat' (first | exact SubO.nil _ | exact SubO.refl _ | refine SubO.keep ?_ | refine SubO.drop ?_)) (by (try dsimp only); repeat' (first | exact SubK.nil _ | exact SubK.refl _ | refine SubK.keep (by simp) ?_ | refine SubK.new ?_ | refine SubK.drop ?_))
  rintro ⟨b5, a⟩ ha
  try dsimp only at ha
  rw [List.take_of_length_le (Nat.le_refl _)] at ha
  have hlen : n.nexts.length = a.length := by rw [ha]; simp [GNet.nexts]
  have hev : ∀ S : List UInt8, S.length = a.length → le2 S = true → evalR n (List.replicate n.ins.xs.length 2) S = some (n.outs.xs.map (fun p => ofL (allB n.gates.xs (List.replicate n.ins.xs.length 2) S) p.lit), litsB n.gates.xs (List.replicate n.ins.xs.length 2) S n.nexts) := by
    intro S hS hS2
    unfold evalR
    rw [allR_yes hV (and_t (decide_eq_true (by simp)) (by simp [le2])) (and_t (decide_eq_true (by rw [hS, ha]; simp)) hS2)]
    simp only [Option.map_some, litsB, GNet.nexts, List.map_map]
    rfl
  have hi2 : (GSl.some (List.replicate n.ins.xs.length (2 : UInt8))).xs.length ≤ 100000000000 := by
    show (List.replicate n.ins.xs.length (2 : UInt8)).length ≤ _
    simp; omega
  have hil : a.length ≤ 500 := by rw [ha]; simpa using hrl
  have hini : a = n.inits := ha
  have hin2 : le2 a = true := by rw [ha]; simpa [le2, List.all_map, Function.comp] using v.inits
  cases a with
  | nil =>
    dsimp only [slO, obO]
    dsimp only [RSt.at, List.cons_append, List.nil_append]
    have hb0 : BArg [(b1, .row 4 [netAV n])] .nilsl [] := by
      have := BArg.gsl (L := [(b1, .row 4 [netAV n])]) (s := GSl.of ([] : List UInt8))
      unfold GSl.av at this
      exact this
    have hn0 : n.nexts = [] := List.length_eq_zero_iff.1 hlen
    have hs0 : n.stuck = [] := by
      unfold GNet.stuck stuckM
      rw [← hini]; rfl
    have c59 : ∀ st, SFa [(b1, .row 4 [netAV n])] [] st → CW (En pr) 59 [netAV n, (GSl.some (List.replicate n.ins.xs.length (2 : UInt8))).av 1 bitAV, .nilsl] st fun x st' => (∃ t u, x = .tup [accA t 1 ((n.outs.xs.map (fun p => ofL (allB n.gates.xs (List.replicate n.ins.xs.length 2) []) p.lit)).map bitAV), accA u 1 (([] : List UInt8).map bitAV), .int .i64 0]) ∧ SFa [(b1, .row 4 [netAV n])] [] st' := by
      intro st hs
      refine (run59o h59 h109 h57 h131 h110 h132 n hn _ [] hi2 (by simp) hb0 hs).mono fun x st' h => ⟨?_, h.2⟩
      have e := hev [] rfl rfl
      rcases h.1 with ⟨h, _⟩ | ⟨o, y, t, u, h, h'⟩
      · exact absurd (e.symm.trans h) (by simp)
      · rw [show evalR n (GSl.some (List.replicate n.ins.xs.length (2 : UInt8))).xs [] = some _ from e, hn0] at h
        cases h
        exact ⟨t, u, h'⟩
    have hz59 : ∀ (y : AV) (st : St), (∃ t u, y = .tup [accA t 1 ((n.outs.xs.map (fun p => ofL (allB n.gates.xs (List.replicate n.ins.xs.length 2) []) p.lit)).map bitAV), accA u 1 (([] : List UInt8).map bitAV), .int .i64 0]) → freezeA st y = some (y, st) := by
      rintro y st ⟨t, u, rfl⟩
      exact freeze_free (by simp only [AV.free, AV.freeL, free_acc bit_free, Bool.and_true])
    repeat' (first | (refine OS.do rfl ?_; first | refine OD.auto rfl rfl ?_) | refine OS.nil ?_ | refine WS.seq ?_ | refine QS.seqN ?_ | refine WS.region ?_ | refine WS.block ?_)
    refine WS.loopK (D := Bool) [1, 4, 5] (by rfl) (fun d => [(8, .bool d)]) (fun d => [(b1, .row 4 [netAV n])]) (fun _ => []) (fun d => True) (fun d => bif d then 1 else 0) (true) (trivial) (by (try dsimp only); repeat' (first | exact Sub.nil _ | refine Sub.cons (congrArg (fun z => some (AV.int .i64 z)) (wrap_succ (by omega))) ?_ | refine Sub.cons rfl ?_)) (by (try dsimp only); repeat' (first | exact SubO.nil _ | exact SubO.refl _ | refine SubO.keep ?_ | refine SubO.drop ?_)) (by (try dsimp only); repeat' (first | exact SubK.nil _ | exact SubK.refl _ | refine SubK.keep (by simp) ?_ | refine SubK.new ?_ | refine SubK.drop ?_)) ?_
    rintro ch _
    dsimp only [RSt.at, List.cons_append, List.nil_append]
    repeat' (first | (refine OS.do rfl ?_; first | refine OD.loadP 0 rfl rfl rfl rfl rfl rfl ?_ | refine OD.auto rfl rfl ?_ | refine OD.len rfl rfl (fun _ => lenTy_accm rfl rfl) ?_ | (refine OD.callP (fun y => ∃ t u, y = .tup [accA t 1 ((n.outs.xs.map (fun p => ofL (allB n.gates.xs (List.replicate n.ins.xs.length 2) []) p.lit)).map bitAV), accA u 1 (([] : List UInt8).map bitAV), .int .i64 0]) rfl rfl rfl c59 hz59 ?_; rintro y ⟨t, u, rfl⟩)) | refine OS.nil ?_ | refine WS.seq ?_ | refine QS.seqN ?_ | refine WS.region ?_ | refine WS.condF rfl ?_ | refine WS.skip ?_ | refine WS.block ?_ | refine WS.ret ?_ | refine WS.exit ?_ | refine QS.seqE ?_ | refine QS.blockH ?_ | refine QS.loopE ?_ | refine WS.condB rfl (fun _ => ?_) (fun _ => ?_))
    · refine WS.range (A := Unit) (n := 0) ⟨49, _, fun _ => [(8, .bool false)], fun _ => [(b1, .row 4 [netAV n])], fun _ => [], fun _ _ => True⟩ (()) [1, 4, 5, 47, 48] (by rfl) (by omega) (trivial) (by rfl) (by (try dsimp only); repeat' (first | exact Sub.nil _ | refine Sub.cons (congrArg (fun z => some (AV.int .i64 z)) (wrap_succ (by omega))) ?_ | refine Sub.cons rfl ?_)) (by (try dsimp only); repeat' (first | exact SubO.nil _ | exact SubO.refl _ | refine SubO.keep ?_ | refine SubO.drop ?_)) (by (try dsimp only); repeat' (first | exact SubK.nil _ | exact SubK.refl _ | refine SubK.keep (by simp) ?_ | refine SubK.new ?_ | refine SubK.drop ?_)) (by rfl) (by rfl) (by rfl) (by rfl) (by rfl) (by rfl) (fun _ _ => by rfl) (fun _ => by rfl) (fun _ _ => by rfl) (fun _ _ => by rfl) ?_ ?_
      · rintro i _ hi
        omega
      · rintro _ _
        dsimp only [RSt.at, List.cons_append, List.nil_append]
        repeat' (first | refine QS.blockN ?_)
        refine QS.loopN (false) (by exact (trivial)) (by exact (by simp [*])) (by (try dsimp only [List.cons_append, List.nil_append]); repeat' (first | exact Sub.nil _ | refine Sub.cons (congrArg (fun z => some (AV.int .i64 z)) (wrap_succ (by omega))) ?_ | refine Sub.cons rfl ?_)) (by (try dsimp only); repeat' (first | exact SubO.nil _ | exact SubO.refl _ | refine SubO.keep ?_ | refine SubO.drop ?_)) (by (try dsimp only); repeat' (first | exact SubK.nil _ | exact SubK.refl _ | refine SubK.keep (by simp) ?_ | refine SubK.new ?_ | refine SubK.drop ?_))
    · refine QS.retR (by rfl) fun st => ⟨_, st, rfl, ?_, rfl⟩
      unfold stuckAV
      rw [if_pos hV, hs0]; unfold GSl.av; rfl
  | cons x0 a0 =>
    generalize hA : x0 :: a0 = a at *
    have hsl : slO b5 a = .sl 1 b5 0 a.length := by rw [← hA]; rfl
    have hob : obO b5 a = [(b5, .row 1 (a.map bitAV))] := by rw [← hA]; rfl
    dsimp only [RSt.at, List.cons_append, List.nil_append]
    rw [hob, hsl]
    dsimp only [RSt.at, List.cons_append, List.nil_append]
    have c59 : ∀ (S : List UInt8), S.length = a.length → le2 S = true → ∀ st, SFa [(b5, .row 1 (S.map bitAV)), (b1, .row 4 [netAV n])] [] st → CW (En pr) 59 [netAV n, (GSl.some (List.replicate n.ins.xs.length (2 : UInt8))).av 1 bitAV, .sl 1 b5 0 a.length] st fun x st' => (∃ t u, x = .tup [accA t 1 ((n.outs.xs.map (fun p => ofL (allB n.gates.xs (List.replicate n.ins.xs.length 2) S) p.lit)).map bitAV), accA u 1 ((litsB n.gates.xs (List.replicate n.ins.xs.length 2) S n.nexts).map bitAV), .int .i64 0]) ∧ SFa [(b5, .row 1 (S.map bitAV)), (b1, .row 4 [netAV n])] [] st' := by
      intro S hS hS2 st hs
      rw [← hS]
      refine (run59o h59 h109 h57 h131 h110 h132 n hn _ S hi2 (by omega) (BArg.obj (kk := 0) rfl) hs).mono fun x st' h => ⟨?_, h.2⟩
      have e := hev S hS hS2
      rcases h.1 with ⟨h, _⟩ | ⟨o, y, t, u, h, h'⟩
      · exact absurd (e.symm.trans h) (by simp)
      · rw [show evalR n (GSl.some (List.replicate n.ins.xs.length (2 : UInt8))).xs S = some _ from e] at h
        cases h
        exact ⟨t, u, h'⟩
    have hz59 : ∀ (S : List UInt8) (y : AV) (st : St), (∃ t u, y = .tup [accA t 1 ((n.outs.xs.map (fun p => ofL (allB n.gates.xs (List.replicate n.ins.xs.length 2) S) p.lit)).map bitAV), accA u 1 ((litsB n.gates.xs (List.replicate n.ins.xs.length 2) S n.nexts).map bitAV), .int .i64 0]) → freezeA st y = some (y, st) := by
      rintro S y st ⟨t, u, rfl⟩
      exact freeze_free (by simp only [AV.free, AV.freeL, free_acc bit_free, Bool.and_true])
    repeat' (first | (refine OS.do rfl ?_; first | refine OD.auto rfl rfl ?_) | refine OS.nil ?_ | refine WS.seq ?_ | refine QS.seqN ?_ | refine WS.region ?_ | refine WS.block ?_)
    refine WS.loopK (D := Bool × List UInt8) [1, 4, 5] (by rfl) (fun d => [(8, .bool d.1)]) (fun d => [(b5, .row 1 (d.2.map bitAV)), (b1, .row 4 [netAV n])]) (fun _ => []) (fun d => d.2.length = a.length ∧ le2 d.2 = true ∧ (d.1 = true → ∃ m, knownN d.2 ≤ m ∧ sinkM n.gates.xs n.ins.xs.length n.nexts m d.2 = n.stuck) ∧ (d.1 = false → d.2 = n.stuck)) (fun d => bif d.1 then knownN d.2 + 1 else 0) ((true, a)) (⟨rfl, hin2, fun _ => ⟨a.length, knownN_le a, by rw [hini]; rfl⟩, fun h => by cases h⟩) (by (try dsimp only); repeat' (first | exact Sub.nil _ | refine Sub.cons (congrArg (fun z => some (AV.int .i64 z)) (wrap_succ (by omega))) ?_ | refine Sub.cons rfl ?_)) (by (try dsimp only); repeat' (first | exact SubO.nil _ | exact SubO.refl _ | refine SubO.keep ?_ | refine SubO.drop ?_)) (by (try dsimp only); repeat' (first | exact SubK.nil _ | exact SubK.refl _ | refine SubK.keep (by simp) ?_ | refine SubK.new ?_ | refine SubK.drop ?_)) ?_
    rintro ⟨ch, S⟩ ⟨hS, hS2, hch, hno⟩
    try dsimp only at hS hS2 hch hno
    have hX : (litsB n.gates.xs (List.replicate n.ins.xs.length 2) S n.nexts).length = S.length := by rw [litsB_len, hlen, hS]
    generalize hXe : litsB n.gates.xs (List.replicate n.ins.xs.length 2) S n.nexts = X at hX
    dsimp only [RSt.at, List.cons_append, List.nil_append]
    repeat' (first | (refine OS.do rfl ?_; first | refine OD.auto rfl rfl ?_ | refine OD.loadP 1 rfl rfl rfl rfl rfl rfl ?_ | refine OD.len rfl rfl (fun _ => lenTy_accm rfl rfl) ?_ | (refine OD.callP (fun y => ∃ t u, y = .tup [accA t 1 ((n.outs.xs.map (fun p => ofL (allB n.gates.xs (List.replicate n.ins.xs.length 2) S) p.lit)).map bitAV), accA u 1 ((litsB n.gates.xs (List.replicate n.ins.xs.length 2) S n.nexts).map bitAV), .int .i64 0]) rfl rfl rfl (c59 S hS hS2) (hz59 S) ?_; rintro y ⟨t, u, rfl⟩; rw [hXe])) | refine OS.nil ?_ | refine WS.seq ?_ | refine QS.seqN ?_ | refine WS.region ?_ | refine WS.condF rfl ?_ | refine WS.skip ?_ | refine WS.block ?_ | refine WS.ret ?_ | refine WS.exit ?_ | refine QS.seqE ?_ | refine QS.blockH ?_ | refine QS.loopE ?_ | refine WS.condB rfl (fun _ => ?_) (fun _ => ?_))
    · have hXl : X.length = a.length := by omega
      refine WS.range (A := Bool × List UInt8) (n := X.length) ⟨49, _, fun a => [(8, .bool a.1)], fun d => [(b5, .row 1 (d.2.map bitAV)), (b1, .row 4 [netAV n])], fun _ => [], fun i d => d.2 = partM S X i ∧ d.1 = decide (partM S X i ≠ S)⟩ ((false, S)) [1, 4, 5, 47, 48] (by rfl) (by omega) (⟨part_zero.symm, by rw [part_zero]; simp⟩) (by rfl) (by (try dsimp only); repeat' (first | exact Sub.nil _ | refine Sub.cons (congrArg (fun z => some (AV.int .i64 z)) (wrap_succ (by omega))) ?_ | refine Sub.cons rfl ?_)) (by (try dsimp only); repeat' (first | exact SubO.nil _ | exact SubO.refl _ | refine SubO.keep ?_ | refine SubO.drop ?_)) (by (try dsimp only); repeat' (first | exact SubK.nil _ | exact SubK.refl _ | refine SubK.keep (by simp) ?_ | refine SubK.new ?_ | refine SubK.drop ?_)) (by rfl) (by rfl) (by rfl) (by rfl) (by rfl) (by rfl) (fun _ _ => by rfl) (fun _ => by rfl) (fun _ _ => by rfl) (fun _ _ => by rfl) ?_ ?_
      · rintro i ⟨c, P⟩ hi ⟨hP, hc⟩
        try dsimp only at hP hc
        have hg : P[i]? = some (S[i]'(by omega)) := by rw [hP]; exact part_get hX (by omega)
        have hrow : (P.map bitAV)[i]? = some (bitAV (S[i]'(by omega))) := by rw [List.getElem?_map, hg]; rfl
        dsimp only [RSt.at, List.cons_append, List.nil_append]
        repeat' (first | (refine OS.do rfl ?_; first | refine OD.auto rfl rfl ?_ | refine OD.indexAddr rfl rfl rfl (indexAddrA_accn rfl rfl rfl rfl (by first | assumption | exact List.getElem?_eq_getElem (by omega))) ?_ | refine OD.indexAddr rfl rfl rfl (indexAddrA_sl rfl rfl rfl rfl (by omega)) ?_ | refine OD.loadI 0 rfl rfl rfl hrow rfl ?_ | refine OD.storeI 0 rfl rfl rfl rfl rfl hrow ?_) | refine OS.nil ?_ | refine OS.skip rfl rfl rfl ?_ | refine WS.seq ?_ | refine QS.seqN ?_ | refine WS.region ?_ | refine WS.condF rfl ?_ | refine WS.skip ?_ | refine WS.condNe rfl (fun _ => ?_) (fun _ => ?_) | ((fail_if_success (refine OS.do rfl ?_)); first | refine OS.splitNe rfl rfl rfl (fun _ => ?_) (fun _ => ?_)))
        · rename_i h1 h2
          have hd := part_down hX (i := i) (by omega) (fun e => h1 (by rw [e]; rfl)) (u8_ne h2)
          have hm : (P.map bitAV).set i (.int .u8 2) = (partM S X (i + 1)).map bitAV := by rw [hd.1, ← hP, List.map_set]; rfl
          refine QS.rangeN ((true, partM S X (i + 1))) (by (try dsimp only) <;> exact (⟨rfl, (decide_eq_true hd.2).symm⟩)) (by (try dsimp only [RSt.at, List.cons_append, List.nil_append]); repeat' (first | exact Sub.nil _ | refine Sub.cons (congrArg (fun z => some (AV.int .i64 z)) (wrap_succ (by omega))) ?_ | refine Sub.cons rfl ?_)) (by (try dsimp only); rw [← hm]; exact SubO.refl _) (by (try dsimp only); repeat' (first | exact SubK.nil _ | exact SubK.refl _ | refine SubK.keep (by simp) ?_ | refine SubK.new ?_ | refine SubK.drop ?_))
        · rename_i h1 h2
          have hd := part_same hX (i := i) (by omega) (.inr (u8_eq h2))
          refine QS.rangeN ((c, P)) (by (try dsimp only) <;> exact (⟨by rw [hd]; exact hP, by rw [hd]; exact hc⟩)) (by (try dsimp only [RSt.at, List.cons_append, List.nil_append]); repeat' (first | exact Sub.nil _ | refine Sub.cons (congrArg (fun z => some (AV.int .i64 z)) (wrap_succ (by omega))) ?_ | refine Sub.cons rfl ?_)) (by (try dsimp only); repeat' (first | exact SubO.nil _ | exact SubO.refl _ | refine SubO.keep ?_ | refine SubO.drop ?_)) (by (try dsimp only); repeat' (first | exact SubK.nil _ | exact SubK.refl _ | refine SubK.keep (by simp) ?_ | refine SubK.new ?_ | refine SubK.drop ?_))
        · rename_i h1
          have hd := part_same hX (i := i) (by omega) (.inl (UInt8.toNat_inj.1 (by have : (2 : UInt8).toNat = 2 := rfl; omega)))
          refine QS.rangeN ((c, P)) (by (try dsimp only) <;> exact (⟨by rw [hd]; exact hP, by rw [hd]; exact hc⟩)) (by (try dsimp only [RSt.at, List.cons_append, List.nil_append]); repeat' (first | exact Sub.nil _ | refine Sub.cons (congrArg (fun z => some (AV.int .i64 z)) (wrap_succ (by omega))) ?_ | refine Sub.cons rfl ?_)) (by (try dsimp only); repeat' (first | exact SubO.nil _ | exact SubO.refl _ | refine SubO.keep ?_ | refine SubO.drop ?_)) (by (try dsimp only); repeat' (first | exact SubK.nil _ | exact SubK.refl _ | refine SubK.keep (by simp) ?_ | refine SubK.new ?_ | refine SubK.drop ?_))
      · rintro ⟨c, P⟩ ⟨hP, hc⟩
        try dsimp only at hP hc
        have hP' : P = downM n.gates.xs n.ins.xs.length n.nexts S := by rw [hP, hX, part_all hX, ← hXe]; rfl
        have hc' : c = decide (downM n.gates.xs n.ins.xs.length n.nexts S ≠ S) := by rw [hc, ← hP, hP']
        have hct : ch = true := by assumption
        obtain ⟨m, hm1, hm2⟩ := hch hct
        have hSl : S.length = n.nexts.length := by omega
        dsimp only [RSt.at, List.cons_append, List.nil_append]
        repeat' (first | refine QS.blockN ?_)
        refine QS.loopN ((c, P)) (by exact (⟨by rw [hP', down_len hSl, hS], by rw [hP']; exact le2_zip hS2, fun h => (by obtain ⟨m', q1, q2, q3⟩ := sink_step hSl hm1 (of_decide_eq_true (hc'.symm.trans h)); exact ⟨m', by rw [hP']; exact q1, by rw [hP', ← q3]; exact hm2⟩), fun h => (by have q := of_decide_eq_false (hc'.symm.trans h); rw [Classical.not_not] at q; rw [← hm2, hP', q, sink_of_fix q])⟩)) (by exact (by cases c with | false => simp [hct] | true => (obtain ⟨m', q1, q2, q3⟩ := sink_step hSl hm1 (of_decide_eq_true hc'.symm); rw [hct, hP']; simpa using q2))) (by (try dsimp only [List.cons_append, List.nil_append]); repeat' (first | exact Sub.nil _ | refine Sub.cons (congrArg (fun z => some (AV.int .i64 z)) (wrap_succ (by omega))) ?_ | refine Sub.cons rfl ?_)) (by (try dsimp only); repeat' (first | exact SubO.nil _ | exact SubO.refl _ | refine SubO.keep ?_ | refine SubO.drop ?_)) (by (try dsimp only); repeat' (first | exact SubK.nil _ | exact SubK.refl _ | refine SubK.keep (by simp) ?_ | refine SubK.new ?_ | refine SubK.drop ?_))
    · rename_i hcf
      refine QS.retRS (by rfl) fun st hs => ?_
      have hg := (hs.obj 0 b5 _ rfl).1
      obtain ⟨tk, st2, hz⟩ := freeze_two (k := .i64) (i := 0) hg (show (S.map bitAV).length = a.length by rw [List.length_map, hS])
      refine ⟨_, st2, hz, ?_, ?_⟩
      · unfold stuckAV
        rw [if_pos hV, ← hno hcf]
        have hp := plain_vs bit_plain 1 tk S
        simp only [AV.plain, AV.plainL] at hp ⊢
        rw [hp]
        have : S ≠ [] := fun e => by rw [e, ← hA] at hS; simp at hS
        congr 1
        congr 1
        unfold GSl.av GSl.of
        cases S with
        | nil => exact absurd rfl this
        | cons y S => rfl
      · simp only [AV.free, AV.freeL, Bool.and_true]
        exact freeL_map bit_free S
theorem con22 (h1 : pr 22 = none) (h58 : pr 58 = some (tabPrim tab58)) (h59 : pr 59 = none) (h109 : pr 109 = none) (h57 : Has pr 57 Rel57) (h131 : Has pr 131 Rel131) (h110 : Has pr 110 Rel110) (h132 : pr 132 = some (tabPrim tab132)) : Con2 (En pr) 22 Rel22 :=
  con_ofz (fun d => by simp [AV.freeL, net_free]) fun d hd st => run22 h1 h58 h59 h109 h57 h131 h110 h132 d hd.1 hd.2 st
end
end Go.OptEnv

/- Own and Begun. -/
namespace Go.OptEnv
open Go Go.Proofs Go.Abs Go.RowKit Go.NetM
set_option maxRecDepth 10000
attribute [local irreducible] WS QS OS OD Abs.Sub SubO SubK CW GSl.av accA
section
variable {pr : Prims}
/-- What Own gives: its registers lie in memory. -/
def ownAV (n : GNet) (g : (Bool × Nat) × (Bool × Nat) × (Bool × Nat)) (b : Nat) : AV := .agg [growA g.1.1 g.1.2 1 (n.ins.xs.map strAV), .sl 3 b 0 n.regs.xs.length, growA g.2.1.1 g.2.1.2 2 (n.gates.xs.map gateAV), growA g.2.2.1 g.2.2.2 2 (n.outs.xs.map pinAV)]
theorem own_ok (n : GNet) (g : (Bool × Nat) × (Bool × Nat) × (Bool × Nat)) (b : Nat) : (ownAV n g b).ok = true := by unfold ownAV growA; rfl
set_option maxHeartbeats 1000000 in
theorem run46 (h1 : pr 46 = none) (n : GNet) (hn : SmallN n) {L : List (Nat × AObj)} {st : St} (hS : SFa L [] st) : CW (En pr) 46 [netAV n] st fun r st' => ∃ g b, r = ownAV n g b ∧ SFa ((b, .row 3 (n.regs.xs.map regAV)) :: L) [] st' := by
  obtain ⟨f1, f2, f3, f4⟩ := hn
  refine CW.startS (N := 20) h1 rfl rfl hS ?_
  repeat' (first | (refine OS.do rfl ?_; first | refine OD.box rfl rfl rfl rfl (net_ok _) rfl (fun b1 => ?_) | refine OD.alloc rfl rfl rfl rfl (fun _ => ?_)) | refine OS.nil ?_ | refine WS.seq ?_ | refine QS.seqN ?_ | refine WS.region ?_)
  refine WS.drawT 17 rfl rfl rfl rfl ?_; (repeat' (first | refine SegT.nil ?_ | refine SegT.auto rfl rfl rfl rfl ?_ | refine SegT.loadP 0 rfl rfl rfl rfl rfl rfl rfl ?_ | refine SegT.loadP 1 rfl rfl rfl rfl rfl rfl rfl ?_ | refine SegT.loadP 2 rfl rfl rfl rfl rfl rfl rfl ?_ | refine SegT.len rfl rfl rfl (fun _ => lenTy_av rfl rfl) ?_ | refine SegT.len rfl rfl rfl (fun _ => rfl) ?_ | refine SegT.indexAddr rfl rfl rfl rfl rfl ?_ | refine SegT.skip rfl rfl rfl ?_ | refine SegT.appendG rfl rfl rfl rfl rfl rfl rfl rfl rfl rfl rfl (.inr ⟨⟨_, rfl⟩, isStr_gsl⟩) (fun st => elemsA_gsl st) (okElems_map (f := strAV) (n := 1) rfl (fun _ => ⟨rfl, rfl⟩) _) szOf_ok (roomB rfl (by have := f1; simp only [List.length_nil, List.length_map]; omega)) (fun gb1 gt1 => ?_) | refine SegT.appendO rfl rfl rfl rfl rfl rfl rfl rfl rfl rfl rfl (.inr ⟨⟨_, rfl⟩, isStr_gsl⟩) (fun st => elemsA_gsl st) (okElems_map (f := regAV) (n := 3) rfl (fun _ => ⟨rfl, rfl⟩) _) szOf_ok (roomB rfl (by have := f2; simp only [List.length_nil, List.length_map]; omega)) (fun b => ?_) | refine SegT.appendG rfl rfl rfl rfl rfl rfl rfl rfl rfl rfl rfl (.inr ⟨⟨_, rfl⟩, isStr_gsl⟩) (fun st => elemsA_gsl st) (okElems_map (f := gateAV) (n := 2) rfl (fun _ => ⟨rfl, rfl⟩) _) szOf_ok (roomB rfl (by have := f3; simp only [List.length_nil, List.length_map]; omega)) (fun gb2 gt2 => ?_) | refine SegT.appendG rfl rfl rfl rfl rfl rfl rfl rfl rfl rfl rfl (.inr ⟨⟨_, rfl⟩, isStr_gsl⟩) (fun st => elemsA_gsl st) (okElems_map (f := pinAV) (n := 2) rfl (fun _ => ⟨rfl, rfl⟩) _) szOf_ok (roomB rfl (by have := f4; simp only [List.length_nil, List.length_map]; omega)) (fun gb3 gt3 => ?_)))
  dsimp only [RSt.at, List.cons_append, List.nil_append]
  repeat' (first | (refine OS.do rfl ?_; first | refine OD.storeW 1 rfl rfl rfl rfl (by first | rfl | exact net_ok _) rfl rfl rfl ?_) | refine OS.nil ?_ | refine QS.seqN ?_ | refine WS.ret ?_)
  refine QS.retO (ResO.cell 1 (by rfl) (by rfl) (by rfl) (by rfl) (by rfl) .nil) fun st hs => ⟨((gb1, gt1), (gb2, gt2), (gb3, gt3)), b, ?_, ?_⟩
  · unfold ownAV
    have e : (n.regs.xs.map regAV).length = n.regs.xs.length := List.length_map _
    rw [← e]; rfl
  · exact hs.subO (.keep (.drop (.drop (.refl _))))
/-- A bit of numbers. -/
def bitOf (l : List UInt8) (k : Nat) : UInt8 := if l = [] then 0 else l.getD (k % l.length) 0 / 8 % 2
/-- A first value, after so many names. -/
def begA (names : List GReg) (l : List UInt8) (nm : ByteArray) (b0 : UInt8) : Nat → UInt8
  | 0 => b0
  | k + 1 => if ((names[k]?).map (·.name)) = some nm ∧ begA names l nm b0 k = 2 then bitOf l k else begA names l nm b0 k
def begM (names : List GReg) (l : List UInt8) (r : GReg) : GReg := ⟨r.name, if begA names l r.name r.init names.length = 2 then 0 else begA names l r.name r.init names.length, r.next⟩
def begunN (n : GNet) (names : List GReg) (l : List UInt8) : GNet := ⟨GSl.some n.ins.xs, GSl.some (n.regs.xs.map (begM names l)), GSl.some n.gates.xs, GSl.some n.outs.xs⟩
/-- On the way: the first ones are done. -/
def begP (n : GNet) (names : List GReg) (l : List UInt8) (i : Nat) : List GReg := (n.regs.xs.take i).map (begM names l) ++ n.regs.xs.drop i
theorem begP_len {n : GNet} {names : List GReg} {l : List UInt8} {i : Nat} (h : i ≤ n.regs.xs.length) : (begP n names l i).length = n.regs.xs.length := by
  simp only [begP, List.length_append, List.length_map, List.length_take, List.length_drop]; omega
theorem begP_succ {n : GNet} {names : List GReg} {l : List UInt8} {i : Nat} (h : i < n.regs.xs.length) : begP n names l (i + 1) = (begP n names l i).set i (begM names l n.regs.xs[i]) := by
  unfold begP
  rw [map_take_succ h, List.set_append_right _ _ (by simp only [List.length_map, List.length_take]; omega)]
  have : i - ((n.regs.xs.take i).map (begM names l)).length = 0 := by simp only [List.length_map, List.length_take]; omega
  rw [this, List.drop_eq_getElem_cons h]
  simp only [List.append_assoc, List.cons_append, List.nil_append, List.set_cons_zero]
theorem begP_get {n : GNet} {names : List GReg} {l : List UInt8} {i : Nat} (h : i < n.regs.xs.length) : (begP n names l i)[i]? = some n.regs.xs[i] := by
  unfold begP
  rw [List.getElem?_append_right (by simp only [List.length_map, List.length_take]; omega)]
  have : i - ((n.regs.xs.take i).map (begM names l)).length = 0 := by simp only [List.length_map, List.length_take]; omega
  rw [this, List.drop_eq_getElem_cons h]; rfl
theorem set_self {α : Type} {l : List α} {i : Nat} {a : α} (h : l[i]? = some a) : l.set i a = l := set_same h
theorem set_map {l : List GReg} {i : Nat} {r : GReg} : (l.set i r).map regAV = (l.map regAV).set i (regAV r) := by rw [List.map_set]
theorem set_twice {α : Type} {l : List α} {i : Nat} {a b : α} : (l.set i a).set i b = l.set i b := by simp
theorem row_set {R : List GReg} {i : Nat} {q r : GReg} : ((R.set i q).map regAV).set i (regAV r) = (R.set i r).map regAV := by rw [← set_map, set_twice]
theorem row_set2 {R : List GReg} {i : Nat} {q r : GReg} {X : AV} : (((R.set i q).map regAV).set i X).set i (regAV r) = (R.set i r).map regAV := by rw [set_twice, row_set]
theorem begA_yes {names : List GReg} {l : List UInt8} {nm : ByteArray} {b0 : UInt8} {k : Nat} (hk : k < names.length) (h : names[k].name = nm) (h2 : begA names l nm b0 k = 2) : begA names l nm b0 (k + 1) = bitOf l k := by
  simp only [begA]
  rw [if_pos ⟨by rw [List.getElem?_eq_getElem hk, Option.map_some, h], h2⟩]
theorem begA_no {names : List GReg} {l : List UInt8} {nm : ByteArray} {b0 : UInt8} {k : Nat} (hk : k < names.length) (h : names[k].name ≠ nm ∨ begA names l nm b0 k ≠ 2) : begA names l nm b0 (k + 1) = begA names l nm b0 k := by
  simp only [begA]
  rw [if_neg]
  rintro ⟨h1, h2⟩
  rw [List.getElem?_eq_getElem hk, Option.map_some, Option.some.injEq] at h1
  rcases h with h | h
  · exact h h1
  · exact h h2
theorem two_of {c : UInt8} (h : (c.toNat : Int) = 2) : c = 2 := UInt8.toNat_inj.1 (by have : (2 : UInt8).toNat = 2 := rfl; omega)
theorem not_two {c : UInt8} (h : (c.toNat : Int) ≠ 2) : c ≠ 2 := fun e => h (by rw [e]; rfl)
theorem begP_all {n : GNet} {names : List GReg} {l : List UInt8} : begP n names l n.regs.xs.length = n.regs.xs.map (begM names l) := by
  unfold begP
  rw [List.take_of_length_le (Nat.le_refl _), List.drop_eq_nil_of_le (Nat.le_refl _), List.append_nil]
theorem binRem {E : Env} {t : TypeId} {x y : Operand} {k : IntKind} {a b : Int} (h : b ≠ 0) : binA E .rem t x y (.int k a) (.int k b) = some (.int k (a.tmod b)) := by
  have : binA E .rem t x y (.int k a) (.int k b) = (if k = k then (if b = 0 then none else some (.int k (a.tmod b))) else none) := rfl
  rw [this, if_pos rfl, if_neg h]
theorem binQuo {E : Env} {t : TypeId} {x y : Operand} {k : IntKind} {a b : Int} (h : b ≠ 0) : binA E .quo t x y (.int k a) (.int k b) = some (.int k (k.wrap (a.tdiv b))) := by
  have : binA E .quo t x y (.int k a) (.int k b) = (if k = k then (if b = 0 then none else some (.int k (k.wrap (a.tdiv b)))) else none) := rfl
  rw [this, if_pos rfl, if_neg h]
theorem shr3and (m : UInt8) : IntKind.u8.wrap ((BitVec.ofInt IntKind.u8.bits ((m.toNat : Int).fdiv (2 ^ (min (Int.toNat 3) IntKind.u8.bits))) &&& BitVec.ofInt IntKind.u8.bits 1).toNat : Int) = ((m / 8 % 2).toNat : Int) := by
  have h : ∀ m : Fin 256, IntKind.u8.wrap ((BitVec.ofInt IntKind.u8.bits ((m.val : Int).fdiv (2 ^ (min (Int.toNat 3) IntKind.u8.bits))) &&& BitVec.ofInt IntKind.u8.bits 1).toNat : Int) = ((m.val / 8 % 2 : Nat) : Int) := by decide +kernel
  rw [UInt8.toNat_mod, UInt8.toNat_div]
  exact h ⟨m.toNat, m.toNat_lt⟩
theorem tmod_nat {k n : Nat} : ((k : Int).tmod n) = ((k % n : Nat) : Int) := by
  rw [Int.tmod_eq_emod_of_nonneg (by omega)]; rfl
theorem str_eq_yes {a b : ByteArray} (h : (a.toList == b.toList) = true) : a = b := by
  rw [str_beq] at h; exact of_decide_eq_true h
theorem str_eq_no {a b : ByteArray} (h : (a.toList == b.toList) = false) : a ≠ b := by
  rw [str_beq] at h; exact of_decide_eq_false h
theorem freeze_own {st : St} {b : Nat} {xs : List AV} {n : GNet} {g : (Bool × Nat) × (Bool × Nat) × (Bool × Nat)} (hg : st.get b = some (.row 3 xs)) (hn : xs.length = n.regs.xs.length) : ∃ tk st', freezeA st (ownAV n g b) = some (.agg [growA g.1.1 g.1.2 1 (n.ins.xs.map strAV), .vs 3 (.tok tk) xs, growA g.2.1.1 g.2.1.2 2 (n.gates.xs.map gateAV), growA g.2.2.1 g.2.2.2 2 (n.outs.xs.map pinAV)], st') := by
  refine ⟨st.next, (st.drop b).newTok, ?_⟩
  have e : freezeC st (.sl 3 b 0 n.regs.xs.length) = some (.vs 3 (.tok st.next) xs, (st.drop b).newTok) := by
    simp only [freezeC, hg]
    rw [if_pos ⟨trivial, by omega⟩, if_pos (by omega)]
    simp [← hn]
  have e2 : ∀ (st : St) (bb : Bool) (t sz : Nat) (ys : List AV), freezeC st (growA bb t sz ys) = some (growA bb t sz ys, st) := fun _ _ _ _ _ => rfl
  simp only [ownAV, freezeA, freezeL, e2, e]
  rfl
def Rel33 : Rel := RelF (fun p : GNet × GSl GReg × GSl UInt8 => SmallN p.1 ∧ p.2.1.xs.length ≤ 140737488355328 ∧ p.2.2.xs.length ≤ 140737488355328) (fun p => [netAV p.1, p.2.1.av 3 regAV, p.2.2.av 1 bitAV]) fun p => netAV (begunN p.1 p.2.1.xs p.2.2.xs)
set_option maxHeartbeats 2000000 in
theorem run33 (h1 : pr 33 = none) (h46 : pr 46 = none) (n : GNet) (hn : SmallN n) (ns : GSl GReg) (l : GSl UInt8) (hns : ns.xs.length ≤ 140737488355328) (hl : l.xs.length ≤ 140737488355328) (st : St) :
    CW (En pr) 33 [netAV n, ns.av 3 regAV, l.av 1 bitAV] st fun r st' => ∃ r' st2, freezeA st' r = some (r', st2) ∧ AV.plain r' = netAV (begunN n ns.xs l.xs) ∧ AV.free r' = true := by
  have hn' := hn
  obtain ⟨f1, f2, f3, f4⟩ := hn'
  have c46 : ∀ (L : List (Nat × AObj)) (st : St), SFa L [] st → CW (En pr) 46 [netAV n] st fun r st' => ∃ d : ((Bool × Nat) × (Bool × Nat) × (Bool × Nat)) × Nat, True ∧ r = ownAV n d.1 d.2 ∧ SFa ((d.2, .row 3 (n.regs.xs.map regAV)) :: L) [] st' := fun L st hs => (run46 h46 n hn hs).mono fun r st' ⟨g, b, h1, h2⟩ => ⟨(g, b), trivial, h1, h2⟩
  refine CW.start (N := 81) h1 rfl rfl ?_
  repeat' (first | (refine OS.do rfl ?_; first | refine OD.box rfl rfl rfl rfl (net_ok _) rfl (fun b1 => ?_) | refine OD.loadP 0 rfl rfl rfl rfl rfl rfl ?_ | refine OD.auto rfl rfl ?_ | refine OD.loadP 1 rfl rfl rfl rfl rfl rfl ?_ | refine OD.len rfl rfl (fun _ => rfl) ?_ | refine OD.alloc rfl rfl rfl rfl (fun _ => ?_) | refine OD.storeW 0 rfl rfl rfl rfl (by first | rfl | exact net_ok _) rfl rfl rfl ?_ | (refine OD.callR (D := ((Bool × Nat) × (Bool × Nat) × (Bool × Nat)) × Nat) (fun _ => True) (fun d => ownAV n d.1 d.2) (fun d => (d.2, .row 3 (n.regs.xs.map regAV)) :: _) (fun _ => []) rfl rfl rfl rfl (c46 _) ?_; rintro ⟨g, b⟩ _)) | refine OS.nil ?_ | refine WS.seq ?_ | refine QS.seqN ?_ | refine WS.region ?_ | refine WS.block ?_)
  rename_i b6 _ b7
  dsimp only [RSt.at, List.cons_append, List.nil_append]
  dsimp only [List.set_cons_zero]
  refine WS.range (A := List GReg) (n := n.regs.xs.length) ⟨15, _, fun _ => [], fun R => [(b7, .row 4 [ownAV n g b]), (b, .row 3 (R.map regAV)), (b6, .row ty27.size [ty27.zeroV]), (b1, .row ty27.size [netAV n])], fun _ => [], fun i R => R = begP n ns.xs l.xs i⟩ (n.regs.xs) [1, 2, 6, 7, 14] (by rfl) (by omega) (by simp [begP]) (by rfl) (by (try dsimp only); repeat' (first | exact Sub.nil _ | refine Sub.cons (congrArg (fun z => some (AV.int .i64 z)) (wrap_succ (by omega))) ?_ | refine Sub.cons rfl ?_)) (by (try dsimp only); repeat' (first | exact SubO.nil _ | exact SubO.refl _ | refine SubO.keep ?_ | refine SubO.drop ?_)) (by (try dsimp only); repeat' (first | exact SubK.nil _ | exact SubK.refl _ | refine SubK.keep (by simp) ?_ | refine SubK.new ?_ | refine SubK.drop ?_)) (by rfl) (by rfl) (by rfl) (by rfl) (by rfl) (by rfl) (fun _ _ => by rfl) (fun _ => by rfl) (fun _ _ => by rfl) (fun _ _ => by rfl) ?_ ?_
  · rintro i R hi hR
    try dsimp only at hR
    have hRl : R.length = n.regs.xs.length := by rw [hR]; exact begP_len (by omega)
    have hRi : R[i]? = some n.regs.xs[i] := by rw [hR]; exact begP_get hi
    have hq : ∀ q : GReg, (R.set i q)[i]? = some q := fun q => by rw [List.getElem?_set, if_pos rfl, if_pos (by omega)]
    have hrow : ∀ q : GReg, ((R.set i q).map regAV)[i]? = some (regAV q) := fun q => by rw [List.getElem?_map, hq]; rfl
    have hrow2 : ∀ (q : GReg) (X : AV), (((R.set i q).map regAV).set i X)[i]? = some X := fun q X => by rw [List.getElem?_set, if_pos rfl, if_pos (by simp; omega)]
    dsimp only [RSt.at, List.cons_append, List.nil_append]
    have h0 : R.set i ⟨n.regs.xs[i].name, n.regs.xs[i].init, n.regs.xs[i].next⟩ = R := set_self hRi
    repeat' (first | (refine OS.do rfl ?_; first | refine OD.auto rfl rfl ?_ | refine OD.len rfl rfl (fun _ => lenTy_av rfl rfl) ?_) | refine OS.nil ?_ | refine WS.seq ?_ | refine QS.seqN ?_ | refine WS.region ?_ | refine WS.block ?_)
    rw [← h0]
    refine WS.range (A := UInt8) (n := ns.xs.length) ⟨20, _, fun _ => [], fun c => [(b7, .row 4 [ownAV n g b]), (b, .row 3 ((R.set i ⟨n.regs.xs[i].name, c, n.regs.xs[i].next⟩).map regAV)), (b6, .row ty27.size [ty27.zeroV]), (b1, .row ty27.size [netAV n])], fun _ => [], fun k c => c = begA ns.xs l.xs n.regs.xs[i].name n.regs.xs[i].init k⟩ (n.regs.xs[i].init) [1, 2, 6, 7, 8, 14, 15, 19] (by rfl) (by omega) (rfl) (by rfl) (by (try dsimp only); repeat' (first | exact Sub.nil _ | refine Sub.cons (congrArg (fun z => some (AV.int .i64 z)) (wrap_succ (by omega))) ?_ | refine Sub.cons rfl ?_)) (by (try dsimp only); repeat' (first | exact SubO.nil _ | exact SubO.refl _ | refine SubO.keep ?_ | refine SubO.drop ?_)) (by (try dsimp only); repeat' (first | exact SubK.nil _ | exact SubK.refl _ | refine SubK.keep (by simp) ?_ | refine SubK.new ?_ | refine SubK.drop ?_)) (by rfl) (by rfl) (by rfl) (by rfl) (by rfl) (by rfl) (fun _ _ => by rfl) (fun _ => by rfl) (fun _ _ => by rfl) (fun _ _ => by rfl) ?_ ?_
    · rintro k c hk hc
      try dsimp only at hc
      have hbr := hrow ⟨n.regs.xs[i].name, c, n.regs.xs[i].next⟩
      have hbr2 := hrow2 ⟨n.regs.xs[i].name, c, n.regs.xs[i].next⟩
      dsimp only [RSt.at, List.cons_append, List.nil_append]
      have hbx : 0 < l.xs.length → l.xs[((k % l.xs.length : Nat) : Int).toNat]? = some (l.xs.getD (k % l.xs.length) 0) := fun hp => by
        have := Nat.mod_lt k hp
        rw [Int.toNat_natCast, List.getD_eq_getElem?_getD, List.getElem?_eq_getElem (by omega)]; rfl
      repeat' (first | (refine OS.do rfl ?_; first | refine OD.loadP 1 rfl rfl rfl hbr rfl rfl ?_ | refine OD.loadP 0 rfl rfl rfl rfl rfl rfl ?_ | refine OD.auto rfl rfl ?_ | refine OD.len rfl rfl (fun _ => lenTy_av rfl rfl) ?_ | refine OD.indexAddr rfl rfl rfl (indexAddrA_nat rfl rfl rfl rfl (by first | assumption | exact List.getElem?_eq_getElem (by omega))) ?_ | refine OD.indexAddr rfl rfl rfl (indexAddrA_sl rfl rfl rfl rfl (by omega)) ?_ | refine OD.storeG 1 rfl rfl rfl rfl hbr rfl rfl rfl ?_ | refine OD.storeG 1 rfl rfl rfl rfl (hbr2 _) rfl rfl rfl ?_ | refine OD.bin rfl rfl rfl (binRem (by omega)) ?_ | refine OD.indexAddr rfl rfl rfl (indexAddrA_int rfl rfl rfl rfl (by rw [tmod_nat]; omega) (by rw [tmod_nat]; exact hbx (by omega))) ?_) | refine OS.nil ?_ | refine OS.skip rfl rfl rfl ?_ | refine WS.seq ?_ | refine QS.seqN ?_ | refine WS.region ?_ | refine WS.condF rfl ?_ | refine WS.condE rfl (fun _ => ?_) (fun _ => ?_) | refine WS.condD rfl (fun _ => ?_) (fun _ => ?_) | refine WS.skip ?_ | refine WS.draw rfl rfl ?_ | ((fail_if_success (refine OS.do rfl ?_)); first | refine OS.split rfl rfl rfl (fun _ => ?_) (fun _ => ?_)))
      · rename_i h1 h2 h3
        have hbo : bitOf l.xs k = l.xs.getD (k % l.xs.length) 0 / 8 % 2 := by
          unfold bitOf
          rw [if_neg (fun e => by rw [e] at h3; simp at h3)]
        have hm := row_set2 (R := R) (i := i) (q := ⟨n.regs.xs[i].name, c, n.regs.xs[i].next⟩) (r := ⟨n.regs.xs[i].name, bitOf l.xs k, n.regs.xs[i].next⟩) (X := .agg [.str n.regs.xs[i].name, .int .u8 0, .int .i64 n.regs.xs[i].next])
        have he : regAV ⟨n.regs.xs[i].name, bitOf l.xs k, n.regs.xs[i].next⟩ = .agg [.str n.regs.xs[i].name, .int .u8 (IntKind.u8.wrap ((BitVec.ofInt IntKind.u8.bits (((l.xs.getD (k % l.xs.length) 0).toNat : Int).fdiv (2 ^ (min (Int.toNat 3) IntKind.u8.bits))) &&& BitVec.ofInt IntKind.u8.bits 1).toNat : Int)), .int .i64 n.regs.xs[i].next] := by
          rw [shr3and, ← hbo]; rfl
        rw [he] at hm
        refine QS.rangeN (bitOf l.xs k) (by (try dsimp only) <;> exact ((begA_yes hk (str_eq_yes h1) (hc.symm.trans (two_of h2))).symm)) (by (try dsimp only [RSt.at, List.cons_append, List.nil_append]); repeat' (first | exact Sub.nil _ | refine Sub.cons (congrArg (fun z => some (AV.int .i64 z)) (wrap_succ (by omega))) ?_ | refine Sub.cons rfl ?_)) (by (try dsimp only); rw [← hm]; exact SubO.refl _) (by (try dsimp only); repeat' (first | exact SubK.nil _ | exact SubK.refl _ | refine SubK.keep (by simp) ?_ | refine SubK.new ?_ | refine SubK.drop ?_))
      · rename_i h1 h2 h3
        have hbo : bitOf l.xs k = 0 := by
          unfold bitOf
          rw [if_pos (List.length_eq_zero_iff.1 (by omega))]
        have hm := row_set (R := R) (i := i) (q := ⟨n.regs.xs[i].name, c, n.regs.xs[i].next⟩) (r := ⟨n.regs.xs[i].name, bitOf l.xs k, n.regs.xs[i].next⟩)
        have he : regAV ⟨n.regs.xs[i].name, bitOf l.xs k, n.regs.xs[i].next⟩ = .agg [.str n.regs.xs[i].name, .int .u8 0, .int .i64 n.regs.xs[i].next] := by
          rw [hbo]; rfl
        rw [he] at hm
        refine QS.rangeN (bitOf l.xs k) (by (try dsimp only) <;> exact ((begA_yes hk (str_eq_yes h1) (hc.symm.trans (two_of h2))).symm)) (by (try dsimp only [RSt.at, List.cons_append, List.nil_append]); repeat' (first | exact Sub.nil _ | refine Sub.cons (congrArg (fun z => some (AV.int .i64 z)) (wrap_succ (by omega))) ?_ | refine Sub.cons rfl ?_)) (by (try dsimp only); rw [← hm]; exact SubO.refl _) (by (try dsimp only); repeat' (first | exact SubK.nil _ | exact SubK.refl _ | refine SubK.keep (by simp) ?_ | refine SubK.new ?_ | refine SubK.drop ?_))
      · rename_i h1 h2
        refine QS.rangeN (c) (by (try dsimp only) <;> exact (by rw [begA_no hk (.inr (by rw [← hc]; exact not_two h2))]; exact hc)) (by (try dsimp only [RSt.at, List.cons_append, List.nil_append]); repeat' (first | exact Sub.nil _ | refine Sub.cons (congrArg (fun z => some (AV.int .i64 z)) (wrap_succ (by omega))) ?_ | refine Sub.cons rfl ?_)) (by (try dsimp only); repeat' (first | exact SubO.nil _ | exact SubO.refl _ | refine SubO.keep ?_ | refine SubO.drop ?_)) (by (try dsimp only); repeat' (first | exact SubK.nil _ | exact SubK.refl _ | refine SubK.keep (by simp) ?_ | refine SubK.new ?_ | refine SubK.drop ?_))
      · rename_i h1
        refine QS.rangeN (c) (by (try dsimp only) <;> exact (by rw [begA_no hk (.inl (str_eq_no h1))]; exact hc)) (by (try dsimp only [RSt.at, List.cons_append, List.nil_append]); repeat' (first | exact Sub.nil _ | refine Sub.cons (congrArg (fun z => some (AV.int .i64 z)) (wrap_succ (by omega))) ?_ | refine Sub.cons rfl ?_)) (by (try dsimp only); repeat' (first | exact SubO.nil _ | exact SubO.refl _ | refine SubO.keep ?_ | refine SubO.drop ?_)) (by (try dsimp only); repeat' (first | exact SubK.nil _ | exact SubK.refl _ | refine SubK.keep (by simp) ?_ | refine SubK.new ?_ | refine SubK.drop ?_))
    · rintro c hc
      try dsimp only at hc
      have hbr := hrow ⟨n.regs.xs[i].name, c, n.regs.xs[i].next⟩
      dsimp only [RSt.at, List.cons_append, List.nil_append]
      repeat' (first | (refine OS.do rfl ?_; first | refine OD.loadP 1 rfl rfl rfl hbr rfl rfl ?_ | refine OD.loadP 0 rfl rfl rfl rfl rfl rfl ?_ | refine OD.auto rfl rfl ?_ | refine OD.indexAddr rfl rfl rfl (indexAddrA_sl rfl rfl rfl rfl (by omega)) ?_ | refine OD.storeG 1 rfl rfl rfl rfl hbr rfl rfl rfl ?_) | refine OS.nil ?_ | refine WS.seq ?_ | refine QS.seqN ?_ | refine WS.region ?_ | refine WS.condE rfl (fun _ => ?_) (fun _ => ?_) | refine WS.skip ?_)
      · rename_i h2
        have hb : begM ns.xs l.xs n.regs.xs[i] = ⟨n.regs.xs[i].name, 0, n.regs.xs[i].next⟩ := by
          unfold begM
          rw [← hc, if_pos (two_of h2)]
        have hm := row_set (R := R) (i := i) (q := ⟨n.regs.xs[i].name, c, n.regs.xs[i].next⟩) (r := ⟨n.regs.xs[i].name, 0, n.regs.xs[i].next⟩)
        refine QS.rangeN (R.set i ⟨n.regs.xs[i].name, 0, n.regs.xs[i].next⟩) (by (try dsimp only) <;> exact (by rw [begP_succ hi, hb, hR])) (by (try dsimp only [RSt.at, List.cons_append, List.nil_append]); repeat' (first | exact Sub.nil _ | refine Sub.cons (congrArg (fun z => some (AV.int .i64 z)) (wrap_succ (by omega))) ?_ | refine Sub.cons rfl ?_)) (by (try dsimp only); rw [← hm]; exact SubO.refl _) (by (try dsimp only); repeat' (first | exact SubK.nil _ | exact SubK.refl _ | refine SubK.keep (by simp) ?_ | refine SubK.new ?_ | refine SubK.drop ?_))
      · rename_i h2
        have hb : begM ns.xs l.xs n.regs.xs[i] = ⟨n.regs.xs[i].name, c, n.regs.xs[i].next⟩ := by
          unfold begM
          rw [← hc, if_neg (not_two h2)]
        refine QS.rangeN (R.set i ⟨n.regs.xs[i].name, c, n.regs.xs[i].next⟩) (by (try dsimp only) <;> exact (by rw [begP_succ hi, hb, hR])) (by (try dsimp only [RSt.at, List.cons_append, List.nil_append]); repeat' (first | exact Sub.nil _ | refine Sub.cons (congrArg (fun z => some (AV.int .i64 z)) (wrap_succ (by omega))) ?_ | refine Sub.cons rfl ?_)) (by (try dsimp only); repeat' (first | exact SubO.nil _ | exact SubO.refl _ | refine SubO.keep ?_ | refine SubO.drop ?_)) (by (try dsimp only); repeat' (first | exact SubK.nil _ | exact SubK.refl _ | refine SubK.keep (by simp) ?_ | refine SubK.new ?_ | refine SubK.drop ?_))
  · rintro R hR
    try dsimp only at hR
    rw [begP_all] at hR
    dsimp only [RSt.at, List.cons_append, List.nil_append]
    repeat' (first | (refine OS.do rfl ?_; first | refine OD.loadP 0 rfl rfl rfl rfl rfl rfl ?_ | refine OD.storeW 2 rfl rfl rfl rfl (by first | rfl | exact net_ok _) rfl rfl rfl ?_) | refine OS.nil ?_ | refine WS.seq ?_ | refine QS.seqN ?_ | refine WS.region ?_ | refine WS.ret ?_)
    refine QS.retO (ResO.cell 2 (by rfl) (by rfl) (by rfl) (by rfl) (by rfl) .nil) fun st hs => ?_
    have hg := (hs.obj 1 b _ rfl).1
    have hRl : (R.map regAV).length = n.regs.xs.length := by rw [hR]; simp
    obtain ⟨tk, st2, hz⟩ := freeze_own (g := g) (n := n) hg hRl
    refine ⟨_, st2, hz, ?_, ?_⟩
    · simp only [AV.plain, AV.plainL, plain_grow str_plain, plain_grow gate_plain, plain_grow pin_plain]
      have hp := plain_vs reg_plain 3 tk R
      simp only [AV.plain] at hp
      rw [hp, hR]; rfl
    · simp only [AV.free, AV.freeL, free_grow str_free, free_grow gate_free, free_grow pin_free, Bool.and_true, Bool.true_and]
      exact freeL_map reg_free R
theorem con33 (h1 : pr 33 = none) (h46 : pr 46 = none) : Con2 (En pr) 33 Rel33 := con_ofz (fun d => by simp [AV.freeL, net_free, free_av reg_free, free_av bit_free]) fun d hd st => run33 h1 h46 d.1 hd.1 d.2.1 d.2.2 hd.2.1 hd.2.2 st
end
end Go.OptEnv

/- Inputs of a run by numbers. -/
namespace Go.OptEnv
open Go Go.Proofs Go.Abs Go.RowKit Go.NetM
set_option maxRecDepth 10000
attribute [local irreducible] WS QS OS OD Abs.Sub SubO SubK CW GSl.av accA growA
def clockBit (l : List UInt8) (k : Nat) : UInt8 := if l = [] then 0 else UInt8.ofNat ((l.getD (k % l.length) 0).toNat / 2 ^ (k / l.length % 8) % 2)
def clockM (nins : Nat) (l : List UInt8) (t : Nat) : List UInt8 := (List.range nins).map fun i => clockBit l (i + t * nins)
def clocksM (nins : Nat) (l : List UInt8) (many : Nat) : List (List UInt8) := (List.range many).map (clockM nins l)
def rowAV (r : List UInt8) : AV := (GSl.of r).av 1 bitAV
theorem row_plain (r : List UInt8) : AV.plain (rowAV r) = rowAV r := plain_av bit_plain
theorem row_free (r : List UInt8) : AV.free (rowAV r) = true := free_av bit_free
theorem row_okc (r : List UInt8) : (rowAV r).ok = true ∧ (rowAV r).cells = [rowAV r] := by
  unfold rowAV
  rcases (GSl.of r).cases bitAV 1 with ⟨_, h | h⟩ | h <;> rw [h] <;> exact ⟨rfl, rfl⟩
theorem clock_le (l : List UInt8) (k : Nat) : (clockBit l k).toNat ≤ 1 := by
  unfold clockBit
  split
  · decide
  · rw [UInt8.toNat_ofNat']
    omega
theorem binShr {E : Env} {t : TypeId} {x y : Operand} {k j : IntKind} {a b : Int} (h : 0 ≤ b) : binA E .shr t x y (.int k a) (.int j b) = some (.int k (a.fdiv (2 ^ (min b.toNat k.bits)))) := by
  have : binA E .shr t x y (.int k a) (.int j b) = (if b < 0 then none else some (.int k (a.fdiv (2 ^ (min b.toNat k.bits))))) := rfl
  rw [this, if_neg (by omega)]
theorem shrAnd (m : UInt8) {s : Nat} (hs : s < 8) : IntKind.u8.wrap ((BitVec.ofInt IntKind.u8.bits ((m.toNat : Int).fdiv (2 ^ (min s IntKind.u8.bits))) &&& BitVec.ofInt IntKind.u8.bits 1).toNat : Int) = (((UInt8.ofNat (m.toNat / 2 ^ s % 2)).toNat : Nat) : Int) := by
  have h : ∀ (s : Fin 8) (m : Fin 256), IntKind.u8.wrap ((BitVec.ofInt IntKind.u8.bits ((m.val : Int).fdiv (2 ^ (min s.val IntKind.u8.bits))) &&& BitVec.ofInt IntKind.u8.bits 1).toNat : Int) = ((m.val / 2 ^ s.val % 2 : Nat) : Int) := by decide +kernel
  rw [UInt8.toNat_ofNat', h ⟨s, hs⟩ ⟨m.toNat, m.toNat_lt⟩]
  show ((m.toNat / 2 ^ s % 2 : Nat) : Int) = _
  congr 1
  omega
theorem acc_ok (t sz : Nat) (xs : List AV) : (accA t sz xs).ok = true ∧ (accA t sz xs).cells = [accA t sz xs] := by
  unfold accA
  cases xs <;> exact ⟨rfl, rfl⟩
theorem acc_okE {et : Ty} (h : Nat.beq et.size 1 = true) (t sz : Nat) (xs : List AV) : okElems et [accA t sz xs] = true := by
  have := Nat.eq_of_beq_eq_true h
  simp [okElems, acc_ok, this]
theorem lit_one {E : Env} {t e : TypeId} {y ey : Ty} {x : AV} (h1 : E.ty t = some y) (h2 : y.d = .slice e) (h3 : E.ty e = some ey) (h4 : ey.size = 1) (hx : x.ok = true ∧ x.cells = [x]) : buildSliceA E t 1 [(0, x)] = some (.vs 1 .full [x]) := by
  unfold buildSliceA
  rw [h1]
  dsimp only
  rw [h2]
  dsimp only
  rw [h3]
  dsimp only
  rw [if_pos ⟨by omega, by rw [h4]; decide⟩]
  simp [litA, hx, h4]
def Rel32 : Rel := RelF (fun p : GNet × GSl UInt8 × Nat => (FitsN p.1 ∧ p.1.ins.xs.length ≤ 1000) ∧ p.2.1.xs.length ≤ 140737488355328 ∧ p.2.2 ≤ 1000) (fun p => [netAV p.1, p.2.1.av 1 bitAV, .int .i64 (p.2.2 : Int)]) fun p => (GSl.of (clocksM p.1.ins.xs.length p.2.1.xs p.2.2)).av 1 rowAV
theorem plain_rows {t : Nat} {rows : List AV} {ls : List (List UInt8)} (h : AV.plainL rows = ls.map rowAV) : AV.plain (accA t 1 rows) = (GSl.of ls).av 1 rowAV := by
  have hl : rows.length = ls.length := by
    have := congrArg List.length h
    rwa [plainL_length, List.length_map] at this
  cases rows with
  | nil =>
    have : ls = [] := List.length_eq_zero_iff.1 (by rw [← hl]; rfl)
    subst this
    unfold GSl.av accA
    rfl
  | cons x rows =>
    cases ls with
    | nil => simp at hl
    | cons y ls =>
      unfold GSl.av accA
      show AV.vs 1 .any (AV.plainL (x :: rows)) = AV.vs 1 .any ((y :: ls).map rowAV)
      rw [h]
theorem plainL_snoc {rows : List AV} {x : AV} {ls : List (List UInt8)} {r : List UInt8} (h : AV.plainL rows = ls.map rowAV) (hx : AV.plain x = rowAV r) : AV.plainL (rows ++ [x]) = (ls ++ [r]).map rowAV := by
  have : ∀ (a b : List AV), AV.plainL (a ++ b) = AV.plainL a ++ AV.plainL b := fun a b => by
    induction a with
    | nil => rfl
    | cons y a ih => simp [AV.plainL, ih]
  rw [this, h, List.map_append]
  simp [AV.plainL, hx]
theorem freeL_snoc {rows : List AV} {x : AV} (h : AV.freeL rows = true) (hx : AV.free x = true) : AV.freeL (rows ++ [x]) = true := by
  induction rows with
  | nil => simp [AV.freeL, hx]
  | cons y a ih =>
    simp only [AV.freeL, Bool.and_eq_true, List.cons_append] at h ⊢
    exact ⟨h.1, ih h.2⟩
theorem free_accL {t sz : Nat} {rows : List AV} (h : AV.freeL rows = true) : AV.free (accA t sz rows) = true := by
  unfold accA
  cases rows with
  | nil => rfl
  | cons x rows => simpa only [AV.free] using h
section
variable {pr : Prims}
set_option maxHeartbeats 2000000 in
theorem run32 (h1 : pr 32 = none) (n : GNet) (hn : FitsN n) (hni : n.ins.xs.length ≤ 1000) (l : GSl UInt8) (hl : l.xs.length ≤ 140737488355328) (many : Nat) (hm : many ≤ 1000) (st : St) :
    CW (En pr) 32 [netAV n, l.av 1 bitAV, .int .i64 (many : Int)] st fun r _ => AV.free r = true ∧ AV.plain r = (GSl.of (clocksM n.ins.xs.length l.xs many)).av 1 rowAV := by
  refine CW.start (N := 58) h1 rfl rfl ?_
  repeat' (first | (refine OS.do rfl ?_; first | refine OD.box rfl rfl rfl rfl (net_ok _) rfl (fun b1 => ?_) | refine OD.auto rfl rfl ?_) | refine OS.nil ?_ | refine WS.seq ?_ | refine QS.seqN ?_ | refine WS.region ?_ | refine WS.block ?_)
  refine WS.loopK (D := Nat × Nat × List AV) [1, 2, 3] (by rfl) (fun d => [(7, accA d.2.1 1 d.2.2), (8, .int .i64 (d.1 : Int))]) (fun _ => [(b1, .row 4 [netAV n])]) (fun d => [(d.2.1, !d.2.2.isEmpty)]) (fun d => d.1 ≤ many ∧ AV.plainL d.2.2 = ((List.range d.1).map (clockM n.ins.xs.length l.xs)).map rowAV ∧ AV.freeL d.2.2 = true) (fun d => many + 1 - d.1) ((0, 0, [])) (⟨by omega, rfl, rfl⟩) (by (try dsimp only); repeat' (first | exact Sub.nil _ | refine Sub.cons (congrArg some (accA_nil _ _).symm) ?_ | refine Sub.cons (congrArg (fun z => some (AV.int .i64 z)) (wrap_succ (by omega))) ?_ | refine Sub.cons rfl ?_)) (by (try dsimp only); repeat' (first | exact SubO.nil _ | exact SubO.refl _ | refine SubO.keep ?_ | refine SubO.drop ?_)) (by (try dsimp only); repeat' (first | exact SubK.nil _ | exact SubK.refl _ | refine SubK.keep (by simp) ?_ | refine SubK.new ?_ | refine SubK.drop ?_)) ?_
  rintro ⟨t, tk, rows⟩ ⟨ht, hp, hf⟩
  try dsimp only at ht hp hf
  have hrl : rows.length = t := by
    have := congrArg List.length hp
    rw [plainL_length] at this
    simpa using this
  dsimp only [RSt.at, List.cons_append, List.nil_append]
  repeat' (first | (refine OS.do rfl ?_; first | refine OD.loadP 0 rfl rfl rfl rfl rfl rfl ?_ | refine OD.auto rfl rfl ?_ | refine OD.len rfl rfl (fun _ => lenTy_av rfl rfl) ?_) | refine OS.nil ?_ | refine WS.seq ?_ | refine QS.seqN ?_ | refine WS.region ?_ | refine WS.condD rfl (fun _ => ?_) (fun _ => ?_) | refine WS.skip ?_ | refine WS.block ?_ | refine WS.ret ?_ | refine WS.exit ?_ | refine QS.seqE ?_ | refine QS.blockH ?_ | refine QS.loopE ?_)
  · refine WS.range (A := Nat × List UInt8) (n := n.ins.xs.length) ⟨21, _, fun a => [(9, accA a.1 1 (a.2.map bitAV))], fun _ => [(b1, .row 4 [netAV n])], fun a => [(a.1, !(a.2.map bitAV).isEmpty), (tk, !rows.isEmpty)], fun i a => a.2 = (List.range i).map (fun i => clockBit l.xs (i + t * n.ins.xs.length))⟩ ((0, [])) [1, 2, 3, 7, 8, 20] (by rfl) (by omega) (rfl) (by rfl) (by (try dsimp only); repeat' (first | exact Sub.nil _ | refine Sub.cons (congrArg some (accA_nil _ _).symm) ?_ | refine Sub.cons (congrArg (fun z => some (AV.int .i64 z)) (wrap_succ (by omega))) ?_ | refine Sub.cons rfl ?_)) (by (try dsimp only); repeat' (first | exact SubO.nil _ | exact SubO.refl _ | refine SubO.keep ?_ | refine SubO.drop ?_)) (by (try dsimp only); repeat' (first | exact SubK.nil _ | exact SubK.refl _ | refine SubK.keep (by simp) ?_ | refine SubK.new ?_ | refine SubK.drop ?_)) (by rfl) (by rfl) (by rfl) (by rfl) (by rfl) (by rfl) (fun _ _ => by rfl) (fun _ => by rfl) (fun _ _ => by rfl) (fun _ _ => by rfl) ?_ ?_
    · rintro i ⟨tk9, c⟩ hi hc
      try dsimp only at hc
      have hcl : c.length = i := by rw [hc]; simp
      have htn : t * n.ins.xs.length ≤ 1000000 := Nat.mul_le_mul (show t ≤ 1000 by omega) hni
      have hw1 : IntKind.i64.wrap ((t : Int) * (n.ins.xs.length : Int)) = ((t * n.ins.xs.length : Nat) : Int) := by
        rw [← Int.natCast_mul]; exact wrap_nat (by omega)
      have hw2 : IntKind.i64.wrap ((i : Int) + IntKind.i64.wrap ((t : Int) * (n.ins.xs.length : Int))) = ((i + t * n.ins.xs.length : Nat) : Int) := by
        rw [hw1, ← Int.natCast_add]; exact wrap_nat (by omega)
      dsimp only [RSt.at, List.cons_append, List.nil_append]
      repeat' (first | (refine OS.do rfl ?_; first | refine OD.loadP 0 rfl rfl rfl rfl rfl rfl ?_ | refine OD.auto rfl rfl ?_ | refine OD.len rfl rfl (fun _ => lenTy_av rfl rfl) ?_) | refine OS.nil ?_ | refine WS.seq ?_ | refine QS.seqN ?_ | refine WS.region ?_ | refine WS.condD rfl (fun _ => ?_) (fun _ => ?_) | refine WS.skip ?_ | refine WS.draw rfl rfl ?_)
      · rename_i hlp
        have hlp' : 0 < l.xs.length := by omega
        rw [hw2]
        generalize hK : i + t * n.ins.xs.length = k at *
        have hbx : l.xs[((k % l.xs.length : Nat) : Int).toNat]? = some (l.xs.getD (k % l.xs.length) 0) := by
          have := Nat.mod_lt k hlp'
          rw [Int.toNat_natCast, List.getD_eq_getElem?_getD, List.getElem?_eq_getElem (by omega)]; rfl
        have hq : (IntKind.i64.wrap ((k : Int).tdiv (l.xs.length : Int))).tmod 8 = ((k / l.xs.length % 8 : Nat) : Int) := by
          have e1 : (k : Int).tdiv (l.xs.length : Int) = ((k / l.xs.length : Nat) : Int) := by
            rw [Int.tdiv_eq_ediv_of_nonneg (by omega)]; rfl
          have e2 : k / l.xs.length ≤ k := Nat.div_le_self _ _
          rw [e1, wrap_nat (by omega)]
          exact tmod_nat
        have hcb : bitAV (clockBit l.xs k) = .int .u8 (IntKind.u8.wrap ((BitVec.ofInt IntKind.u8.bits (((l.xs.getD (k % l.xs.length) 0).toNat : Int).fdiv (2 ^ (min ((IntKind.i64.wrap ((k : Int).tdiv (l.xs.length : Int))).tmod 8).toNat IntKind.u8.bits))) &&& BitVec.ofInt IntKind.u8.bits 1).toNat : Int)) := by
          rw [hq, Int.toNat_natCast, shrAnd _ (Nat.mod_lt _ (by omega))]
          unfold clockBit
          rw [if_neg (fun e => by rw [e] at hlp'; simp at hlp')]; rfl
        repeat' (first | (refine OS.do rfl ?_; first | refine OD.bin rfl rfl rfl (binQuo (by omega)) ?_ | refine OD.auto rfl rfl ?_ | refine OD.len rfl rfl (fun _ => lenTy_av rfl rfl) ?_ | refine OD.indexAddr rfl rfl rfl (indexAddrA_nat rfl rfl rfl rfl (by first | assumption | exact List.getElem?_eq_getElem (by omega))) ?_ | refine OD.bin rfl rfl rfl (binRem (by omega)) ?_ | refine OD.bin rfl rfl rfl (binShr (by rw [hq]; omega)) ?_ | refine OD.append 0 rfl rfl rfl rfl rfl rfl rfl rfl rfl rfl rfl (.inr ⟨⟨_, rfl⟩, rfl⟩) (fun _ => rfl) rfl rfl (roomB rfl (by simp only [List.length_map, List.length_append, List.length_take, List.length_cons, List.length_nil]; omega)) (fun tk' => ?_)) | refine OS.nil ?_ | refine QS.seqN ?_ | refine WS.region ?_)
        refine QS.rangeN ((tk', c ++ [clockBit l.xs k])) (by (try dsimp only) <;> exact (by rw [List.range_succ, List.map_append, ← hc, ← hK]; rfl)) (by (try dsimp only [RSt.at, List.cons_append, List.nil_append]); repeat' (first | exact Sub.nil _ | refine Sub.cons (by rw [List.map_append, List.map_cons, List.map_nil, hcb]; rfl) ?_ | refine Sub.cons (congrArg (fun z => some (AV.int .i64 z)) (wrap_succ (by omega))) ?_ | refine Sub.cons rfl ?_)) (by (try dsimp only); repeat' (first | exact SubO.nil _ | exact SubO.refl _ | refine SubO.keep ?_ | refine SubO.drop ?_)) (by (try dsimp only); repeat' (first | exact SubK.nil _ | exact SubK.refl _ | refine SubK.keep (by simp) ?_ | refine SubK.new ?_ | refine SubK.drop ?_))
      · rename_i hlp
        have hl0 : l.xs = [] := List.length_eq_zero_iff.1 (by omega)
        have hcb : clockBit l.xs (i + t * n.ins.xs.length) = 0 := by unfold clockBit; rw [if_pos hl0]
        repeat' (first | (refine OS.do rfl ?_; first | refine OD.auto rfl rfl ?_ | refine OD.append 0 rfl rfl rfl rfl rfl rfl rfl rfl rfl rfl rfl (.inr ⟨⟨_, rfl⟩, rfl⟩) (fun _ => rfl) rfl rfl (roomB rfl (by simp only [List.length_map, List.length_append, List.length_take, List.length_cons, List.length_nil]; omega)) (fun tk' => ?_)) | refine OS.nil ?_)
        refine QS.rangeN ((tk', c ++ [0])) (by (try dsimp only) <;> exact (by rw [List.range_succ, List.map_append, ← hc, List.map_cons, List.map_nil, hcb])) (by (try dsimp only [RSt.at, List.cons_append, List.nil_append]); repeat' (first | exact Sub.nil _ | refine Sub.cons (by rw [List.map_append]; rfl) ?_ | refine Sub.cons (congrArg (fun z => some (AV.int .i64 z)) (wrap_succ (by omega))) ?_ | refine Sub.cons rfl ?_)) (by (try dsimp only); repeat' (first | exact SubO.nil _ | exact SubO.refl _ | refine SubO.keep ?_ | refine SubO.drop ?_)) (by (try dsimp only); repeat' (first | exact SubK.nil _ | exact SubK.refl _ | refine SubK.keep (by simp) ?_ | refine SubK.new ?_ | refine SubK.drop ?_))
    · rintro ⟨tk9, c⟩ hc
      try dsimp only at hc
      have hcm : c = clockM n.ins.xs.length l.xs t := hc
      dsimp only [RSt.at, List.cons_append, List.nil_append]
      repeat' (first | (refine OS.do rfl ?_; first | refine OD.auto rfl rfl ?_ | refine OD.buildSlice rfl rfl (lit_one rfl rfl rfl rfl (acc_ok _ _ _)) ?_ | refine OD.append 1 rfl rfl rfl rfl rfl rfl rfl rfl rfl rfl rfl (.inr ⟨⟨_, rfl⟩, rfl⟩) (fun _ => rfl) (acc_okE rfl _ _ _) rfl (roomB rfl (by simp only [List.length_cons, List.length_nil]; omega)) (fun tk' => ?_)) | refine OS.nil ?_ | refine QS.seqN ?_ | refine WS.region ?_ | refine QS.blockN ?_)
      refine QS.loopN ((t + 1, tk', rows ++ [accA tk9 1 (c.map bitAV)])) (by exact (⟨by dsimp only; omega, by rw [List.range_succ, List.map_append]; exact plainL_snoc hp (by rw [plain_acc bit_plain, hcm]; rfl), freeL_snoc hf (free_acc bit_free)⟩)) (by exact (by dsimp only; omega)) (by (try dsimp only [List.cons_append, List.nil_append]); repeat' (first | exact Sub.nil _ | refine Sub.cons (congrArg (fun z => some (AV.int .i64 z)) (wrap_succ (by omega))) ?_ | refine Sub.cons rfl ?_)) (by (try dsimp only); repeat' (first | exact SubO.nil _ | exact SubO.refl _ | refine SubO.keep ?_ | refine SubO.drop ?_)) (by (try dsimp only); repeat' (first | exact SubK.nil _ | exact SubK.refl _ | refine SubK.keep (by simp) ?_ | refine SubK.new ?_ | refine SubK.drop ?_))
  · have htm : t = many := by omega
    subst htm
    exact QS.retR (by rfl) fun _ => ⟨free_accL hf, plain_rows hp⟩
theorem con32 (h1 : pr 32 = none) : Con2 (En pr) 32 Rel32 := con_of (fun d => by simp [AV.freeL, net_free, free_av bit_free, AV.free]) fun d hd st => run32 h1 d.1 hd.1.1 hd.1.2 d.2.1 hd.2.1 d.2.2 hd.2.2 st
end
end Go.OptEnv

/- The law OptStuck. -/
namespace Go.OptEnv
open Go Go.Proofs Go.Abs Go.RowKit Go.NetM
set_option maxRecDepth 10000
theorem begA_keep {names : List GReg} {l : List UInt8} {nm : ByteArray} {b0 : UInt8} (h : b0 ≠ 2) : ∀ k, begA names l nm b0 k = b0
  | 0 => rfl
  | k + 1 => by
    simp only [begA]
    rw [begA_keep h k, if_neg (fun e => h e.2)]
theorem bitOf_le (l : List UInt8) (k : Nat) : (bitOf l k).toNat ≤ 2 := by
  unfold bitOf
  split
  · decide
  · rw [UInt8.toNat_mod]
    rw [show (2 : UInt8).toNat = 2 from rfl]
    omega
theorem begA_le {names : List GReg} {l : List UInt8} {nm : ByteArray} {b0 : UInt8} (h : b0.toNat ≤ 2) : ∀ k, (begA names l nm b0 k).toNat ≤ 2
  | 0 => h
  | k + 1 => by
    simp only [begA]
    split
    · exact bitOf_le l k
    · exact begA_le h k
theorem begM_le {names : List GReg} {l : List UInt8} {r : GReg} (h : r.init.toNat ≤ 2) : (begM names l r).init.toNat ≤ 2 := by
  unfold begM
  dsimp only
  split
  · decide
  · exact begA_le h _
theorem begM_keep {names : List GReg} {l : List UInt8} {r : GReg} (h : r.init ≠ 2) : (begM names l r).init = r.init := by
  unfold begM
  dsimp only
  rw [begA_keep h, if_neg h]
theorem begun_inits {n : GNet} {names : List GReg} {l : List UInt8} : (begunN n names l).inits = n.regs.xs.map fun r => (begM names l r).init := by
  simp [GNet.inits, begunN, GSl.some, List.map_map, Function.comp]
theorem begins {n : GNet} {names : List GReg} {l : List UInt8} : Begins n.inits (begunN n names l).inits := by
  rw [begun_inits]
  refine ⟨by simp [GNet.inits], fun i h => ?_⟩
  by_cases hi : i < n.regs.xs.length
  · unfold GNet.inits at h ⊢
    rw [getD_map _ _ _ hi] at h ⊢
    rw [getD_map _ _ _ hi]
    exact begM_keep h
  · simp [GNet.inits, List.getD_eq_getElem?_getD, hi]
theorem begun_le2 {n : GNet} {names : List GReg} {l : List UInt8} (h : le2 n.inits = true) : le2 (begunN n names l).inits = true := by
  rw [begun_inits]
  simp only [le2, GNet.inits, List.all_map, List.all_eq_true, Function.comp, decide_eq_true_eq] at h ⊢
  exact fun r hr => begM_le (h r hr)
theorem begun_fits {n : GNet} {names : List GReg} {l : List UInt8} (h : FitsN n) : FitsN (begunN n names l) := by
  obtain ⟨f1, f2, f3, f4, m1, m2, m3, g1, g2, g3⟩ := h
  refine ⟨f1, by simpa [begunN, GSl.some] using f2, f3, f4, m1, ?_, m3, g1, ?_, g3⟩
  · intro r hr
    obtain ⟨q, hq, rfl⟩ := List.mem_map.1 (show r ∈ n.regs.xs.map (begM names l) from hr)
    exact m2 q hq
  · intro r hr
    obtain ⟨q, hq, rfl⟩ := List.mem_map.1 (show r ∈ n.regs.xs.map (begM names l) from hr)
    exact g2 q hq
theorem clock_len (nins : Nat) (l : List UInt8) (t : Nat) : (clockM nins l t).length = nins := by simp [clockM]
theorem clock_le2 (nins : Nat) (l : List UInt8) (t : Nat) : le2 (clockM nins l t) = true := by
  simp only [le2, clockM, List.all_map, List.all_eq_true, Function.comp, decide_eq_true_eq]
  intro i _
  have := clock_le l (i + t * nins)
  omega
theorem clocks_in {nins : Nat} {l : List UInt8} {m : Nat} {x : List UInt8} (h : x ∈ clocksM nins l m) : x.length = nins ∧ le2 x = true := by
  obtain ⟨t, _, rfl⟩ := List.mem_map.1 h
  exact ⟨clock_len _ _ _, clock_le2 _ _ _⟩
theorem clocks_len (nins : Nat) (l : List UInt8) (m : Nat) : (clocksM nins l m).length = m := by simp [clocksM]
theorem evalR_yes {n : GNet} (hV : validM n = true) {ins now : List UInt8} (h1 : ins.length = n.ins.xs.length) (h2 : le2 ins = true) (h3 : now.length = n.regs.xs.length) (h4 : le2 now = true) : evalR n ins now = some (n.outs.xs.map (fun p => ofL (allB n.gates.xs ins now) p.lit), litsB n.gates.xs ins now n.nexts) := by
  unfold evalR
  rw [allR_yes hV (and_t (decide_eq_true (by rw [h1])) h2) (and_t (decide_eq_true (by rw [h3])) h4)]
  simp only [Option.map_some, litsB, GNet.nexts, List.map_map]
  rfl
def twoAV (a b : GSl UInt8) : AV := .agg [a.av 1 bitAV, b.av 1 bitAV]
theorem two_ok (a b : GSl UInt8) : (twoAV a b).ok = true := by simp [twoAV, AV.ok, av_cellOk]
def Rel16 : Rel := fun a x => a = [] ∧ x = .bool true
attribute [local irreducible] WS QS OS OD Abs.Sub SubO SubK CW GSl.av accA growA
section
variable {pr : Prims}
theorem use16 (h : Has pr 16 Rel16) (st : St) : primOf Rel16 [] st = some (.bool true, st) := h.use ⟨rfl, rfl⟩ st
theorem use15 (h : Has pr 15 Rel15) {n : GNet} (hn : FitsN n) (st : St) : primOf Rel15 [netAV n] st = some (.bool (fewM n), st) := h.use ⟨n, hn, by simp [AV.plainL, net_plain], rfl⟩ st
theorem use22 (h : Has pr 22 Rel22) {n : GNet} (hn : FitsN n) (hi : n.ins.xs.length ≤ 120) (st : St) : primOf Rel22 [netAV n] st = some (stuckAV n, st) := h.use ⟨n, ⟨hn, hi⟩, by simp [AV.plainL, net_plain], rfl⟩ st
theorem use33 (h : Has pr 33 Rel33) {n : GNet} (hn : SmallN n) {ns : GSl GReg} {l : GSl UInt8} (h1 : ns.xs.length ≤ 140737488355328) (h2 : l.xs.length ≤ 140737488355328) (st : St) : primOf Rel33 [netAV n, ns.av 3 regAV, l.av 1 bitAV] st = some (netAV (begunN n ns.xs l.xs), st) := h.use (r := netAV (begunN n ns.xs l.xs)) ⟨(n, ns, l), ⟨hn, h1, h2⟩, by simp [AV.plainL, net_plain, plain_av reg_plain, plain_av bit_plain], rfl⟩ st
theorem use47 (h : Has pr 47 Rel47) {n : GNet} (hn : n.regs.xs.length ≤ 1000000) (st : St) : primOf Rel47 [netAV n] st = some ((GSl.of n.inits).av 1 bitAV, st) := h.use (r := (GSl.of n.inits).av 1 bitAV) ⟨n, hn, by simp [AV.plainL, net_plain], rfl⟩ st
theorem use32 (h : Has pr 32 Rel32) {n : GNet} (hn : FitsN n) (hi : n.ins.xs.length ≤ 1000) {l : GSl UInt8} (h2 : l.xs.length ≤ 140737488355328) {m : Nat} (hm : m ≤ 1000) (st : St) : primOf Rel32 [netAV n, l.av 1 bitAV, .int .i64 (m : Int)] st = some ((GSl.of (clocksM n.ins.xs.length l.xs m)).av 1 rowAV, st) :=
  h.use (r := (GSl.of (clocksM n.ins.xs.length l.xs m)).av 1 rowAV) ⟨(n, l, m), ⟨⟨hn, hi⟩, h2, hm⟩, by simp [AV.plainL, net_plain, plain_av bit_plain, AV.plain], rfl⟩ st
set_option maxHeartbeats 2000000 in
theorem run11 (h1 : pr 11 = none) (h15 : Has pr 15 Rel15) (h16 : Has pr 16 Rel16) (h22 : Has pr 22 Rel22) (h31 : Has pr 31 Rel31) (h32 : Has pr 32 Rel32) (h33 : Has pr 33 Rel33) (h47 : Has pr 47 Rel47) (h48 : Has pr 48 Rel48)
    (n : GNet) (hn : FitsN n) (l0 l1 : GSl UInt8) (hl0 : l0.xs.length ≤ 140737488355328) (hl1 : l1.xs.length ≤ 140737488355328) (many : UInt8) (st : St) :
    CW (En pr) 11 [netAV n, twoAV l0 l1, .int .u8 (many.toNat : Int)] st fun r _ => r = .bool true := by
  have hn' := hn
  obtain ⟨f1, f2, f3, f4, _, _, _, _, _, _⟩ := hn'
  have u15 := use15 h15 hn
  have u31 := use31 h31 hn
  have u16 := use16 h16
  rcases (Bool.eq_false_or_eq_true (fewM n)).symm with hfew | hfew
  · rw [hfew] at u15
    refine CW.start (N := 90) h1 rfl rfl ?_
    repeat' (first | (refine OS.do rfl ?_; first | refine OD.box rfl rfl rfl rfl (net_ok _) rfl (fun b1 => ?_) | refine OD.box rfl rfl rfl rfl (two_ok _ _) rfl (fun b2 => ?_) | refine OD.auto rfl rfl ?_ | refine OD.loadP 1 rfl rfl rfl rfl rfl rfl ?_ | refine OD.call rfl rfl rfl h15.eq u15 (fun _ => rfl) ?_ | refine OD.call rfl rfl rfl h16.eq u16 (fun _ => rfl) ?_) | refine OS.nil ?_ | refine OS.skip rfl rfl rfl ?_ | refine WS.seq ?_ | refine QS.seqN ?_ | refine WS.region ?_ | refine WS.condT rfl ?_ | refine WS.ret ?_ | refine QS.seqR ?_)
    all_goals (exact QS.retR (by rfl) fun _ => rfl)
  rcases (Bool.eq_false_or_eq_true (validM n)).symm with hV | hV
  · rw [hfew] at u15
    rw [hV] at u31
    refine CW.start (N := 90) h1 rfl rfl ?_
    repeat' (first | (refine OS.do rfl ?_; first | refine OD.box rfl rfl rfl rfl (net_ok _) rfl (fun b1 => ?_) | refine OD.box rfl rfl rfl rfl (two_ok _ _) rfl (fun b2 => ?_) | refine OD.auto rfl rfl ?_ | refine OD.loadP 1 rfl rfl rfl rfl rfl rfl ?_ | refine OD.call rfl rfl rfl h15.eq u15 (fun _ => rfl) ?_ | refine OD.call rfl rfl rfl h31.eq u31 (fun _ => rfl) ?_ | refine OD.call rfl rfl rfl h16.eq u16 (fun _ => rfl) ?_) | refine OS.nil ?_ | refine WS.seq ?_ | refine QS.seqN ?_ | refine WS.region ?_ | refine WS.condT rfl ?_ | refine WS.ret ?_ | refine QS.seqR ?_)
    all_goals (exact QS.retR (by rfl) fun _ => rfl)
  rw [hfew] at u15
  rw [hV] at u31
  have hf := hfew
  simp only [fewM, Bool.and_eq_true, decide_eq_true_eq] at hf
  have v := validM_iff.1 hV
  have u22 := use22 h22 hn (by omega)
  have hst : stuckAV n = .tup [(GSl.of n.stuck).av 1 bitAV, .int .i64 0] := by unfold stuckAV; rw [if_pos hV]
  rw [hst] at u22
  have hz22 : ∀ st, freezeA st (.tup [(GSl.of n.stuck).av 1 bitAV, .int .i64 0]) = some (.tup [(GSl.of n.stuck).av 1 bitAV, .int .i64 0], st) := fun st => freeze_free (by simp only [AV.free, AV.freeL, free_av bit_free, Bool.and_true])
  have u33 := use33 h33 (n := n) ⟨by omega, by omega, by omega, by omega⟩ f2 hl1
  have u47 := use47 h47 (n := begunN n n.regs.xs l1.xs) (by show (n.regs.xs.map (begM n.regs.xs l1.xs)).length ≤ _; simp; omega)
  have hz33 : ∀ st, freezeA st (netAV (begunN n n.regs.xs l1.xs)) = some (netAV (begunN n n.regs.xs l1.xs), st) := fun st => freeze_free (net_free _)
  have hz47 : ∀ st, freezeA st ((GSl.of (begunN n n.regs.xs l1.xs).inits).av 1 bitAV) = some ((GSl.of (begunN n n.regs.xs l1.xs).inits).av 1 bitAV, st) := fun st => freeze_free (free_av bit_free)
  have hmany : (IntKind.i64.wrap (many.toNat : Int)).tmod 21 = ((many.toNat % 21 : Nat) : Int) := by
    have := many.toNat_lt
    rw [wrap_nat (by omega)]; exact tmod_nat
  have u32 : ∀ st, primOf Rel32 [netAV n, l0.av 1 bitAV, .int .i64 ((IntKind.i64.wrap (many.toNat : Int)).tmod 21)] st = some ((GSl.of (clocksM n.ins.xs.length l0.xs (many.toNat % 21))).av 1 rowAV, st) := fun st => by
    rw [hmany]; exact use32 h32 hn (by omega) hl0 (by omega) st
  have hz32 : ∀ st, freezeA st ((GSl.of (clocksM n.ins.xs.length l0.xs (many.toNat % 21))).av 1 rowAV) = some ((GSl.of (clocksM n.ins.xs.length l0.xs (many.toNat % 21))).av 1 rowAV, st) := fun st => freeze_free (free_av row_free)
  have hsl : n.stuck.length = n.regs.xs.length := by
    have := (stuck_top (gs := n.gates.xs) (nins := n.ins.xs.length) (next := n.nexts) (init := n.inits) (by simp [GNet.inits, GNet.nexts])).1
    rw [GNet.stuck, ← this]; simp [GNet.inits]
  have hsl' : (GSl.of n.stuck).xs.length = n.regs.xs.length := hsl
  refine CW.start (N := 90) h1 rfl rfl ?_
  repeat' (first | (refine OS.do rfl ?_; first | refine OD.box rfl rfl rfl rfl (net_ok _) rfl (fun b1 => ?_) | refine OD.box rfl rfl rfl rfl (two_ok _ _) rfl (fun b2 => ?_) | refine OD.loadP 0 rfl rfl rfl rfl rfl rfl ?_ | refine OD.auto rfl rfl ?_ | refine OD.loadP 1 rfl rfl rfl rfl rfl rfl ?_ | refine OD.len rfl rfl (fun _ => lenTy_av rfl rfl) ?_ | refine OD.loadP 2 rfl rfl rfl rfl rfl rfl ?_ | refine OD.alloc rfl rfl rfl rfl (fun _ => ?_) | refine OD.storeW 0 rfl rfl rfl rfl (by first | rfl | exact net_ok _) rfl rfl rfl ?_ | refine OD.indexAddr rfl rfl rfl rfl ?_ | refine OD.call rfl rfl rfl h15.eq u15 (fun _ => rfl) ?_ | refine OD.call rfl rfl rfl h31.eq u31 (fun _ => rfl) ?_ | refine OD.call rfl rfl rfl h22.eq u22 hz22 ?_ | refine OD.call rfl rfl rfl h33.eq u33 hz33 ?_ | refine OD.call rfl rfl rfl h47.eq u47 hz47 ?_ | refine OD.call rfl rfl rfl h32.eq u32 hz32 ?_) | refine OS.nil ?_ | refine WS.seq ?_ | refine QS.seqN ?_ | refine WS.region ?_ | refine WS.condF rfl ?_ | refine WS.skip ?_ | refine WS.block ?_ | refine WS.ret ?_ | refine QS.seqR ?_ | refine WS.condNe rfl (fun _ => ?_) (fun _ => ?_))
  · rename_i hne
    exact (hne (by rw [hsl'])).elim
  generalize hxs : clocksM n.ins.xs.length l0.xs (many.toNat % 21) = xs at *
  have hxi : ∀ x ∈ xs, x.length = n.ins.xs.length ∧ le2 x = true := fun x hx => clocks_in (by rw [hxs]; exact hx)
  have hnx : n.inits.length = n.nexts.length := by simp [GNet.inits, GNet.nexts]
  have hnn : n.nexts.length = n.regs.xs.length := by simp [GNet.nexts]
  have hbl : (begunN n n.regs.xs l1.xs).inits.length = n.nexts.length := by rw [begun_inits]; simp [GNet.nexts]
  have hb2 : le2 (begunN n n.regs.xs l1.xs).inits = true := begun_le2 (by simpa [le2, GNet.inits, List.all_map, Function.comp] using v.inits)
  have hxl : xs.length ≤ 21 := by
    rw [← hxs, clocks_len]
    have := Nat.mod_lt many.toNat (show 0 < 21 by decide)
    omega
  refine WS.range (A := List UInt8) (n := xs.length) ⟨54, _, fun a => [(10, (GSl.of a).av 1 bitAV)], fun _ => [(b1, .row 4 [netAV n])], fun _ => [], fun t a => a = nowM n.gates.xs n.nexts (begunN n n.regs.xs l1.xs).inits xs t⟩ ((begunN n n.regs.xs l1.xs).inits) [3, 7, 52, 53] (by rfl) (by omega) (rfl) (by rfl) (by (try dsimp only); repeat' (first | exact Sub.nil _ | refine Sub.cons (congrArg (fun z => some (AV.int .i64 z)) (wrap_succ (by omega))) ?_ | refine Sub.cons rfl ?_)) (by (try dsimp only); repeat' (first | exact SubO.nil _ | exact SubO.refl _ | refine SubO.keep ?_ | refine SubO.drop ?_)) (by (try dsimp only); repeat' (first | exact SubK.nil _ | exact SubK.refl _ | refine SubK.keep (by simp) ?_ | refine SubK.new ?_ | refine SubK.drop ?_)) (by rfl) (by rfl) (by rfl) (by rfl) (by rfl) (by rfl) (fun _ _ => by rfl) (fun _ => by rfl) (fun _ _ => by rfl) (fun _ _ => by rfl) ?_ ?_
  · rintro t a ht ha
    try dsimp only at ha
    have hal : a.length = n.regs.xs.length := by rw [ha, now_len hbl t (by omega), hnn]
    have hal' : (GSl.of a).xs.length = n.regs.xs.length := hal
    have ha2 : le2 a = true := by rw [ha]; exact now_le2 hb2 (fun x hx => (hxi x hx).2) t (by omega)
    have hle : leL a n.stuck := by rw [ha]; exact now_stuck hnx begins (fun x hx => (hxi x hx).1) t (by omega)
    have hxt := hxi _ (List.getElem_mem ht)
    have hxg : (GSl.of xs).xs[t]? = some xs[t] := List.getElem?_eq_getElem ht
    have hix : indexAddrA (En pr) 43 ((GSl.of xs).av 1 rowAV) (.int .i64 (t : Int)) = some (.ip [rowAV xs[t]]) := by
      have e := indexAddrA_nat (E := En pr) (t := 43) (e := 34) (y := ty43) (ey := ty34) (sz := 1) (kd := .i64) (f := rowAV) rfl rfl rfl rfl hxg
      rw [(row_okc _).2] at e
      exact e
    have u48 : ∀ st, primOf Rel48 [netAV n, rowAV xs[t], (GSl.of a).av 1 bitAV] st = some (.tup [(GSl.of (n.outs.xs.map (fun p => ofL (allB n.gates.xs xs[t] a) p.lit))).av 1 bitAV, (GSl.of (litsB n.gates.xs xs[t] a n.nexts)).av 1 bitAV, .int .i64 0], st) := fun st => by
      have e := use48 h48 hn (ins := GSl.of xs[t]) (regs := GSl.of a) (by rw [show (GSl.of xs[t]).xs = xs[t] from rfl]; omega) (by omega) st
      rw [show (GSl.of xs[t]).xs = xs[t] from rfl, show (GSl.of a).xs = a from rfl, evalR_yes hV hxt.1 hxt.2 hal ha2] at e
      exact e
    have hz48 : ∀ st, freezeA st (.tup [(GSl.of (n.outs.xs.map (fun p => ofL (allB n.gates.xs xs[t] a) p.lit))).av 1 bitAV, (GSl.of (litsB n.gates.xs xs[t] a n.nexts)).av 1 bitAV, .int .i64 0]) = some (.tup [(GSl.of (n.outs.xs.map (fun p => ofL (allB n.gates.xs xs[t] a) p.lit))).av 1 bitAV, (GSl.of (litsB n.gates.xs xs[t] a n.nexts)).av 1 bitAV, .int .i64 0], st) := fun st => freeze_free (by simp only [AV.free, AV.freeL, free_av bit_free, Bool.and_true])
    dsimp only [RSt.at, List.cons_append, List.nil_append]
    repeat' (first | (refine OS.do rfl ?_; first | refine OD.indexAddr rfl rfl rfl hix ?_ | refine OD.auto rfl rfl ?_ | refine OD.len rfl rfl (fun _ => lenTy_av rfl rfl) ?_) | refine OS.nil ?_ | refine WS.seq ?_ | refine QS.seqN ?_ | refine WS.region ?_ | refine WS.block ?_)
    refine WS.range (A := Unit) (n := (GSl.of n.stuck).xs.length) ⟨60, _, fun _ => [], fun _ => [(b1, .row 4 [netAV n])], fun _ => [], fun _ _ => True⟩ (()) [3, 7, 10, 12, 52, 53, 54, 59] (by rfl) (by omega) (trivial) (by rfl) (by (try dsimp only); repeat' (first | exact Sub.nil _ | refine Sub.cons (congrArg (fun z => some (AV.int .i64 z)) (wrap_succ (by omega))) ?_ | refine Sub.cons rfl ?_)) (by (try dsimp only); repeat' (first | exact SubO.nil _ | exact SubO.refl _ | refine SubO.keep ?_ | refine SubO.drop ?_)) (by (try dsimp only); repeat' (first | exact SubK.nil _ | exact SubK.refl _ | refine SubK.keep (by simp) ?_ | refine SubK.new ?_ | refine SubK.drop ?_)) (by rfl) (by rfl) (by rfl) (by rfl) (by rfl) (by rfl) (fun _ _ => by rfl) (fun _ => by rfl) (fun _ _ => by rfl) (fun _ _ => by rfl) ?_ ?_
    · rintro i _ hi _
      try dsimp only at hi
      have hb := hle.2 i
      have g1 : n.stuck.getD i 0 = (GSl.of n.stuck).xs[i] := by
        rw [List.getD_eq_getElem?_getD, List.getElem?_eq_getElem (by omega)]; rfl
      have g2 : a.getD i 0 = (GSl.of a).xs[i]'(by omega) := by
        rw [List.getD_eq_getElem?_getD, List.getElem?_eq_getElem (by omega)]; rfl
      rw [g1, g2] at hb
      dsimp only [RSt.at, List.cons_append, List.nil_append]
      repeat' (first | (refine OS.do rfl ?_; first | refine OD.auto rfl rfl ?_ | refine OD.indexAddr rfl rfl rfl (indexAddrA_nat rfl rfl rfl rfl (by first | assumption | exact List.getElem?_eq_getElem (by omega))) ?_) | refine OS.nil ?_ | refine OS.skip rfl rfl rfl ?_ | refine WS.seq ?_ | refine QS.seqN ?_ | refine WS.region ?_ | refine WS.condF rfl ?_ | refine WS.skip ?_ | refine WS.ret ?_ | refine QS.seqR ?_ | refine WS.draw rfl rfl ?_ | refine QS.rangeR ?_ | refine WS.condNe rfl (fun _ => ?_) (fun _ => ?_) | ((fail_if_success (refine OS.do rfl ?_)); first | refine OS.splitNe rfl rfl rfl (fun _ => ?_) (fun _ => ?_)))
      · rename_i h1 h2
        rcases hb with hb | hb
        · exact (h2 (by rw [hb])).elim
        · exact (not_two h1 hb).elim
      · refine QS.rangeN (()) (by (try dsimp only) <;> exact (trivial)) (by (try dsimp only [RSt.at, List.cons_append, List.nil_append]); repeat' (first | exact Sub.nil _ | refine Sub.cons (congrArg (fun z => some (AV.int .i64 z)) (wrap_succ (by omega))) ?_ | refine Sub.cons rfl ?_)) (by (try dsimp only); repeat' (first | exact SubO.nil _ | exact SubO.refl _ | refine SubO.keep ?_ | refine SubO.drop ?_)) (by (try dsimp only); repeat' (first | exact SubK.nil _ | exact SubK.refl _ | refine SubK.keep (by simp) ?_ | refine SubK.new ?_ | refine SubK.drop ?_))
      · refine QS.rangeN (()) (by (try dsimp only) <;> exact (trivial)) (by (try dsimp only [RSt.at, List.cons_append, List.nil_append]); repeat' (first | exact Sub.nil _ | refine Sub.cons (congrArg (fun z => some (AV.int .i64 z)) (wrap_succ (by omega))) ?_ | refine Sub.cons rfl ?_)) (by (try dsimp only); repeat' (first | exact SubO.nil _ | exact SubO.refl _ | refine SubO.keep ?_ | refine SubO.drop ?_)) (by (try dsimp only); repeat' (first | exact SubK.nil _ | exact SubK.refl _ | refine SubK.keep (by simp) ?_ | refine SubK.new ?_ | refine SubK.drop ?_))
    · rintro _ _
      dsimp only [RSt.at, List.cons_append, List.nil_append]
      repeat' (first | (refine OS.do rfl ?_; first | refine OD.loadP 0 rfl rfl rfl rfl rfl rfl ?_ | refine OD.auto rfl rfl ?_ | refine OD.call rfl rfl rfl h48.eq u48 hz48 ?_) | refine OS.nil ?_ | refine QS.seqN ?_ | refine WS.region ?_)
      refine QS.rangeN (litsB n.gates.xs xs[t] a n.nexts) (by (try dsimp only) <;> exact (by rw [nowM_succ ht, ← ha])) (by (try dsimp only [RSt.at, List.cons_append, List.nil_append]); repeat' (first | exact Sub.nil _ | refine Sub.cons (congrArg (fun z => some (AV.int .i64 z)) (wrap_succ (by omega))) ?_ | refine Sub.cons rfl ?_)) (by (try dsimp only); repeat' (first | exact SubO.nil _ | exact SubO.refl _ | refine SubO.keep ?_ | refine SubO.drop ?_)) (by (try dsimp only); repeat' (first | exact SubK.nil _ | exact SubK.refl _ | refine SubK.keep (by simp) ?_ | refine SubK.new ?_ | refine SubK.drop ?_))
  · rintro a _
    dsimp only [RSt.at, List.cons_append, List.nil_append]
    repeat' (first | (refine OS.do rfl ?_; first | refine OD.auto rfl rfl ?_ | refine OD.call rfl rfl rfl h16.eq u16 (fun _ => rfl) ?_) | refine OS.nil ?_ | refine WS.seq ?_ | refine QS.seqN ?_ | refine WS.region ?_ | refine WS.ret ?_)
    exact QS.retR (by rfl) fun _ => rfl
end
end Go.OptEnv

/- Closed calls of awake, level 0. -/
namespace Go.OptEnv
open Go Go.Proofs Go.Abs Go.RowKit
set_option maxRecDepth 100000
def ra82_0 : List AV := [.int .i64 0]
def rr82_0 : AV := .agg [.int .u64 12297829382473034410, .int .u64 12297829382473034410, .int .u64 12297829382473034410, .int .u64 12297829382473034410]
theorem rk82_0 : runIs (En ap0) 10000 82 ra82_0 rr82_0 = true := by kernel_rfl
def ra82_1 : List AV := [.int .i64 1]
def rr82_1 : AV := .agg [.int .u64 14757395258967641292, .int .u64 14757395258967641292, .int .u64 14757395258967641292, .int .u64 14757395258967641292]
theorem rk82_1 : runIs (En ap0) 10000 82 ra82_1 rr82_1 = true := by kernel_rfl
def ra82_2 : List AV := [.int .i64 2]
def rr82_2 : AV := .agg [.int .u64 17361641481138401520, .int .u64 17361641481138401520, .int .u64 17361641481138401520, .int .u64 17361641481138401520]
theorem rk82_2 : runIs (En ap0) 10000 82 ra82_2 rr82_2 = true := by kernel_rfl
def tab82 : List (List AV × AV) := [(ra82_0, rr82_0), (ra82_1, rr82_1), (ra82_2, rr82_2)]
theorem tabok82 : TabOk (En ap0) 82 tab82 := (.cons 10000 rk82_0 (.cons 10000 rk82_1 (.cons 10000 rk82_2 .nil)))
def ra27_0 : List AV := [.agg [.vs 1 .any [.str ⟨#[97]⟩], .vs 3 .any [.agg [.str ⟨#[112]⟩, .int .u8 0, .int .i64 2], .agg [.str ⟨#[113]⟩, .int .u8 0, .int .i64 2]], .vs 2 .any [.agg [.int .i64 4, .int .i64 6]], .vs 2 .any [.agg [.str ⟨#[111]⟩, .int .i64 8]]]]
def rr27_0 : AV := .tup [.vs 1 .any [.int .i64 0, .int .i64 0], .int .i64 0]
theorem rk27_0 : runIs (En ap0) 10000 27 ra27_0 rr27_0 = true := by kernel_rfl
def ra27_1 : List AV := [.agg [.vs 1 .any [.str ⟨#[97]⟩], .vs 3 .any [.agg [.str ⟨#[112]⟩, .int .u8 0, .int .i64 2]], .nilsl, .vs 2 .any [.agg [.str ⟨#[111]⟩, .int .i64 4]]]]
def rr27_1 : AV := .tup [.vs 1 .any [.int .i64 0], .int .i64 0]
theorem rk27_1 : runIs (En ap0) 10000 27 ra27_1 rr27_1 = true := by kernel_rfl
def tab27 : List (List AV × AV) := [(ra27_0, rr27_0), (ra27_1, rr27_1)]
theorem tabok27 : TabOk (En ap0) 27 tab27 := (.cons 10000 rk27_0 (.cons 10000 rk27_1 .nil))
def ra22_0 : List AV := [.agg [.vs 1 .any [.str ⟨#[97]⟩], .vs 3 .any [.agg [.str ⟨#[112]⟩, .int .u8 0, .int .i64 6]], .vs 2 .any [.agg [.int .i64 2, .int .i64 4]], .vs 2 .any [.agg [.str ⟨#[111]⟩, .int .i64 4]]]]
def rr22_0 : AV := .tup [.vs 1 .any [.int .u8 0], .int .i64 0]
theorem rk22_0 : runIs (En ap0) 10000 22 ra22_0 rr22_0 = true := by kernel_rfl
def ra22_1 : List AV := [.agg [.vs 1 .any [.str ⟨#[97]⟩], .nilsl, .nilsl, .vs 2 .any [.agg [.str ⟨#[111]⟩, .int .i64 0]]]]
def rr22_1 : AV := .tup [.nilsl, .int .i64 0]
theorem rk22_1 : runIs (En ap0) 10000 22 ra22_1 rr22_1 = true := by kernel_rfl
def ra22_2 : List AV := [.agg [.vs 1 .any [.str ⟨#[97]⟩], .vs 3 .any [.agg [.str ⟨#[112]⟩, .int .u8 0, .int .i64 2], .agg [.str ⟨#[113]⟩, .int .u8 0, .int .i64 2]], .vs 2 .any [.agg [.int .i64 4, .int .i64 6]], .vs 2 .any [.agg [.str ⟨#[111]⟩, .int .i64 8]]]]
def rr22_2 : AV := .tup [.vs 1 .any [.int .u8 2, .int .u8 2], .int .i64 0]
theorem rk22_2 : runIs (En ap0) 10000 22 ra22_2 rr22_2 = true := by kernel_rfl
def ra22_3 : List AV := [.agg [.vs 1 .any [.str ⟨#[97]⟩], .vs 3 .any [.agg [.str ⟨#[112]⟩, .int .u8 0, .int .i64 2]], .nilsl, .vs 2 .any [.agg [.str ⟨#[111]⟩, .int .i64 4]]]]
def rr22_3 : AV := .tup [.vs 1 .any [.int .u8 2], .int .i64 0]
theorem rk22_3 : runIs (En ap0) 10000 22 ra22_3 rr22_3 = true := by kernel_rfl
def tab22 : List (List AV × AV) := [(ra22_0, rr22_0), (ra22_1, rr22_1), (ra22_2, rr22_2), (ra22_3, rr22_3)]
theorem tabok22 : TabOk (En ap0) 22 tab22 := (.cons 10000 rk22_0 (.cons 10000 rk22_1 (.cons 10000 rk22_2 (.cons 10000 rk22_3 .nil))))
def ra50_0 : List AV := [.agg [.vs 1 .any [.str ⟨#[97]⟩], .vs 3 .any [.agg [.str ⟨#[112]⟩, .int .u8 0, .int .i64 6]], .vs 2 .any [.agg [.int .i64 2, .int .i64 4]], .vs 2 .any [.agg [.str ⟨#[111]⟩, .int .i64 4]]]]
def rr50_0 : AV := .tup [.agg [.vs 1 .any [.str ⟨#[97]⟩], .vs 3 .any [.agg [.str ⟨#[112]⟩, .int .u8 0, .int .i64 6]], .vs 2 .any [.agg [.int .i64 2, .int .i64 4]], .vs 2 .any [.agg [.str ⟨#[111]⟩, .int .i64 4]]], .int .i64 0]
theorem rk50_0 : runIs (En ap0) 10000 50 ra50_0 rr50_0 = true := by kernel_rfl
def ra50_1 : List AV := [.agg [.vs 1 .any [.str ⟨#[]⟩], .nilsl, .nilsl, .nilsl]]
def rr50_1 : AV := .tup [.agg [.nilsl, .nilsl, .nilsl, .nilsl], .int .i64 2]
theorem rk50_1 : runIs (En ap0) 10000 50 ra50_1 rr50_1 = true := by kernel_rfl
def ra50_2 : List AV := [.agg [.vs 1 .any [.str ⟨#[97]⟩], .vs 3 .any [.agg [.str ⟨#[112]⟩, .int .u8 0, .int .i64 2], .agg [.str ⟨#[113]⟩, .int .u8 0, .int .i64 2]], .vs 2 .any [.agg [.int .i64 4, .int .i64 6]], .vs 2 .any [.agg [.str ⟨#[111]⟩, .int .i64 8]]]]
def rr50_2 : AV := .tup [.agg [.vs 1 .any [.str ⟨#[97]⟩], .vs 3 .any [.agg [.str ⟨#[112]⟩, .int .u8 0, .int .i64 2], .agg [.str ⟨#[113]⟩, .int .u8 0, .int .i64 2]], .vs 2 .any [.agg [.int .i64 4, .int .i64 6]], .vs 2 .any [.agg [.str ⟨#[111]⟩, .int .i64 8]]], .int .i64 0]
theorem rk50_2 : runIs (En ap0) 10000 50 ra50_2 rr50_2 = true := by kernel_rfl
def ra50_3 : List AV := [.agg [.vs 1 .any [.str ⟨#[97]⟩], .vs 3 .any [.agg [.str ⟨#[112]⟩, .int .u8 0, .int .i64 2]], .nilsl, .vs 2 .any [.agg [.str ⟨#[111]⟩, .int .i64 4]]]]
def rr50_3 : AV := .tup [.agg [.vs 1 .any [.str ⟨#[97]⟩], .vs 3 .any [.agg [.str ⟨#[112]⟩, .int .u8 0, .int .i64 2]], .nilsl, .vs 2 .any [.agg [.str ⟨#[111]⟩, .int .i64 4]]], .int .i64 0]
theorem rk50_3 : runIs (En ap0) 10000 50 ra50_3 rr50_3 = true := by kernel_rfl
def tab50 : List (List AV × AV) := [(ra50_0, rr50_0), (ra50_1, rr50_1), (ra50_2, rr50_2), (ra50_3, rr50_3)]
theorem tabok50 : TabOk (En ap0) 50 tab50 := (.cons 10000 rk50_0 (.cons 10000 rk50_1 (.cons 10000 rk50_2 (.cons 10000 rk50_3 .nil))))
def ra51_0 : List AV := [.agg [.vs 1 .any [.str ⟨#[97]⟩], .vs 3 .any [.agg [.str ⟨#[112]⟩, .int .u8 0, .int .i64 2]], .nilsl, .vs 2 .any [.agg [.str ⟨#[111]⟩, .int .i64 4]]]]
def rr51_0 : AV := .tup [.agg [.vs 1 .any [.str ⟨#[97]⟩], .vs 3 .any [.agg [.str ⟨#[112]⟩, .int .u8 0, .int .i64 2]], .nilsl, .vs 2 .any [.agg [.str ⟨#[111]⟩, .int .i64 4]]], .int .i64 0]
theorem rk51_0 : runIs (En ap0) 10000 51 ra51_0 rr51_0 = true := by kernel_rfl
def ra51_1 : List AV := [.agg [.vs 1 .any [.str ⟨#[97]⟩], .vs 3 .any [.agg [.str ⟨#[112]⟩, .int .u8 0, .int .i64 6]], .vs 2 .any [.agg [.int .i64 2, .int .i64 4]], .vs 2 .any [.agg [.str ⟨#[111]⟩, .int .i64 4]]]]
def rr51_1 : AV := .tup [.agg [.vs 1 .any [.str ⟨#[97]⟩], .vs 3 .any [.agg [.str ⟨#[112]⟩, .int .u8 0, .int .i64 6]], .vs 2 .any [.agg [.int .i64 2, .int .i64 4]], .vs 2 .any [.agg [.str ⟨#[111]⟩, .int .i64 4]]], .int .i64 0]
theorem rk51_1 : runIs (En ap0) 10000 51 ra51_1 rr51_1 = true := by kernel_rfl
def ra51_2 : List AV := [.agg [.vs 1 .any [.str ⟨#[97]⟩], .nilsl, .nilsl, .vs 2 .any [.agg [.str ⟨#[111]⟩, .int .i64 0]]]]
def rr51_2 : AV := .tup [.agg [.vs 1 .any [.str ⟨#[97]⟩], .nilsl, .nilsl, .vs 2 .any [.agg [.str ⟨#[111]⟩, .int .i64 0]]], .int .i64 0]
theorem rk51_2 : runIs (En ap0) 10000 51 ra51_2 rr51_2 = true := by kernel_rfl
def ra51_3 : List AV := [.agg [.vs 1 .any [.str ⟨#[97]⟩], .vs 3 .any [.agg [.str ⟨#[112]⟩, .int .u8 0, .int .i64 2], .agg [.str ⟨#[113]⟩, .int .u8 0, .int .i64 2]], .vs 2 .any [.agg [.int .i64 4, .int .i64 6]], .vs 2 .any [.agg [.str ⟨#[111]⟩, .int .i64 8]]]]
def rr51_3 : AV := .tup [.agg [.vs 1 .any [.str ⟨#[97]⟩], .vs 3 .any [.agg [.str ⟨#[112]⟩, .int .u8 0, .int .i64 2], .agg [.str ⟨#[113]⟩, .int .u8 0, .int .i64 2]], .vs 2 .any [.agg [.int .i64 4, .int .i64 6]], .vs 2 .any [.agg [.str ⟨#[111]⟩, .int .i64 8]]], .int .i64 0]
theorem rk51_3 : runIs (En ap0) 10000 51 ra51_3 rr51_3 = true := by kernel_rfl
def tab51 : List (List AV × AV) := [(ra51_0, rr51_0), (ra51_1, rr51_1), (ra51_2, rr51_2), (ra51_3, rr51_3)]
theorem tabok51 : TabOk (En ap0) 51 tab51 := (.cons 10000 rk51_0 (.cons 10000 rk51_1 (.cons 10000 rk51_2 (.cons 10000 rk51_3 .nil))))
def ap1 : Prims := (addP (addP (addP (addP (addP ap0 82 (tabPrim tab82)) 27 (tabPrim tab27)) 22 (tabPrim tab22)) 50 (tabPrim tab50)) 51 (tabPrim tab51))
theorem good1 : Good ap1 := (Good.addT (Good.addT (Good.addT (Good.addT (Good.addT good0 (tabok82.does (En_ok _) good0.ok (hent Tryz.func82))) (tabok27.does (En_ok _) good0.ok (hent Tryz.func27))) (tabok22.does (En_ok _) good0.ok (hent Tryz.func22))) (tabok50.does (En_ok _) good0.ok (hent Tryz.func50))) (tabok51.does (En_ok _) good0.ok (hent Tryz.func51)))
end Go.OptEnv
