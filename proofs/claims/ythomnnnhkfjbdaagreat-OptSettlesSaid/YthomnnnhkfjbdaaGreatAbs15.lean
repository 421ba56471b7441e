/- Own text of this claim: part 15 of an interpreter that is proved sound against the model, and of what it shows of the law. -/
import Derived.Test.YthomnnnhkfjbdaaGreatAbs14
import Derived.Test.YthomnnnhkfjbdaaGreatAbs9
import Derived.Test.YthomnnnhkfjbdaaGreatAbs10
import Derived.Test.YthomnnnhkfjbdaaGreatAbs13
namespace Go.OptEnv
open Go Go.Proofs Go.Abs Go.RowKit Go.NetM
set_option maxRecDepth 10000
attribute [local irreducible] WS QS OS OD Abs.Sub SubO SubK CW GSl.av accA growA
section
variable {pr : Prims}
set_option maxHeartbeats 1000000 in
theorem run59o (h1 : pr 59 = none) (h109 : pr 109 = none) (h57 : Has pr 57 Rel57) (h131 : Has pr 131 Rel131) (h110 : Has pr 110 Rel110) (h132 : pr 132 = some (tabPrim tab132)) (n : GNet) (hn : FitsN n) (ins : GSl UInt8) (regs : List UInt8) (hi : ins.xs.length ≤ 100000000000) (hr : regs.length ≤ 100000000000) {L : List (Nat × AObj)} {RA : AV} (hRA : BArg L RA regs) {st : St} (hS : SFa L [] st) :
    CW (En pr) 59 [netAV n, ins.av 1 bitAV, RA] st fun r st' => ((evalR n ins.xs regs = none ∧ r = .tup [.nilsl, .nilsl, .int .i64 2]) ∨ ∃ o x t u, evalR n ins.xs regs = some (o, x) ∧ r = .tup [accA t 1 (o.map bitAV), accA u 1 (x.map bitAV), .int .i64 0]) ∧ SFa L [] st' := by
  have hn' := hn
  obtain ⟨f1, f2, f3, f4, _, _, _, _, _, _⟩ := hn'
  have u1 := fun (p : Nat × AObj) (st : St) (hs : SFa (p :: L) [] st) => run109o h109 h57 h131 h110 h132 n hn ins regs hi hr (hRA.up (p := p)) hs
  unfold evalR
  cases hx : allR n ins.xs regs with
  | none =>
    have c1 : ∀ (p : Nat × AObj) (st : St), SFa (p :: L) [] st → CW (En pr) 109 [netAV n, ins.av 1 bitAV, RA] st fun x st' => x = .tup [.nilsl, .int .i64 2] ∧ SFa (p :: L) [] st' := fun p st hs => (u1 p st hs).mono fun x st' h => And.intro (by
      rcases h.1 with ⟨_, h⟩ | ⟨v, b, t, h, _⟩
      · exact h
      · exact absurd (hx.symm.trans h) (by simp)) h.2
    refine CW.startS (N := 56) h1 rfl rfl hS ?_
    repeat' (first | (refine OS.do rfl ?_; first | refine OD.box rfl rfl rfl rfl (net_ok _) rfl (fun b1 => ?_) | refine OD.loadP 0 rfl rfl rfl rfl rfl rfl ?_ | refine OD.auto rfl rfl ?_ | refine OD.callS rfl rfl rfl (c1 _) (fun _ => rfl) ?_) | refine OS.nil ?_ | refine WS.seq ?_ | refine QS.seqN ?_ | refine WS.region ?_ | refine WS.condT rfl ?_ | refine WS.ret ?_ | refine QS.seqR ?_)
    refine QS.retRS (by rfl) fun _ hS => ⟨.inl ⟨rfl, rfl⟩, hS.tail⟩
  | some v =>
    rw [hx] at u1
    obtain ⟨hv, _, _, _, _, _, hv2, hvl⟩ := allR_spec hx
    have hgn := hv.gatesN
    have hvb : v.length ≤ 300000 := by
      have := names_len hv.ins
      have := names_len hv.regs
      simp only [List.length_map, GNet.nodes, GNet.first] at *
      omega
    have hol : n.outs.xs.length ≤ 500 := by have := names_len hv.outs; simpa using this
    have hrl : n.regs.xs.length ≤ 500 := by have := names_len hv.regs; simpa using this
    have c1 : ∀ (p : Nat × AObj) (st : St), SFa (p :: L) [] st → CW (En pr) 109 [netAV n, ins.av 1 bitAV, RA] st fun x st' => (∃ b t, x = .tup [growA b t 1 (v.map bitAV), .int .i64 0]) ∧ SFa (p :: L) [] st' := fun p st hs => (u1 p st hs).mono fun x st' h => And.intro (by
      rcases h.1 with ⟨h, _⟩ | ⟨v', b, t, h, h'⟩
      · exact absurd h (by simp)
      · rw [Option.some.injEq] at h; subst h; exact ⟨b, t, h'⟩) h.2
    have hz1 : ∀ (y : AV) (st : St), (∃ b t, y = .tup [growA b t 1 (v.map bitAV), .int .i64 0]) → freezeA st y = some (y, st) := by
      rintro y st ⟨b, t, rfl⟩
      exact freeze_free (by simp only [AV.free, AV.freeL, free_grow bit_free, Bool.and_true])
    refine CW.startS (N := 56) h1 rfl rfl hS ?_
    repeat' (first | (refine OS.do rfl ?_; first | refine OD.box rfl rfl rfl rfl (net_ok _) rfl (fun b1 => ?_) | refine OD.loadP 0 rfl rfl rfl rfl rfl rfl ?_ | refine OD.auto rfl rfl ?_ | refine OD.len rfl rfl (fun _ => lenTy_av rfl rfl) ?_ | (refine OD.callP (fun x => ∃ b t, x = .tup [growA b t 1 (v.map bitAV), .int .i64 0]) rfl rfl rfl (c1 _) hz1 ?_; rintro y ⟨gb, gt, rfl⟩)) | refine OS.nil ?_ | refine WS.seq ?_ | refine QS.seqN ?_ | refine WS.region ?_ | refine WS.condF rfl ?_ | refine WS.skip ?_ | refine WS.block ?_)
    refine WS.rangeX (A := Nat × List UInt8) (n := n.outs.xs.length) ⟨27, _, fun a => [(6, accA a.1 1 (a.2.map bitAV))], fun _ => (b1, .row 4 [netAV n]) :: L, fun a => [(a.1, !(a.2.map bitAV).isEmpty)], fun i a => a.2 = (n.outs.xs.take i).map (fun p => ofL v p.lit)⟩ ((0, [])) [3, 7, 9, 25, 26] (by simp) ?_ ?_ (hm := by (try dsimp only); repeat' (first | exact Sub.nil _ | refine Sub.cons (congrArg some (accA_nil _ _).symm) ?_ | refine Sub.cons (congrArg (fun z => some (AV.int .i64 z)) (wrap_succ (by omega))) ?_ | refine Sub.cons rfl ?_))
    · rintro i ⟨tk, a⟩ hi ha
      try dsimp only at ha
      have hal : a.length ≤ 500 := by rw [ha]; simp only [List.length_map, List.length_take]; omega
      have hl := lit_of (all_get hv.lits hi)
      have c1 := use110g h110 (k := n.outs.xs[i].lit) (v := v) (b := gb) (t := gt) ⟨hl.1, by omega⟩ (by omega) hv2
      dsimp only [RSt.at, List.cons_append, List.nil_append]
      repeat' (first | (refine OS.do rfl ?_; first | refine OD.loadP 0 rfl rfl rfl rfl rfl rfl ?_ | refine OD.auto rfl rfl ?_ | refine OD.indexAddr rfl rfl rfl (indexAddrA_nat rfl rfl rfl rfl (by first | assumption | exact List.getElem?_eq_getElem (by omega))) ?_ | refine OD.alloc rfl rfl rfl rfl (fun _ => ?_) | refine OD.storeW 0 rfl rfl rfl rfl (by first | rfl | exact net_ok _) rfl rfl rfl ?_ | refine OD.call rfl rfl rfl h110.eq c1 (fun _ => rfl) ?_ | refine OD.append 0 rfl rfl rfl rfl rfl rfl rfl rfl rfl rfl rfl (.inr ⟨⟨_, rfl⟩, rfl⟩) (fun _ => rfl) rfl rfl (roomB rfl (by simp only [List.length_map, List.length_append, List.length_take, List.length_cons, List.length_nil]; omega)) (fun tk' => ?_)) | refine OS.nil ?_ | refine WS.seq ?_ | refine QS.seqN ?_ | refine WS.region ?_)
      exact QS.rangeX ((tk', a ++ [ofL v n.outs.xs[i].lit])) (by (try dsimp only) <;> exact (by rw [map_take_succ hi, ha])) (hl := by (try dsimp only [RSt.at, List.cons_append, List.nil_append]); repeat' (first | exact Sub.nil _ | refine Sub.cons (by rw [List.map_append]; rfl) ?_ | refine Sub.cons (congrArg (fun z => some (AV.int .i64 z)) (wrap_succ (by omega))) ?_ | refine Sub.cons rfl ?_))
    rintro ⟨tk, a⟩ ha
    try dsimp only at ha
    rw [List.take_of_length_le (Nat.le_refl _)] at ha
    dsimp only [RSt.at, List.cons_append, List.nil_append]
    repeat' (first | (refine OS.do rfl ?_; first | refine OD.loadP 0 rfl rfl rfl rfl rfl rfl ?_ | refine OD.auto rfl rfl ?_ | refine OD.len rfl rfl (fun _ => lenTy_av rfl rfl) ?_) | refine OS.nil ?_ | refine WS.seq ?_ | refine QS.seqN ?_ | refine WS.region ?_ | refine WS.block ?_)
    refine WS.rangeX (A := Nat × List UInt8) (n := n.regs.xs.length) ⟨42, _, fun a => [(7, accA a.1 1 (a.2.map bitAV))], fun _ => (b1, .row 4 [netAV n]) :: L, fun a => [(a.1, !(a.2.map bitAV).isEmpty)], fun i a => a.2 = (n.regs.xs.take i).map (fun p => ofL v p.next)⟩ ((0, [])) [6, 9, 40, 41] (by simp) ?_ ?_ (hm := by (try dsimp only); repeat' (first | exact Sub.nil _ | refine Sub.cons (congrArg some (accA_nil _ _).symm) ?_ | refine Sub.cons (congrArg (fun z => some (AV.int .i64 z)) (wrap_succ (by omega))) ?_ | refine Sub.cons rfl ?_))
    · rintro i ⟨tk2, c⟩ hi hc
      try dsimp only at hc
      have hcl : c.length ≤ 500 := by rw [hc]; simp only [List.length_map, List.length_take]; omega
      have hl := lit_of (all_get hv.nexts hi)
      have c1 := use110g h110 (k := n.regs.xs[i].next) (v := v) (b := gb) (t := gt) ⟨hl.1, by omega⟩ (by omega) hv2
      dsimp only [RSt.at, List.cons_append, List.nil_append]
      repeat' (first | (refine OS.do rfl ?_; first | refine OD.loadP 0 rfl rfl rfl rfl rfl rfl ?_ | refine OD.auto rfl rfl ?_ | refine OD.indexAddr rfl rfl rfl (indexAddrA_nat rfl rfl rfl rfl (by first | assumption | exact List.getElem?_eq_getElem (by omega))) ?_ | refine OD.alloc rfl rfl rfl rfl (fun _ => ?_) | refine OD.storeW 0 rfl rfl rfl rfl (by first | rfl | exact net_ok _) rfl rfl rfl ?_ | refine OD.call rfl rfl rfl h110.eq c1 (fun _ => rfl) ?_ | refine OD.append 0 rfl rfl rfl rfl rfl rfl rfl rfl rfl rfl rfl (.inr ⟨⟨_, rfl⟩, rfl⟩) (fun _ => rfl) rfl rfl (roomB rfl (by simp only [List.length_map, List.length_append, List.length_take, List.length_cons, List.length_nil]; omega)) (fun tk' => ?_)) | refine OS.nil ?_ | refine WS.seq ?_ | refine QS.seqN ?_ | refine WS.region ?_)
      exact QS.rangeX ((tk', c ++ [ofL v n.regs.xs[i].next])) (by (try dsimp only) <;> exact (by rw [map_take_succ hi, hc])) (hl := by (try dsimp only [RSt.at, List.cons_append, List.nil_append]); repeat' (first | exact Sub.nil _ | refine Sub.cons (by rw [List.map_append]; rfl) ?_ | refine Sub.cons (congrArg (fun z => some (AV.int .i64 z)) (wrap_succ (by omega))) ?_ | refine Sub.cons rfl ?_))
    rintro ⟨tk2, c⟩ hc
    try dsimp only at hc
    rw [List.take_of_length_le (Nat.le_refl _)] at hc
    dsimp only [RSt.at, List.cons_append, List.nil_append]
    repeat' (first | (refine OS.do rfl ?_; first | refine OD.auto rfl rfl ?_) | refine OS.nil ?_ | refine WS.seq ?_ | refine QS.seqN ?_ | refine WS.region ?_ | refine WS.ret ?_)
    refine QS.retRS (by rfl) fun _ hS => ⟨.inr ⟨a, c, tk, tk2, ?_, rfl⟩, hS.tail.noK⟩
    rw [ha, hc]; rfl
end
end Go.OptEnv

namespace Go.OptEnv
open Go Go.Proofs Go.Abs Go.RowKit Go.NetM
set_option maxRecDepth 100000
def row58 (c : Nat) : List AV × AV := ([.vs 1 .any [.int .u8 2], .int .i64 (c : Int)], .vs 1 .any (List.replicate c (.int .u8 2)))
def tab58 : List (List AV × AV) := (List.range 121).map row58
noncomputable def runs58 (a b : Nat) : Bool := (List.range' a b).all fun c => runIs (En ap0) 2000 58 (row58 c).1 (row58 c).2
theorem runs58_a : runs58 0 31 = true := by kernel_rfl
theorem runs58_b : runs58 31 30 = true := by kernel_rfl
theorem runs58_c : runs58 61 30 = true := by kernel_rfl
theorem runs58_d : runs58 91 30 = true := by kernel_rfl
theorem runs58_at {a b c : Nat} (h : runs58 a b = true) (h1 : a ≤ c) (h2 : c < a + b) : runIs (En ap0) 2000 58 (row58 c).1 (row58 c).2 = true := by
  refine List.all_eq_true.1 h c ?_
  rw [List.mem_range'_1]; omega
theorem tabok58 : TabOk (En ap0) 58 tab58 := by
  intro e he
  obtain ⟨c, hc, rfl⟩ := List.mem_map.1 he
  have hc : c < 121 := List.mem_range.1 hc
  refine ⟨2000, ?_⟩
  by_cases h1 : c < 31
  · exact runs58_at runs58_a (by omega) (by omega)
  · by_cases h2 : c < 61
    · exact runs58_at runs58_b (by omega) (by omega)
    · by_cases h3 : c < 91
      · exact runs58_at runs58_c (by omega) (by omega)
      · exact runs58_at runs58_d (by omega) (by omega)
def find58 (c : Nat) : Bool := match tabFind tab58 (row58 c).1 with | some r => AV.beq r (row58 c).2 | none => false
theorem found58 : ((List.range 121).all find58) = true := by kernel_rfl
theorem use58 {c : Nat} (h : c ≤ 120) (st : St) : tabPrim tab58 [.vs 1 .full [.int .u8 2], .int .i64 (c : Int)] st = some ((GSl.some (List.replicate c 2)).av 1 bitAV, st) := by
  have h1 := List.all_eq_true.1 found58 c (List.mem_range.2 (by omega))
  have e : (GSl.some (List.replicate c (2 : UInt8))).av 1 bitAV = (row58 c).2 := by
    show AV.vs 1 .any ((List.replicate c (2 : UInt8)).map bitAV) = AV.vs 1 .any _
    rw [List.map_replicate]; rfl
  rw [e]
  have e2 : tabPrim tab58 [.vs 1 .full [.int .u8 2], .int .i64 (c : Int)] st = (match tabFind tab58 (row58 c).1 with | some r => some (r, st) | none => none) := rfl
  rw [e2]
  unfold find58 at h1
  split at h1
  · rename_i r hr
    rw [AV.eq_of_beq _ _ h1]
  · cases h1
end Go.OptEnv

namespace Go.OptEnv
open Go Go.Proofs Go.Abs Go.RowKit Go.NetM
set_option maxRecDepth 10000
theorem le2_zip {S L : List UInt8} (h : le2 S = true) : le2 (List.zipWith downB S L) = true := by
  induction S generalizing L with
  | nil => rfl
  | cons s S ih =>
    cases L with
    | nil => rfl
    | cons b L =>
      simp only [le2, List.all_cons, Bool.and_eq_true, decide_eq_true_eq] at h
      simp only [List.zipWith_cons_cons, le2, List.all_cons, Bool.and_eq_true, decide_eq_true_eq]
      refine ⟨?_, ih h.2⟩
      unfold downB
      split
      · decide
      · exact h.1
theorem sink_of_fix {gs : List (Int × Int)} {nins : Nat} {next : List Int} {S : List UInt8} (h : downM gs nins next S = S) : ∀ m, sinkM gs nins next m S = S
  | 0 => rfl
  | m + 1 => by simp only [sinkM, if_pos h]
theorem sink_step {gs : List (Int × Int)} {nins : Nat} {next : List Int} {S : List UInt8} {m : Nat} (hl : S.length = next.length) (hk : knownN S ≤ m) (h : downM gs nins next S ≠ S) :
    ∃ m', knownN (downM gs nins next S) ≤ m' ∧ knownN (downM gs nins next S) < knownN S ∧ sinkM gs nins next m S = sinkM gs nins next m' (downM gs nins next S) := by
  have h1 := (knownN_zip S (litsB gs (List.replicate nins 2) S next) (by rw [litsB_len, hl])).2 h
  have h1 : knownN (downM gs nins next S) < knownN S := h1
  cases m with
  | zero => omega
  | succ m => exact ⟨m, by omega, h1, by simp only [sinkM, if_neg h]⟩
def partM (S X : List UInt8) (i : Nat) : List UInt8 := List.zipWith downB (S.take i) (X.take i) ++ S.drop i
theorem part_len {S X : List UInt8} {i : Nat} (h : X.length = S.length) (hi : i ≤ S.length) : (partM S X i).length = S.length := by
  simp only [partM, List.length_append, List.length_zipWith, List.length_take, List.length_drop]
  omega
theorem part_get {S X : List UInt8} {i : Nat} (h : X.length = S.length) (hi : i < S.length) : (partM S X i)[i]? = some S[i] := by
  have hz : (List.zipWith downB (S.take i) (X.take i)).length = i := by
    simp only [List.length_zipWith, List.length_take]; omega
  unfold partM
  rw [List.getElem?_append_right (by omega), hz, Nat.sub_self, List.getElem?_drop, Nat.add_zero, List.getElem?_eq_getElem hi]
theorem part_succ {S X : List UInt8} {i : Nat} (h : X.length = S.length) (hi : i < S.length) : partM S X (i + 1) = (partM S X i).set i (downB S[i] (X[i]'(by omega))) := by
  have hz : (List.zipWith downB (S.take i) (X.take i)).length = i := by
    simp only [List.length_zipWith, List.length_take]; omega
  unfold partM
  rw [List.take_succ_eq_append_getElem hi, List.take_succ_eq_append_getElem (l := X) (by omega), List.zipWith_append (by simp only [List.length_take]; omega), List.set_append_right _ _ (by rw [hz]; exact Nat.le_refl _), hz, Nat.sub_self, List.drop_eq_getElem_cons hi]
  simp only [List.zipWith_cons_cons, List.zipWith_nil_left, List.append_assoc, List.cons_append, List.nil_append, List.set_cons_zero]
theorem part_zero {S X : List UInt8} : partM S X 0 = S := by simp [partM]
theorem part_all {S X : List UInt8} (h : X.length = S.length) : partM S X S.length = List.zipWith downB S X := by
  unfold partM
  rw [List.take_of_length_le (Nat.le_refl _), List.take_of_length_le (by omega), List.drop_eq_nil_of_le (Nat.le_refl _), List.append_nil]
theorem part_same {S X : List UInt8} {i : Nat} (h : X.length = S.length) (hi : i < S.length) (hs : S[i] = 2 ∨ S[i] = X[i]'(by omega)) : partM S X (i + 1) = partM S X i := by
  rw [part_succ h hi]
  have : downB S[i] (X[i]'(by omega)) = S[i] := by
    unfold downB
    rw [if_neg (by rintro ⟨h1, h2⟩; rcases hs with h | h; exact h1 h; exact h2 h)]
  rw [this]
  exact set_same (part_get h hi)
theorem part_down {S X : List UInt8} {i : Nat} (h : X.length = S.length) (hi : i < S.length) (h1 : S[i] ≠ 2) (h2 : S[i] ≠ X[i]'(by omega)) : partM S X (i + 1) = (partM S X i).set i 2 ∧ partM S X (i + 1) ≠ S := by
  have e : downB S[i] (X[i]'(by omega)) = 2 := by
    unfold downB
    rw [if_pos ⟨h1, h2⟩]
  have e1 := part_succ h hi
  rw [e] at e1
  refine ⟨e1, fun hc => ?_⟩
  have : (partM S X (i + 1))[i]? = some 2 := by
    rw [e1, List.getElem?_set, if_pos rfl, if_pos (by rw [part_len h (by omega)]; exact hi)]
  rw [hc, List.getElem?_eq_getElem hi] at this
  exact h1 (Option.some.inj this)
theorem u8_ne {a b : UInt8} (h : (a.toNat : Int) ≠ b.toNat) : a ≠ b := fun e => h (by rw [e])
theorem u8_eq {a b : UInt8} (h : (a.toNat : Int) = b.toNat) : a = b := UInt8.toNat_inj.1 (by omega)
theorem freeze_two {st : St} {sz b n : Nat} {xs : List AV} {k : IntKind} {i : Int} (hg : st.get b = some (.row sz xs)) (hn : xs.length = n) : ∃ tk st', freezeA st (.tup [.sl sz b 0 n, .int k i]) = some (.tup [.vs sz (.tok tk) xs, .int k i], st') := by
  refine ⟨st.next, (st.drop b).newTok, ?_⟩
  have e : freezeC st (.sl sz b 0 n) = some (.vs sz (.tok st.next) xs, (st.drop b).newTok) := by
    simp only [freezeC, hg]
    rw [if_pos ⟨trivial, by omega⟩, if_pos (by omega)]
    simp [← hn]
  simp only [freezeA, freezeM, freezeB, e]
  rfl
def slP (b : Nat) (xs : List UInt8) : AV := match xs with | [] => .nilsl | _ :: _ => .sl 1 b 0 xs.length
def obP (b : Nat) (xs : List UInt8) : List (Nat × AObj) := match xs with | [] => [] | _ :: _ => [(b, .row 1 (xs.map bitAV))]
def GNet.stuck (n : GNet) : List UInt8 := stuckM n.gates.xs n.ins.xs.length n.nexts n.inits
def stuckAV (n : GNet) : AV := if validM n = true then .tup [(GSl.of n.stuck).av 1 bitAV, .int .i64 0] else .tup [.nilsl, .int .i64 2]
def Rel22 : Rel := RelF (fun n : GNet => FitsN n ∧ n.ins.xs.length ≤ 120) (fun n => [netAV n]) stuckAV
attribute [local irreducible] WS QS OS OD Abs.Sub SubO SubK CW GSl.av accA growA
section
variable {pr : Prims}
set_option maxHeartbeats 2000000 in
theorem run22 (h1 : pr 22 = none) (h58 : pr 58 = some (tabPrim tab58)) (h59 : pr 59 = none) (h109 : pr 109 = none) (h57 : Has pr 57 Rel57) (h131 : Has pr 131 Rel131) (h110 : Has pr 110 Rel110) (h132 : pr 132 = some (tabPrim tab132)) (n : GNet) (hn : FitsN n) (hi : n.ins.xs.length ≤ 120) (st : St) :
    CW (En pr) 22 [netAV n] st fun r st' => ∃ r' st2, freezeA st' r = some (r', st2) ∧ AV.plain r' = stuckAV n ∧ AV.free r' = true := by
  have hn' := hn
  obtain ⟨f1, f2, f3, f4, _, _, _, _, _, _⟩ := hn'
  have u1 := use57 h57 hn
  refine CW.start (N := 72) h1 rfl rfl ?_
  repeat' (first | (refine OS.do rfl ?_; first | refine OD.box rfl rfl rfl rfl (net_ok _) rfl (fun b1 => ?_) | refine OD.loadP 0 rfl rfl rfl rfl rfl rfl ?_ | refine OD.auto rfl rfl ?_ | refine OD.len rfl rfl (fun _ => lenTy_av rfl rfl) ?_ | refine OD.call rfl rfl rfl h57.eq u1 (fun _ => rfl) ?_ | refine OD.call rfl rfl rfl h58 (use58 hi) (fun _ => by unfold GSl.av; rfl) ?_) | refine OS.nil ?_ | refine WS.seq ?_ | refine QS.seqN ?_ | refine WS.region ?_ | refine WS.skip ?_ | refine WS.block ?_ | refine WS.ret ?_ | refine QS.seqR ?_ | refine WS.condN rfl (fun _ => ?_) (fun _ => ?_))
  · rename_i hv
    exact QS.retR (by rfl) fun st => ⟨_, st, rfl, by unfold stuckAV; rw [if_neg (by rw [hv]; simp)]; rfl, rfl⟩
  rename_i hV
  have v := validM_iff.1 hV
  have hrl : n.regs.xs.length ≤ 500 := by have := names_len v.regs; simpa using this
  refine WS.rangeX (A := Nat × List UInt8) (n := n.regs.xs.length) ⟨25, _, fun a => [(5, slP a.1 a.2)], fun a => obP a.1 a.2 ++ [(b1, .row 4 [netAV n])], fun _ => [], fun i a => a.2 = (n.regs.xs.take i).map (·.init)⟩ ((0, [])) [1, 4, 23, 24] (by simp) ?_ ?_
  · rintro i ⟨b5, a⟩ hi ha
    try dsimp only at ha
    have hal : a.length ≤ 500 := by rw [ha]; simp only [List.length_map, List.length_take]; omega
    have ht : (n.regs.xs.take (i + 1)).map (·.init) = a ++ [n.regs.xs[i].init] := by rw [map_take_succ hi, ha]
    cases a with
    | nil =>
      dsimp only [slP, obP]
      dsimp only [RSt.at, List.cons_append, List.nil_append]
      repeat' (first | (refine OS.do rfl ?_; first | refine OD.loadP 0 rfl rfl rfl rfl rfl rfl ?_ | refine OD.auto rfl rfl ?_ | refine OD.indexAddr rfl rfl rfl (indexAddrA_nat rfl rfl rfl rfl (by first | assumption | exact List.getElem?_eq_getElem (by omega))) ?_ | refine OD.alloc rfl rfl rfl rfl (fun _ => ?_) | refine OD.storeW 0 rfl rfl rfl rfl (by first | rfl | exact net_ok _) rfl rfl rfl ?_ | refine OD.appendNilO rfl rfl rfl rfl rfl rfl rfl rfl rfl (.inr ⟨⟨_, rfl⟩, rfl⟩) (fun _ => rfl) rfl rfl (by simp) (roomB rfl (by simp)) (fun b' => ?_)) | refine OS.nil ?_ | refine WS.seq ?_ | refine QS.seqN ?_ | refine WS.region ?_)
      exact QS.rangeX ((b', [n.regs.xs[i].init])) (by (try dsimp only) <;> exact (ht.symm))
    | cons x a =>
      dsimp only [slP, obP]
      dsimp only [RSt.at, List.cons_append, List.nil_append]
      repeat' (first | (refine OS.do rfl ?_; first | refine OD.loadP 0 rfl rfl rfl rfl rfl rfl ?_ | refine OD.auto rfl rfl ?_ | refine OD.indexAddr rfl rfl rfl (indexAddrA_nat rfl rfl rfl rfl (by first | assumption | exact List.getElem?_eq_getElem (by omega))) ?_ | refine OD.alloc rfl rfl rfl rfl (fun _ => ?_) | refine OD.storeW 0 rfl rfl rfl rfl (by first | rfl | exact net_ok _) rfl rfl rfl ?_ | refine OD.appendSl1 (xs := x :: a) (f := bitAV) 1 rfl rfl rfl rfl rfl rfl rfl rfl rfl rfl ⟨⟨_, rfl⟩, rfl⟩ (fun _ _ => rfl) rfl rfl (roomB rfl (by omega)) (fun b' => ?_)) | refine OS.nil ?_ | refine WS.seq ?_ | refine QS.seqN ?_ | refine WS.region ?_)
      exact QS.rangeX ((b', x :: (a ++ [n.regs.xs[i].init]))) (by (try dsimp only) <;> exact (ht.symm))
  rintro ⟨b5, a⟩ ha
  try dsimp only at ha
  rw [List.take_of_length_le (Nat.le_refl _)] at ha
  have hlen : n.nexts.length = a.length := by rw [ha]; simp [GNet.nexts]
  have hev : ∀ S : List UInt8, S.length = a.length → le2 S = true → evalR n (List.replicate n.ins.xs.length 2) S = some (n.outs.xs.map (fun p => ofL (allB n.gates.xs (List.replicate n.ins.xs.length 2) S) p.lit), litsB n.gates.xs (List.replicate n.ins.xs.length 2) S n.nexts) := by
    intro S hS hS2
    unfold evalR
    rw [allR_yes hV (and_t (decide_eq_true (by simp)) (by simp [le2])) (and_t (decide_eq_true (by rw [hS, ha]; simp)) hS2)]
    simp only [Option.map_some, litsB, GNet.nexts, List.map_map]
    rfl
  have hi2 : (GSl.some (List.replicate n.ins.xs.length (2 : UInt8))).xs.length ≤ 100000000000 := by
    show (List.replicate n.ins.xs.length (2 : UInt8)).length ≤ _
    simp; omega
  have hil : a.length ≤ 500 := by rw [ha]; simpa using hrl
  have hini : a = n.inits := ha
  have hin2 : le2 a = true := by rw [ha]; simpa [le2, List.all_map, Function.comp] using v.inits
  cases a with
  | nil =>
    dsimp only [slP, obP]
    dsimp only [RSt.at, List.cons_append, List.nil_append]
    have hb0 : BArg [(b1, .row 4 [netAV n])] .nilsl [] := by
      have := BArg.gsl (L := [(b1, .row 4 [netAV n])]) (s := GSl.of ([] : List UInt8))
      unfold GSl.av at this
      exact this
    have hn0 : n.nexts = [] := List.length_eq_zero_iff.1 hlen
    have hs0 : n.stuck = [] := by
      unfold GNet.stuck stuckM
      rw [← hini]; rfl
    have c59 : ∀ st, SFa [(b1, .row 4 [netAV n])] [] st → CW (En pr) 59 [netAV n, (GSl.some (List.replicate n.ins.xs.length (2 : UInt8))).av 1 bitAV, .nilsl] st fun x st' => (∃ t u, x = .tup [accA t 1 ((n.outs.xs.map (fun p => ofL (allB n.gates.xs (List.replicate n.ins.xs.length 2) []) p.lit)).map bitAV), accA u 1 (([] : List UInt8).map bitAV), .int .i64 0]) ∧ SFa [(b1, .row 4 [netAV n])] [] st' := by
      intro st hs
      refine (run59o h59 h109 h57 h131 h110 h132 n hn _ [] hi2 (by simp) hb0 hs).mono fun x st' h => ⟨?_, h.2⟩
      have e := hev [] rfl rfl
      rcases h.1 with ⟨h, _⟩ | ⟨o, y, t, u, h, h'⟩
      · exact absurd (e.symm.trans h) (by simp)
      · rw [show evalR n (GSl.some (List.replicate n.ins.xs.length (2 : UInt8))).xs [] = some _ from e, hn0] at h
        cases h
        exact ⟨t, u, h'⟩
    have hz59 : ∀ (y : AV) (st : St), (∃ t u, y = .tup [accA t 1 ((n.outs.xs.map (fun p => ofL (allB n.gates.xs (List.replicate n.ins.xs.length 2) []) p.lit)).map bitAV), accA u 1 (([] : List UInt8).map bitAV), .int .i64 0]) → freezeA st y = some (y, st) := by
      rintro y st ⟨t, u, rfl⟩
      exact freeze_free (by simp only [AV.free, AV.freeL, free_acc bit_free, Bool.and_true])
    repeat' (first | (refine OS.do rfl ?_; first | refine OD.auto rfl rfl ?_) | refine OS.nil ?_ | refine WS.seq ?_ | refine QS.seqN ?_ | refine WS.region ?_ | refine WS.block ?_)
    refine WS.loopX (D := Bool) [1, 4, 5] (fun d => [(8, .bool d)]) (fun d => [(b1, .row 4 [netAV n])]) (fun _ => []) (fun d => True) (fun d => bif d then 1 else 0) (true) (trivial) ?_
    rintro ch _
    dsimp only [RSt.at, List.cons_append, List.nil_append]
    repeat' (first | (refine OS.do rfl ?_; first | refine OD.loadP 0 rfl rfl rfl rfl rfl rfl ?_ | refine OD.auto rfl rfl ?_ | refine OD.len rfl rfl (fun _ => lenTy_accm rfl rfl) ?_ | (refine OD.callP (fun y => ∃ t u, y = .tup [accA t 1 ((n.outs.xs.map (fun p => ofL (allB n.gates.xs (List.replicate n.ins.xs.length 2) []) p.lit)).map bitAV), accA u 1 (([] : List UInt8).map bitAV), .int .i64 0]) rfl rfl rfl c59 hz59 ?_; rintro y ⟨t, u, rfl⟩)) | refine OS.nil ?_ | refine WS.seq ?_ | refine QS.seqN ?_ | refine WS.region ?_ | refine WS.condF rfl ?_ | refine WS.skip ?_ | refine WS.block ?_ | refine WS.ret ?_ | refine WS.exit ?_ | refine QS.seqE ?_ | refine QS.blockH ?_ | refine QS.loopE ?_ | refine WS.condB rfl (fun _ => ?_) (fun _ => ?_))
    · refine WS.rangeX (A := Unit) (n := 0) ⟨49, _, fun _ => [(8, .bool false)], fun _ => [(b1, .row 4 [netAV n])], fun _ => [], fun _ _ => True⟩ (()) [1, 4, 5, 47, 48] (trivial) ?_ ?_
      · rintro i _ hi
        omega
      · rintro _ _
        dsimp only [RSt.at, List.cons_append, List.nil_append]
        repeat' (first | refine QS.blockN ?_)
        exact QS.loopX (false) (by exact (trivial)) (by exact (by simp [*]))
    · refine QS.retR (by rfl) fun st => ⟨_, st, rfl, ?_, rfl⟩
      unfold stuckAV
      rw [if_pos hV, hs0]; unfold GSl.av; rfl
  | cons x0 a0 =>
    generalize hA : x0 :: a0 = a at *
    have hsl : slP b5 a = .sl 1 b5 0 a.length := by rw [← hA]; rfl
    have hob : obP b5 a = [(b5, .row 1 (a.map bitAV))] := by rw [← hA]; rfl
    dsimp only [RSt.at, List.cons_append, List.nil_append]
    rw [hob, hsl]
    dsimp only [RSt.at, List.cons_append, List.nil_append]
    have c59 : ∀ (S : List UInt8), S.length = a.length → le2 S = true → ∀ st, SFa [(b5, .row 1 (S.map bitAV)), (b1, .row 4 [netAV n])] [] st → CW (En pr) 59 [netAV n, (GSl.some (List.replicate n.ins.xs.length (2 : UInt8))).av 1 bitAV, .sl 1 b5 0 a.length] st fun x st' => (∃ t u, x = .tup [accA t 1 ((n.outs.xs.map (fun p => ofL (allB n.gates.xs (List.replicate n.ins.xs.length 2) S) p.lit)).map bitAV), accA u 1 ((litsB n.gates.xs (List.replicate n.ins.xs.length 2) S n.nexts).map bitAV), .int .i64 0]) ∧ SFa [(b5, .row 1 (S.map bitAV)), (b1, .row 4 [netAV n])] [] st' := by
      intro S hS hS2 st hs
      rw [← hS]
      refine (run59o h59 h109 h57 h131 h110 h132 n hn _ S hi2 (by omega) (BArg.obj (kk := 0) rfl) hs).mono fun x st' h => ⟨?_, h.2⟩
      have e := hev S hS hS2
      rcases h.1 with ⟨h, _⟩ | ⟨o, y, t, u, h, h'⟩
      · exact absurd (e.symm.trans h) (by simp)
      · rw [show evalR n (GSl.some (List.replicate n.ins.xs.length (2 : UInt8))).xs S = some _ from e] at h
        cases h
        exact ⟨t, u, h'⟩
    have hz59 : ∀ (S : List UInt8) (y : AV) (st : St), (∃ t u, y = .tup [accA t 1 ((n.outs.xs.map (fun p => ofL (allB n.gates.xs (List.replicate n.ins.xs.length 2) S) p.lit)).map bitAV), accA u 1 ((litsB n.gates.xs (List.replicate n.ins.xs.length 2) S n.nexts).map bitAV), .int .i64 0]) → freezeA st y = some (y, st) := by
      rintro S y st ⟨t, u, rfl⟩
      exact freeze_free (by simp only [AV.free, AV.freeL, free_acc bit_free, Bool.and_true])
    repeat' (first | (refine OS.do rfl ?_; first | refine OD.auto rfl rfl ?_) | refine OS.nil ?_ | refine WS.seq ?_ | refine QS.seqN ?_ | refine WS.region ?_ | refine WS.block ?_)
    refine WS.loopX (D := Bool × List UInt8) [1, 4, 5] (fun d => [(8, .bool d.1)]) (fun d => [(b5, .row 1 (d.2.map bitAV)), (b1, .row 4 [netAV n])]) (fun _ => []) (fun d => d.2.length = a.length ∧ le2 d.2 = true ∧ (d.1 = true → ∃ m, knownN d.2 ≤ m ∧ sinkM n.gates.xs n.ins.xs.length n.nexts m d.2 = n.stuck) ∧ (d.1 = false → d.2 = n.stuck)) (fun d => bif d.1 then knownN d.2 + 1 else 0) ((true, a)) (⟨rfl, hin2, fun _ => ⟨a.length, knownN_le a, by rw [hini]; rfl⟩, fun h => by cases h⟩) ?_
    rintro ⟨ch, S⟩ ⟨hS, hS2, hch, hno⟩
    try dsimp only at hS hS2 hch hno
    have hX : (litsB n.gates.xs (List.replicate n.ins.xs.length 2) S n.nexts).length = S.length := by rw [litsB_len, hlen, hS]
    generalize hXe : litsB n.gates.xs (List.replicate n.ins.xs.length 2) S n.nexts = X at hX
    dsimp only [RSt.at, List.cons_append, List.nil_append]
    repeat' (first | (refine OS.do rfl ?_; first | refine OD.auto rfl rfl ?_ | refine OD.loadP 1 rfl rfl rfl rfl rfl rfl ?_ | refine OD.len rfl rfl (fun _ => lenTy_accm rfl rfl) ?_ | (refine OD.callP (fun y => ∃ t u, y = .tup [accA t 1 ((n.outs.xs.map (fun p => ofL (allB n.gates.xs (List.replicate n.ins.xs.length 2) S) p.lit)).map bitAV), accA u 1 ((litsB n.gates.xs (List.replicate n.ins.xs.length 2) S n.nexts).map bitAV), .int .i64 0]) rfl rfl rfl (c59 S hS hS2) (hz59 S) ?_; rintro y ⟨t, u, rfl⟩; rw [hXe])) | refine OS.nil ?_ | refine WS.seq ?_ | refine QS.seqN ?_ | refine WS.region ?_ | refine WS.condF rfl ?_ | refine WS.skip ?_ | refine WS.block ?_ | refine WS.ret ?_ | refine WS.exit ?_ | refine QS.seqE ?_ | refine QS.blockH ?_ | refine QS.loopE ?_ | refine WS.condB rfl (fun _ => ?_) (fun _ => ?_))
    · have hXl : X.length = a.length := by omega
      refine WS.rangeX (A := Bool × List UInt8) (n := X.length) ⟨49, _, fun a => [(8, .bool a.1)], fun d => [(b5, .row 1 (d.2.map bitAV)), (b1, .row 4 [netAV n])], fun _ => [], fun i d => d.2 = partM S X i ∧ d.1 = decide (partM S X i ≠ S)⟩ ((false, S)) [1, 4, 5, 47, 48] (⟨part_zero.symm, by rw [part_zero]; simp⟩) ?_ ?_
      · rintro i ⟨c, P⟩ hi ⟨hP, hc⟩
        try dsimp only at hP hc
        have hg : P[i]? = some (S[i]'(by omega)) := by rw [hP]; exact part_get hX (by omega)
        have hrow : (P.map bitAV)[i]? = some (bitAV (S[i]'(by omega))) := by rw [List.getElem?_map, hg]; rfl
        dsimp only [RSt.at, List.cons_append, List.nil_append]
        repeat' (first | (refine OS.do rfl ?_; first | refine OD.auto rfl rfl ?_ | refine OD.indexAddr rfl rfl rfl (indexAddrA_accn rfl rfl rfl rfl (by first | assumption | exact List.getElem?_eq_getElem (by omega))) ?_ | refine OD.indexAddr rfl rfl rfl (indexAddrA_sl rfl rfl rfl rfl (by omega)) ?_ | refine OD.loadI 0 rfl rfl rfl hrow rfl ?_ | refine OD.storeI 0 rfl rfl rfl rfl rfl hrow ?_) | refine OS.nil ?_ | refine OS.skip rfl rfl rfl ?_ | refine WS.seq ?_ | refine QS.seqN ?_ | refine WS.region ?_ | refine WS.condF rfl ?_ | refine WS.skip ?_ | refine WS.condNe rfl (fun _ => ?_) (fun _ => ?_) | ((fail_if_success (refine OS.do rfl ?_)); first | refine OS.splitNe rfl rfl rfl (fun _ => ?_) (fun _ => ?_)))
        · rename_i h1 h2
          have hd := part_down hX (i := i) (by omega) (fun e => h1 (by rw [e]; rfl)) (u8_ne h2)
          have hm : (P.map bitAV).set i (.int .u8 2) = (partM S X (i + 1)).map bitAV := by rw [hd.1, ← hP, List.map_set]; rfl
          exact QS.rangeX ((true, partM S X (i + 1))) (by (try dsimp only) <;> exact (⟨rfl, (decide_eq_true hd.2).symm⟩)) (hL := by (try dsimp only); rw [← hm]; exact SubO.refl _)
        · rename_i h1 h2
          have hd := part_same hX (i := i) (by omega) (.inr (u8_eq h2))
          exact QS.rangeX ((c, P)) (by (try dsimp only) <;> exact (⟨by rw [hd]; exact hP, by rw [hd]; exact hc⟩))
        · rename_i h1
          have hd := part_same hX (i := i) (by omega) (.inl (UInt8.toNat_inj.1 (by have : (2 : UInt8).toNat = 2 := rfl; omega)))
          exact QS.rangeX ((c, P)) (by (try dsimp only) <;> exact (⟨by rw [hd]; exact hP, by rw [hd]; exact hc⟩))
      · rintro ⟨c, P⟩ ⟨hP, hc⟩
        try dsimp only at hP hc
        have hP' : P = downM n.gates.xs n.ins.xs.length n.nexts S := by rw [hP, hX, part_all hX, ← hXe]; rfl
        have hc' : c = decide (downM n.gates.xs n.ins.xs.length n.nexts S ≠ S) := by rw [hc, ← hP, hP']
        have hct : ch = true := by assumption
        obtain ⟨m, hm1, hm2⟩ := hch hct
        have hSl : S.length = n.nexts.length := by omega
        dsimp only [RSt.at, List.cons_append, List.nil_append]
        repeat' (first | refine QS.blockN ?_)
        exact QS.loopX ((c, P)) (by exact (⟨by rw [hP', down_len hSl, hS], by rw [hP']; exact le2_zip hS2, fun h => (by obtain ⟨m', q1, q2, q3⟩ := sink_step hSl hm1 (of_decide_eq_true (hc'.symm.trans h)); exact ⟨m', by rw [hP']; exact q1, by rw [hP', ← q3]; exact hm2⟩), fun h => (by have q := of_decide_eq_false (hc'.symm.trans h); rw [Classical.not_not] at q; rw [← hm2, hP', q, sink_of_fix q])⟩)) (by exact (by cases c with | false => simp [hct] | true => (obtain ⟨m', q1, q2, q3⟩ := sink_step hSl hm1 (of_decide_eq_true hc'.symm); rw [hct, hP']; simpa using q2)))
    · rename_i hcf
      refine QS.retRS (by rfl) fun st hs => ?_
      have hg := (hs.obj 0 b5 _ rfl).1
      obtain ⟨tk, st2, hz⟩ := freeze_two (k := .i64) (i := 0) hg (show (S.map bitAV).length = a.length by rw [List.length_map, hS])
      refine ⟨_, st2, hz, ?_, ?_⟩
      · unfold stuckAV
        rw [if_pos hV, ← hno hcf]
        have hp := plain_vs bit_plain 1 tk S
        simp only [AV.plain, AV.plainL] at hp ⊢
        rw [hp]
        have : S ≠ [] := fun e => by rw [e, ← hA] at hS; simp at hS
        congr 1
        congr 1
        unfold GSl.av GSl.of
        cases S with
        | nil => exact absurd rfl this
        | cons y S => rfl
      · simp only [AV.free, AV.freeL, Bool.and_true]
        exact freeL_map bit_free S
theorem con22 (h1 : pr 22 = none) (h58 : pr 58 = some (tabPrim tab58)) (h59 : pr 59 = none) (h109 : pr 109 = none) (h57 : Has pr 57 Rel57) (h131 : Has pr 131 Rel131) (h110 : Has pr 110 Rel110) (h132 : pr 132 = some (tabPrim tab132)) : Con2 (En pr) 22 Rel22 :=
  con_ofz (fun d => by simp [AV.freeL, net_free]) fun d hd st => run22 h1 h58 h59 h109 h57 h131 h110 h132 d hd.1 hd.2 st
end
end Go.OptEnv

namespace Go.OptEnv
open Go Go.Proofs Go.Abs Go.RowKit Go.NetM
set_option maxRecDepth 10000
theorem BArg.acc {L : List (Nat × AObj)} {t : Nat} {xs : List UInt8} : BArg L (accA t 1 (xs.map bitAV)) xs := by
  have hv : ∃ s : GSl UInt8, s.xs = xs ∧ ∀ st, SFa L [] st → viewA st 9 (accA t 1 (xs.map bitAV)) = some (s.av 1 bitAV) := ⟨GSl.of xs, gof_xs xs, fun st _ => by rw [viewA_free 8 (free_acc bit_free), plain_acc bit_plain]⟩
  have hl : ∀ st e, SFa L [] st → lenT st (.slice e) (accA t 1 (xs.map bitAV)) = some xs.length := fun st e _ => by rw [lenT_acc, List.length_map]
  cases xs with
  | nil => exact ⟨rfl, ⟨_, rfl, fun st _ => rfl⟩, hl, hv⟩
  | cons x xs => exact ⟨rfl, ⟨1, by simp [Nat.beq_refl], fun st _ => rfl⟩, hl, hv⟩
theorem BArg.use122 {pr : Prims} {L : List (Nat × AObj)} {x : AV} {xs : List UInt8} (h : BArg L x xs) (h122 : Has pr 122 Rel122) (hl : xs.length ≤ 140737488355328) {k : Int} {st : St} (hs : SFa L [] st) : primOf Rel122 [x, .int .i64 k] st = some (.bool (decide ((xs.length : Int) = k) && le2 xs), st) := by
  obtain ⟨s, rfl, hv⟩ := h.view
  refine h122.view (a := [s.av 1 bitAV, .int .i64 k]) ?_ ⟨(s, k), hl, rfl, rfl⟩ rfl
  have e2 : viewA st 9 (.int .i64 k) = some (.int .i64 k) := rfl
  simp only [mapO, hv st hs, e2]
attribute [local irreducible] WS QS OS OD Abs.Sub SubO SubK CW GSl.av accA growA
section
variable {pr : Prims}
set_option maxHeartbeats 1000000 in
theorem run90o (h1 : pr 90 = none) (h31 : Has pr 31 Rel31) (h122 : Has pr 122 Rel122) (h92 : Has pr 92 Rel92) (h123 : pr 123 = some (tabPrim tab123)) (n : GNet) (hn : FitsN n) (ins regs : List UInt8) (hi : ins.length ≤ 100000000000) (hr : regs.length ≤ 100000000000) {L : List (Nat × AObj)} {IA RA : AV} (hIA : BArg L IA ins) (hRA : BArg L RA regs) {st : St} (hS : SFa L [] st) :
    CW (En pr) 90 [netAV n, IA, RA] st fun r st' => ((allR n ins regs = none ∧ r = .tup [.nilsl, .int .i64 2]) ∨ ∃ v b t, allR n ins regs = some v ∧ r = .tup [growA b t 1 (v.map bitAV), .int .i64 0]) ∧ SFa L [] st' := by
  have hn' := hn
  obtain ⟨f1, f2, f3, f4, _, _, _, _, _, _⟩ := hn'
  have u1 := use31 h31 hn
  obtain ⟨z, hz1, hz2⟩ := hRA.els
  obtain ⟨y, hy1, hy2⟩ := hIA.els
  refine CW.startS (N := 62) h1 rfl rfl hS ?_
  refine WS.newK ?_
  repeat' (first | (refine OS.do rfl ?_; first | refine OD.box rfl rfl rfl rfl (net_ok _) rfl (fun b1 => ?_) | refine OD.loadP 0 rfl rfl rfl rfl rfl rfl ?_ | refine OD.auto rfl rfl ?_ | refine OD.len rfl rfl (fun _ => lenTy_av rfl rfl) ?_ | refine OD.call rfl rfl rfl h31.eq u1 (fun _ => rfl) ?_ | refine OD.callV rfl rfl rfl h122.eq (fun st hs => hIA.up.use122 h122 (by omega) hs.noK) (fun _ => rfl) ?_ | refine OD.callV rfl rfl rfl h122.eq (fun st hs => hRA.up.use122 h122 (by omega) hs.noK) (fun _ => rfl) ?_ | refine OD.appendGF (xs := [bitAV 0]) (t := 0) (b := false) 0 rfl rfl (by unfold growA; rfl) rfl rfl rfl rfl rfl rfl rfl rfl (.inr ⟨⟨_, rfl⟩, hIA.str⟩) (fun st hs => hy2 st hs.tail) (okElems_map (n := 1) rfl (fun _ => ⟨rfl, rfl⟩) _) hy1 (roomB rfl (by simp only [List.length_map, List.length_append, List.length_cons, List.length_nil]; omega)) (fun tk' => ?_) | refine OD.appendGF 0 rfl rfl rfl rfl rfl rfl rfl rfl rfl rfl rfl (.inr ⟨⟨_, rfl⟩, hRA.str⟩) (fun st hs => hz2 st hs.tail) (okElems_map (n := 1) rfl (fun _ => ⟨rfl, rfl⟩) _) hz1 (roomB rfl (by simp only [List.length_map, List.length_append, List.length_cons, List.length_nil]; omega)) (fun tk' => ?_)) | refine OS.nil ?_ | refine OS.skip rfl rfl rfl ?_ | refine WS.seq ?_ | refine QS.seqN ?_ | refine WS.region ?_ | refine WS.condT rfl ?_ | refine WS.skip ?_ | refine WS.block ?_ | refine WS.ret ?_ | refine QS.seqR ?_ | refine WS.condN rfl (fun _ => ?_) (fun _ => ?_) | ((fail_if_success (refine OS.do rfl ?_)); first | refine OS.splitN rfl rfl rfl (fun _ => ?_) (fun _ => ?_)))
  all_goals try (refine QS.retRS (by rfl) fun _ hS => ⟨.inl ⟨allR_no (by first | exact and_f1 (and_f1 (by assumption)) | exact and_f1 (and_f2 (by assumption)) | exact and_f2 (by assumption)), rfl⟩, hS.tail.noK⟩)
  rename_i hV hI hR _
  have v := validM_iff.1 hV
  have hil : (ins.length : Int) = n.ins.xs.length := of_decide_eq_true (Bool.and_eq_true _ _ ▸ hI).1
  have hrl : (regs.length : Int) = n.regs.xs.length := of_decide_eq_true (Bool.and_eq_true _ _ ▸ hR).1
  have hi2 : le2 ins = true := (Bool.and_eq_true _ _ ▸ hI).2
  have hr2 : le2 regs = true := (Bool.and_eq_true _ _ ▸ hR).2
  have hgn := v.gatesN
  have l0 : ([0] ++ ins ++ regs : List UInt8) = 0 :: (ins ++ regs) := by simp
  have k0 : le2 ([0] ++ ins ++ regs) = true := by rw [l0]; simpa [le2] using le2_app hi2 hr2
  rw [show [bitAV 0] ++ ins.map bitAV ++ regs.map bitAV = ([0] ++ ins ++ regs : List UInt8).map bitAV by simp]
  have hfst : n.first = ([0] ++ ins ++ regs : List UInt8).length := by simp only [GNet.first, List.length_append, List.length_cons, List.length_nil]; omega
  refine WS.rangeX (A := Bool × Nat × List UInt8) (n := n.gates.xs.length) ⟨40, _, fun a => [(8, growA a.1 a.2.1 1 (a.2.2.map bitAV))], fun _ => (b1, .row 4 [netAV n]) :: L, fun a => [(a.2.1, a.1)], fun i a => a.2.2 = gatesM ([0] ++ ins ++ regs) (n.gates.xs.take i)⟩ ((false || !(ins.map bitAV).isEmpty || !(regs.map bitAV).isEmpty, tk', [0] ++ ins ++ regs)) [38, 39] (rfl) ?_ ?_
  · rintro i ⟨b, tk, w⟩ hi ha
    try dsimp only at ha
    have hwl : w.length = ([0] ++ ins ++ regs : List UInt8).length + i := by rw [ha, gatesM_len, List.length_take]; omega
    have hwb : w.length ≤ 300000 := by
      have := names_len v.ins
      have := names_len v.regs
      simp only [List.length_map] at this
      rw [hwl]; simp only [List.length_append, List.length_cons, List.length_nil]; omega
    have hw2 : le2 w = true := by rw [ha]; exact gatesM_le2 _ k0
    have hg := gatesOk_take (k := n.first) hi
    have hg2 : gatesOk n.first (n.gates.xs.take (i + 1)) = true := by
      have := v.gates
      rw [← List.take_append_drop (i + 1) n.gates.xs] at this
      exact gatesOk_app _ _ _ this
    rw [hg2] at hg
    have hg := (Bool.and_eq_true _ _ ▸ hg.symm).2
    have hg1 := lit_of (Bool.and_eq_true _ _ ▸ hg).1
    have hg2 := lit_of (Bool.and_eq_true _ _ ▸ hg).2
    have c1 := use92g h92 (k := n.gates.xs[i].1) (v := w) (b := b) (t := tk) ⟨hg1.1, by omega⟩ (by omega) hw2
    have c2 := use92g h92 (k := n.gates.xs[i].2) (v := w) (b := b) (t := tk) ⟨hg2.1, by omega⟩ (by omega) hw2
    have c3 := use123 (ofL_le2 hw2 n.gates.xs[i].1) (ofL_le2 hw2 n.gates.xs[i].2)
    dsimp only [RSt.at, List.cons_append, List.nil_append]
    repeat' (first | (refine OS.do rfl ?_; first | refine OD.loadP 0 rfl rfl rfl rfl rfl rfl ?_ | refine OD.auto rfl rfl ?_ | refine OD.indexAddr rfl rfl rfl (indexAddrA_nat rfl rfl rfl rfl (by first | assumption | exact List.getElem?_eq_getElem (by omega))) ?_ | refine OD.alloc rfl rfl rfl rfl (fun _ => ?_) | refine OD.storeW 0 rfl rfl rfl rfl (by first | rfl | exact net_ok _) rfl rfl rfl ?_ | refine OD.indexAddr rfl rfl rfl rfl ?_ | refine OD.call rfl rfl rfl h92.eq c1 (fun _ => rfl) ?_ | refine OD.call rfl rfl rfl h92.eq c2 (fun _ => rfl) ?_ | refine OD.call rfl rfl rfl h123 c3 (fun _ => rfl) ?_ | refine OD.appendG 0 rfl rfl rfl rfl rfl rfl rfl rfl rfl rfl rfl (.inr ⟨⟨_, rfl⟩, rfl⟩) (fun _ => rfl) rfl rfl (roomB rfl (by simp only [List.length_map, List.length_append, List.length_take, List.length_cons, List.length_nil]; omega)) (fun tk' => ?_)) | refine OS.nil ?_ | refine WS.seq ?_ | refine QS.seqN ?_ | refine WS.region ?_ | refine WS.drawC rfl rfl rfl ?_)
    exact QS.rangeX ((b || true, tk', w ++ [andB (ofL w n.gates.xs[i].1) (ofL w n.gates.xs[i].2)])) (by (try dsimp only) <;> exact (by rw [← l0, gatesM_take hi, ← ha])) (hl := by (try dsimp only [RSt.at, List.cons_append, List.nil_append]); repeat' (first | exact Sub.nil _ | refine Sub.cons (by rw [List.map_append]; rfl) ?_ | refine Sub.cons (congrArg (fun z => some (AV.int .i64 z)) (wrap_succ (by omega))) ?_ | refine Sub.cons rfl ?_))
  rintro ⟨b, tk, w⟩ ha
  try dsimp only at ha
  rw [List.take_of_length_le (Nat.le_refl _)] at ha
  dsimp only [RSt.at, List.cons_append, List.nil_append]
  repeat' (first | (refine OS.do rfl ?_; first | refine OD.auto rfl rfl ?_) | refine OS.nil ?_ | refine WS.seq ?_ | refine QS.seqN ?_ | refine WS.region ?_ | refine WS.ret ?_)
  refine QS.retRS (by rfl) fun _ hS => ⟨.inr ⟨w, b, tk, ?_, rfl⟩, hS.tail.noK⟩
  rw [allR_yes hV hI hR, ha, l0]; rfl
set_option maxHeartbeats 1000000 in
theorem run48o (h1 : pr 48 = none) (h90 : pr 90 = none) (h31 : Has pr 31 Rel31) (h122 : Has pr 122 Rel122) (h92 : Has pr 92 Rel92) (h123 : pr 123 = some (tabPrim tab123)) (n : GNet) (hn : FitsN n) (ins regs : List UInt8) (hi : ins.length ≤ 100000000000) (hr : regs.length ≤ 100000000000) {L : List (Nat × AObj)} {IA RA : AV} (hIA : BArg L IA ins) (hRA : BArg L RA regs) {st : St} (hS : SFa L [] st) :
    CW (En pr) 48 [netAV n, IA, RA] st fun r st' => ((evalR n ins regs = none ∧ r = .tup [.nilsl, .nilsl, .int .i64 2]) ∨ ∃ o x t u, evalR n ins regs = some (o, x) ∧ r = .tup [accA t 1 (o.map bitAV), accA u 1 (x.map bitAV), .int .i64 0]) ∧ SFa L [] st' := by
  have hn' := hn
  obtain ⟨f1, f2, f3, f4, _, _, _, _, _, _⟩ := hn'
  have u1 := fun (p : Nat × AObj) (st : St) (hs : SFa (p :: L) [] st) => run90o h90 h31 h122 h92 h123 n hn ins regs hi hr (hIA.up (p := p)) (hRA.up (p := p)) hs
  unfold evalR
  cases hx : allR n ins regs with
  | none =>
    have c1 : ∀ (p : Nat × AObj) (st : St), SFa (p :: L) [] st → CW (En pr) 90 [netAV n, IA, RA] st fun x st' => x = .tup [.nilsl, .int .i64 2] ∧ SFa (p :: L) [] st' := fun p st hs => (u1 p st hs).mono fun x st' h => And.intro (by
      rcases h.1 with ⟨_, h⟩ | ⟨v, b, t, h, _⟩
      · exact h
      · exact absurd (hx.symm.trans h) (by simp)) h.2
    refine CW.startS (N := 56) h1 rfl rfl hS ?_
    repeat' (first | (refine OS.do rfl ?_; first | refine OD.box rfl rfl rfl rfl (net_ok _) rfl (fun b1 => ?_) | refine OD.loadP 0 rfl rfl rfl rfl rfl rfl ?_ | refine OD.auto rfl rfl ?_ | refine OD.callS rfl rfl rfl (c1 _) (fun _ => rfl) ?_) | refine OS.nil ?_ | refine WS.seq ?_ | refine QS.seqN ?_ | refine WS.region ?_ | refine WS.condT rfl ?_ | refine WS.ret ?_ | refine QS.seqR ?_)
    refine QS.retRS (by rfl) fun _ hS => ⟨.inl ⟨rfl, rfl⟩, hS.tail⟩
  | some v =>
    rw [hx] at u1
    obtain ⟨hv, _, _, _, _, _, hv2, hvl⟩ := allR_spec hx
    have hgn := hv.gatesN
    have hvb : v.length ≤ 300000 := by
      have := names_len hv.ins
      have := names_len hv.regs
      simp only [List.length_map, GNet.nodes, GNet.first] at *
      omega
    have hol : n.outs.xs.length ≤ 500 := by have := names_len hv.outs; simpa using this
    have hrl : n.regs.xs.length ≤ 500 := by have := names_len hv.regs; simpa using this
    have c1 : ∀ (p : Nat × AObj) (st : St), SFa (p :: L) [] st → CW (En pr) 90 [netAV n, IA, RA] st fun x st' => (∃ b t, x = .tup [growA b t 1 (v.map bitAV), .int .i64 0]) ∧ SFa (p :: L) [] st' := fun p st hs => (u1 p st hs).mono fun x st' h => And.intro (by
      rcases h.1 with ⟨h, _⟩ | ⟨v', b, t, h, h'⟩
      · exact absurd h (by simp)
      · rw [Option.some.injEq] at h; subst h; exact ⟨b, t, h'⟩) h.2
    have hz1 : ∀ (y : AV) (st : St), (∃ b t, y = .tup [growA b t 1 (v.map bitAV), .int .i64 0]) → freezeA st y = some (y, st) := by
      rintro y st ⟨b, t, rfl⟩
      exact freeze_free (by simp only [AV.free, AV.freeL, free_grow bit_free, Bool.and_true])
    refine CW.startS (N := 56) h1 rfl rfl hS ?_
    repeat' (first | (refine OS.do rfl ?_; first | refine OD.box rfl rfl rfl rfl (net_ok _) rfl (fun b1 => ?_) | refine OD.loadP 0 rfl rfl rfl rfl rfl rfl ?_ | refine OD.auto rfl rfl ?_ | refine OD.len rfl rfl (fun _ => lenTy_av rfl rfl) ?_ | (refine OD.callP (fun x => ∃ b t, x = .tup [growA b t 1 (v.map bitAV), .int .i64 0]) rfl rfl rfl (c1 _) hz1 ?_; rintro y ⟨gb, gt, rfl⟩)) | refine OS.nil ?_ | refine WS.seq ?_ | refine QS.seqN ?_ | refine WS.region ?_ | refine WS.condF rfl ?_ | refine WS.skip ?_ | refine WS.block ?_)
    refine WS.rangeX (A := Nat × List UInt8) (n := n.outs.xs.length) ⟨27, _, fun a => [(6, accA a.1 1 (a.2.map bitAV))], fun _ => (b1, .row 4 [netAV n]) :: L, fun a => [(a.1, !(a.2.map bitAV).isEmpty)], fun i a => a.2 = (n.outs.xs.take i).map (fun p => ofL v p.lit)⟩ ((0, [])) [3, 7, 9, 25, 26] (by simp) ?_ ?_ (hm := by (try dsimp only); repeat' (first | exact Sub.nil _ | refine Sub.cons (congrArg some (accA_nil _ _).symm) ?_ | refine Sub.cons (congrArg (fun z => some (AV.int .i64 z)) (wrap_succ (by omega))) ?_ | refine Sub.cons rfl ?_))
    · rintro i ⟨tk, a⟩ hi ha
      try dsimp only at ha
      have hal : a.length ≤ 500 := by rw [ha]; simp only [List.length_map, List.length_take]; omega
      have hl := lit_of (all_get hv.lits hi)
      have c1 := use92g h92 (k := n.outs.xs[i].lit) (v := v) (b := gb) (t := gt) ⟨hl.1, by omega⟩ (by omega) hv2
      dsimp only [RSt.at, List.cons_append, List.nil_append]
      repeat' (first | (refine OS.do rfl ?_; first | refine OD.loadP 0 rfl rfl rfl rfl rfl rfl ?_ | refine OD.auto rfl rfl ?_ | refine OD.indexAddr rfl rfl rfl (indexAddrA_nat rfl rfl rfl rfl (by first | assumption | exact List.getElem?_eq_getElem (by omega))) ?_ | refine OD.alloc rfl rfl rfl rfl (fun _ => ?_) | refine OD.storeW 0 rfl rfl rfl rfl (by first | rfl | exact net_ok _) rfl rfl rfl ?_ | refine OD.call rfl rfl rfl h92.eq c1 (fun _ => rfl) ?_ | refine OD.append 0 rfl rfl rfl rfl rfl rfl rfl rfl rfl rfl rfl (.inr ⟨⟨_, rfl⟩, rfl⟩) (fun _ => rfl) rfl rfl (roomB rfl (by simp only [List.length_map, List.length_append, List.length_take, List.length_cons, List.length_nil]; omega)) (fun tk' => ?_)) | refine OS.nil ?_ | refine WS.seq ?_ | refine QS.seqN ?_ | refine WS.region ?_)
      exact QS.rangeX ((tk', a ++ [ofL v n.outs.xs[i].lit])) (by (try dsimp only) <;> exact (by rw [map_take_succ hi, ha])) (hl := by (try dsimp only [RSt.at, List.cons_append, List.nil_append]); repeat' (first | exact Sub.nil _ | refine Sub.cons (by rw [List.map_append]; rfl) ?_ | refine Sub.cons (congrArg (fun z => some (AV.int .i64 z)) (wrap_succ (by omega))) ?_ | refine Sub.cons rfl ?_))
    rintro ⟨tk, a⟩ ha
    try dsimp only at ha
    rw [List.take_of_length_le (Nat.le_refl _)] at ha
    dsimp only [RSt.at, List.cons_append, List.nil_append]
    repeat' (first | (refine OS.do rfl ?_; first | refine OD.loadP 0 rfl rfl rfl rfl rfl rfl ?_ | refine OD.auto rfl rfl ?_ | refine OD.len rfl rfl (fun _ => lenTy_av rfl rfl) ?_) | refine OS.nil ?_ | refine WS.seq ?_ | refine QS.seqN ?_ | refine WS.region ?_ | refine WS.block ?_)
    refine WS.rangeX (A := Nat × List UInt8) (n := n.regs.xs.length) ⟨42, _, fun a => [(7, accA a.1 1 (a.2.map bitAV))], fun _ => (b1, .row 4 [netAV n]) :: L, fun a => [(a.1, !(a.2.map bitAV).isEmpty)], fun i a => a.2 = (n.regs.xs.take i).map (fun p => ofL v p.next)⟩ ((0, [])) [6, 9, 40, 41] (by simp) ?_ ?_ (hm := by (try dsimp only); repeat' (first | exact Sub.nil _ | refine Sub.cons (congrArg some (accA_nil _ _).symm) ?_ | refine Sub.cons (congrArg (fun z => some (AV.int .i64 z)) (wrap_succ (by omega))) ?_ | refine Sub.cons rfl ?_))
    · rintro i ⟨tk2, c⟩ hi hc
      try dsimp only at hc
      have hcl : c.length ≤ 500 := by rw [hc]; simp only [List.length_map, List.length_take]; omega
      have hl := lit_of (all_get hv.nexts hi)
      have c1 := use92g h92 (k := n.regs.xs[i].next) (v := v) (b := gb) (t := gt) ⟨hl.1, by omega⟩ (by omega) hv2
      dsimp only [RSt.at, List.cons_append, List.nil_append]
      repeat' (first | (refine OS.do rfl ?_; first | refine OD.loadP 0 rfl rfl rfl rfl rfl rfl ?_ | refine OD.auto rfl rfl ?_ | refine OD.indexAddr rfl rfl rfl (indexAddrA_nat rfl rfl rfl rfl (by first | assumption | exact List.getElem?_eq_getElem (by omega))) ?_ | refine OD.alloc rfl rfl rfl rfl (fun _ => ?_) | refine OD.storeW 0 rfl rfl rfl rfl (by first | rfl | exact net_ok _) rfl rfl rfl ?_ | refine OD.call rfl rfl rfl h92.eq c1 (fun _ => rfl) ?_ | refine OD.append 0 rfl rfl rfl rfl rfl rfl rfl rfl rfl rfl rfl (.inr ⟨⟨_, rfl⟩, rfl⟩) (fun _ => rfl) rfl rfl (roomB rfl (by simp only [List.length_map, List.length_append, List.length_take, List.length_cons, List.length_nil]; omega)) (fun tk' => ?_)) | refine OS.nil ?_ | refine WS.seq ?_ | refine QS.seqN ?_ | refine WS.region ?_)
      exact QS.rangeX ((tk', c ++ [ofL v n.regs.xs[i].next])) (by (try dsimp only) <;> exact (by rw [map_take_succ hi, hc])) (hl := by (try dsimp only [RSt.at, List.cons_append, List.nil_append]); repeat' (first | exact Sub.nil _ | refine Sub.cons (by rw [List.map_append]; rfl) ?_ | refine Sub.cons (congrArg (fun z => some (AV.int .i64 z)) (wrap_succ (by omega))) ?_ | refine Sub.cons rfl ?_))
    rintro ⟨tk2, c⟩ hc
    try dsimp only at hc
    rw [List.take_of_length_le (Nat.le_refl _)] at hc
    dsimp only [RSt.at, List.cons_append, List.nil_append]
    repeat' (first | (refine OS.do rfl ?_; first | refine OD.auto rfl rfl ?_) | refine OS.nil ?_ | refine WS.seq ?_ | refine QS.seqN ?_ | refine WS.region ?_ | refine WS.ret ?_)
    refine QS.retRS (by rfl) fun _ hS => ⟨.inr ⟨a, c, tk, tk2, ?_, rfl⟩, hS.tail.noK⟩
    rw [ha, hc]; rfl
end
end Go.OptEnv

namespace Go.OptEnv
open Go Go.Proofs Go.Abs Go.RowKit Go.NetM
set_option maxRecDepth 10000
def Rel23 : Rel := RelF (fun n : GNet => FitsN n ∧ n.ins.xs.length ≤ 120) (fun n => [netAV n]) stuckAV
attribute [local irreducible] WS QS OS OD Abs.Sub SubO SubK CW GSl.av accA growA
section
variable {pr : Prims}
set_option maxHeartbeats 2000000 in
theorem run23 (h1 : pr 23 = none) (h48 : pr 48 = none) (h90 : pr 90 = none) (h31 : Has pr 31 Rel31) (h122 : Has pr 122 Rel122) (h92 : Has pr 92 Rel92) (h123 : pr 123 = some (tabPrim tab123)) (n : GNet) (hn : FitsN n) (hi : n.ins.xs.length ≤ 120) (st : St) :
    CW (En pr) 23 [netAV n] st fun r st' => ∃ r' st2, freezeA st' r = some (r', st2) ∧ AV.plain r' = stuckAV n ∧ AV.free r' = true := by
  have hn' := hn
  obtain ⟨f1, f2, f3, f4, _, _, _, _, _, _⟩ := hn'
  have u1 := use31 h31 hn
  refine CW.start (N := 73) h1 rfl rfl ?_
  refine WS.newK ?_
  repeat' (first | (refine OS.do rfl ?_; first | refine OD.box rfl rfl rfl rfl (net_ok _) rfl (fun b1 => ?_) | refine OD.loadP 0 rfl rfl rfl rfl rfl rfl ?_ | refine OD.auto rfl rfl ?_ | refine OD.len rfl rfl (fun _ => lenTy_av rfl rfl) ?_ | refine OD.call rfl rfl rfl h31.eq u1 (fun _ => rfl) ?_) | refine OS.nil ?_ | refine WS.seq ?_ | refine QS.seqN ?_ | refine WS.region ?_ | refine WS.skip ?_ | refine WS.block ?_ | refine WS.ret ?_ | refine QS.seqR ?_ | refine WS.condN rfl (fun _ => ?_) (fun _ => ?_))
  · rename_i hv
    exact QS.retR (by rfl) fun st => ⟨_, st, rfl, by unfold stuckAV; rw [if_neg (by rw [hv]; simp)]; rfl, rfl⟩
  rename_i hV
  have v := validM_iff.1 hV
  have hrl : n.regs.xs.length ≤ 500 := by have := names_len v.regs; simpa using this
  refine WS.rangeX (A := Nat × List UInt8) (n := n.ins.xs.length) ⟨19, _, fun a => [(4, accA a.1 1 (a.2.map bitAV))], fun _ => [(b1, .row 4 [netAV n])], fun a => [(a.1, !a.2.isEmpty)], fun i a => a.2 = List.replicate i 2⟩ ((0, [])) [1, 5, 18] (rfl) ?_ ?_ (hm := by (try dsimp only); repeat' (first | exact Sub.nil _ | refine Sub.cons (congrArg some (accA_nil _ _).symm) ?_ | refine Sub.cons (congrArg (fun z => some (AV.int .i64 z)) (wrap_succ (by omega))) ?_ | refine Sub.cons rfl ?_))
  · rintro i ⟨t, I⟩ hi2 hI
    try dsimp only at hI
    have hIl : I.length = i := by rw [hI]; simp
    have hgm : I.map bitAV ++ [bitAV 2] = (I ++ [2]).map bitAV := by rw [List.map_append]; rfl
    dsimp only [RSt.at, List.cons_append, List.nil_append]
    repeat' (first | (refine OS.do rfl ?_; first | refine OD.auto rfl rfl ?_ | (refine OD.append 0 (xs := I.map bitAV) (ys := [bitAV 2]) rfl rfl rfl rfl (by rw [List.isEmpty_map]; rfl) rfl rfl rfl rfl rfl rfl (.inr ⟨⟨_, rfl⟩, rfl⟩) (fun _ => rfl) rfl rfl (roomB rfl (by simp only [List.length_map, List.length_singleton]; omega)) (fun t' => ?_); rw [hgm])) | refine OS.nil ?_ | refine WS.region ?_)
    rw [List.isEmpty_map]
    exact QS.rangeX ((t', I ++ [2])) (by (try dsimp only) <;> exact (by rw [hI, List.replicate_succ']))
  rintro ⟨ti, I⟩ hI
  try dsimp only at hI
  dsimp only [RSt.at, List.cons_append, List.nil_append]
  repeat' (first | (refine OS.do rfl ?_; first | refine OD.loadP 0 rfl rfl rfl rfl rfl rfl ?_ | refine OD.auto rfl rfl ?_ | refine OD.len rfl rfl (fun _ => lenTy_av rfl rfl) ?_) | refine OS.nil ?_ | refine WS.seq ?_ | refine QS.seqN ?_ | refine WS.region ?_ | refine WS.block ?_)
  refine WS.rangeX (A := Nat × List UInt8) (n := n.regs.xs.length) ⟨28, _, fun a => [(5, slR 1 a.1 (a.2.map bitAV))], fun a => [(b1, .row 4 [netAV n])] ++ Abs.slO 1 a.1 (a.2.map bitAV), fun _ => [], fun i a => a.2 = (n.regs.xs.take i).map (·.init)⟩ ((0, [])) [1, 4, 26, 27] (by simp) ?_ ?_
  · rintro i ⟨b, a⟩ hi2 ha
    try dsimp only at ha
    have hal : a.length ≤ 500 := by rw [ha]; simp only [List.length_map, List.length_take]; omega
    have hgm : a.map bitAV ++ [bitAV n.regs.xs[i].init] = (a ++ [n.regs.xs[i].init]).map bitAV := by rw [List.map_append]; rfl
    dsimp only [RSt.at, List.cons_append, List.nil_append]
    repeat' (first | (refine OS.do rfl ?_; first | refine OD.loadP 0 rfl rfl rfl rfl rfl rfl ?_ | refine OD.auto rfl rfl ?_ | refine OD.indexAddr rfl rfl rfl (indexAddrA_nat rfl rfl rfl rfl (by first | assumption | exact List.getElem?_eq_getElem (by omega))) ?_ | refine OD.alloc rfl rfl rfl rfl (fun _ => ?_) | refine OD.storeW 0 rfl rfl rfl rfl (by first | rfl | exact net_ok _) rfl rfl rfl ?_ | (refine OD.appendR (L := [_, _]) (y := bitAV n.regs.xs[i].init) rfl rfl rfl rfl rfl rfl rfl rfl rfl rfl ⟨⟨_, rfl⟩, rfl⟩ (fun _ => rfl) rfl rfl (roomB rfl (by simp only [List.length_map]; omega)) (fun b' => ?_); rw [hgm])) | refine OS.nil ?_ | refine WS.seq ?_ | refine QS.seqN ?_ | refine WS.region ?_)
    exact QS.rangeX ((b', a ++ [n.regs.xs[i].init])) (by (try dsimp only) <;> exact (by rw [map_take_succ hi2, ha])) (hL := by (try dsimp only); exact SubO.drop (SubO.refl _))
  rintro ⟨b5, a⟩ ha
  try dsimp only at ha
  rw [List.take_of_length_le (Nat.le_refl _)] at ha
  have hlen : n.nexts.length = a.length := by rw [ha]; simp [GNet.nexts]
  have hev : ∀ S : List UInt8, S.length = a.length → le2 S = true → evalR n (List.replicate n.ins.xs.length 2) S = some (n.outs.xs.map (fun p => ofL (allB n.gates.xs (List.replicate n.ins.xs.length 2) S) p.lit), litsB n.gates.xs (List.replicate n.ins.xs.length 2) S n.nexts) := by
    intro S hS hS2
    unfold evalR
    rw [allR_yes hV (and_t (decide_eq_true (by simp)) (by simp [le2])) (and_t (decide_eq_true (by rw [hS, ha]; simp)) hS2)]
    simp only [Option.map_some, litsB, GNet.nexts, List.map_map]
    rfl
  have hIl : I.length = n.ins.xs.length := by rw [hI]; simp
  have hil : a.length ≤ 500 := by rw [ha]; simpa using hrl
  have hini : a = n.inits := ha
  have hin2 : le2 a = true := by rw [ha]; simpa [le2, List.all_map, Function.comp] using v.inits
  cases a with
  | nil =>
    dsimp only [RSt.at, List.cons_append, List.nil_append]
    try dsimp only [List.map_nil, slR, Abs.slO, List.append_nil]
    have hb0 : BArg [(b1, .row 4 [netAV n])] .nilsl [] := by
      have := BArg.gsl (L := [(b1, .row 4 [netAV n])]) (s := GSl.of ([] : List UInt8))
      unfold GSl.av at this
      exact this
    have hn0 : n.nexts = [] := List.length_eq_zero_iff.1 hlen
    have hs0 : n.stuck = [] := by
      unfold GNet.stuck stuckM
      rw [← hini]; rfl
    have c59 : ∀ st, SFa [(b1, .row 4 [netAV n])] [] st → CW (En pr) 48 [netAV n, accA ti 1 (I.map bitAV), .nilsl] st fun x st' => (∃ t u, x = .tup [accA t 1 ((n.outs.xs.map (fun p => ofL (allB n.gates.xs (List.replicate n.ins.xs.length 2) []) p.lit)).map bitAV), accA u 1 (([] : List UInt8).map bitAV), .int .i64 0]) ∧ SFa [(b1, .row 4 [netAV n])] [] st' := by
      intro st hs
      refine (run48o h48 h90 h31 h122 h92 h123 n hn I [] (by omega) (by simp) BArg.acc hb0 hs).mono fun x st' h => ⟨?_, h.2⟩
      have e := hev [] rfl rfl
      rcases h.1 with ⟨h, _⟩ | ⟨o, y, t, u, h, h'⟩
      · exact absurd (e.symm.trans (hI ▸ h)) (by simp)
      · rw [hI, e, hn0] at h
        cases h
        exact ⟨t, u, h'⟩
    have hz59 : ∀ (y : AV) (st : St), (∃ t u, y = .tup [accA t 1 ((n.outs.xs.map (fun p => ofL (allB n.gates.xs (List.replicate n.ins.xs.length 2) []) p.lit)).map bitAV), accA u 1 (([] : List UInt8).map bitAV), .int .i64 0]) → freezeA st y = some (y, st) := by
      rintro y st ⟨t, u, rfl⟩
      exact freeze_free (by simp only [AV.free, AV.freeL, free_acc bit_free, Bool.and_true])
    repeat' (first | (refine OS.do rfl ?_; first | refine OD.auto rfl rfl ?_) | refine OS.nil ?_ | refine WS.seq ?_ | refine QS.seqN ?_ | refine WS.region ?_ | refine WS.block ?_)
    refine WS.loopX (D := Bool) [1, 4, 5] (fun d => [(8, .bool d)]) (fun d => [(b1, .row 4 [netAV n])]) (fun _ => []) (fun d => True) (fun d => bif d then 1 else 0) (true) (trivial) ?_
    rintro ch _
    dsimp only [RSt.at, List.cons_append, List.nil_append]
    repeat' (first | (refine OS.do rfl ?_; first | refine OD.loadP 0 rfl rfl rfl rfl rfl rfl ?_ | refine OD.auto rfl rfl ?_ | refine OD.len rfl rfl (fun _ => rfl) ?_ | (refine OD.callP (fun y => ∃ t u, y = .tup [accA t 1 ((n.outs.xs.map (fun p => ofL (allB n.gates.xs (List.replicate n.ins.xs.length 2) []) p.lit)).map bitAV), accA u 1 (([] : List UInt8).map bitAV), .int .i64 0]) rfl rfl rfl c59 hz59 ?_; rintro y ⟨t, u, rfl⟩)) | refine OS.nil ?_ | refine WS.seq ?_ | refine QS.seqN ?_ | refine WS.region ?_ | refine WS.skip ?_ | refine WS.block ?_ | refine WS.ret ?_ | refine WS.exit ?_ | refine QS.seqE ?_ | refine QS.blockH ?_ | refine QS.loopE ?_ | refine WS.condB rfl (fun _ => ?_) (fun _ => ?_))
    · refine WS.rangeX (A := Unit) (n := 0) ⟨49, _, fun _ => [(8, .bool false)], fun _ => [(b1, .row 4 [netAV n])], fun _ => [], fun _ _ => True⟩ (()) [1, 4, 5, 10, 48] (trivial) ?_ ?_
      · rintro i _ hi
        omega
      · rintro _ _
        dsimp only [RSt.at, List.cons_append, List.nil_append]
        repeat' (first | refine QS.blockN ?_)
        exact QS.loopX (false) (by exact (trivial)) (by exact (by simp [*]))
    · refine QS.retR (by rfl) fun st => ⟨_, st, rfl, ?_, rfl⟩
      unfold stuckAV
      rw [if_pos hV, hs0]; unfold GSl.av; rfl
  | cons x0 a0 =>
    generalize hA : x0 :: a0 = a at *
    have hsl : slR 1 b5 (a.map bitAV) = .sl 1 b5 0 a.length := by rw [← hA]; simp [slR]
    have hob : Abs.slO 1 b5 (a.map bitAV) = [(b5, .row 1 (a.map bitAV))] := by rw [← hA]; rfl
    dsimp only [RSt.at, List.cons_append, List.nil_append]
    rw [hob, hsl]
    try dsimp only [RSt.at, List.cons_append, List.nil_append]
    have c59 : ∀ (S : List UInt8), S.length = a.length → le2 S = true → ∀ st, SFa [(b1, .row 4 [netAV n]), (b5, .row 1 (S.map bitAV))] [] st → CW (En pr) 48 [netAV n, accA ti 1 (I.map bitAV), .sl 1 b5 0 a.length] st fun x st' => (∃ t u, x = .tup [accA t 1 ((n.outs.xs.map (fun p => ofL (allB n.gates.xs (List.replicate n.ins.xs.length 2) S) p.lit)).map bitAV), accA u 1 ((litsB n.gates.xs (List.replicate n.ins.xs.length 2) S n.nexts).map bitAV), .int .i64 0]) ∧ SFa [(b1, .row 4 [netAV n]), (b5, .row 1 (S.map bitAV))] [] st' := by
      intro S hS hS2 st hs
      rw [← hS]
      refine (run48o h48 h90 h31 h122 h92 h123 n hn I S (by omega) (by omega) BArg.acc (BArg.obj (kk := 1) rfl) hs).mono fun x st' h => ⟨?_, h.2⟩
      have e := hev S hS hS2
      rcases h.1 with ⟨h, _⟩ | ⟨o, y, t, u, h, h'⟩
      · exact absurd (e.symm.trans (hI ▸ h)) (by simp)
      · rw [hI, e] at h
        cases h
        exact ⟨t, u, h'⟩
    have hz59 : ∀ (S : List UInt8) (y : AV) (st : St), (∃ t u, y = .tup [accA t 1 ((n.outs.xs.map (fun p => ofL (allB n.gates.xs (List.replicate n.ins.xs.length 2) S) p.lit)).map bitAV), accA u 1 ((litsB n.gates.xs (List.replicate n.ins.xs.length 2) S n.nexts).map bitAV), .int .i64 0]) → freezeA st y = some (y, st) := by
      rintro S y st ⟨t, u, rfl⟩
      exact freeze_free (by simp only [AV.free, AV.freeL, free_acc bit_free, Bool.and_true])
    repeat' (first | (refine OS.do rfl ?_; first | refine OD.auto rfl rfl ?_) | refine OS.nil ?_ | refine WS.seq ?_ | refine QS.seqN ?_ | refine WS.region ?_ | refine WS.block ?_)
    refine WS.loopX (D := Bool × List UInt8) [1, 4, 5] (fun d => [(8, .bool d.1)]) (fun d => [(b1, .row 4 [netAV n]), (b5, .row 1 (d.2.map bitAV))]) (fun _ => []) (fun d => d.2.length = a.length ∧ le2 d.2 = true ∧ (d.1 = true → ∃ m, knownN d.2 ≤ m ∧ sinkM n.gates.xs n.ins.xs.length n.nexts m d.2 = n.stuck) ∧ (d.1 = false → d.2 = n.stuck)) (fun d => bif d.1 then knownN d.2 + 1 else 0) ((true, a)) (⟨rfl, hin2, fun _ => ⟨a.length, knownN_le a, by rw [hini]; rfl⟩, fun h => by cases h⟩) ?_
    rintro ⟨ch, S⟩ ⟨hS, hS2, hch, hno⟩
    try dsimp only at hS hS2 hch hno
    have hX : (litsB n.gates.xs (List.replicate n.ins.xs.length 2) S n.nexts).length = S.length := by rw [litsB_len, hlen, hS]
    generalize hXe : litsB n.gates.xs (List.replicate n.ins.xs.length 2) S n.nexts = X at hX
    dsimp only [RSt.at, List.cons_append, List.nil_append]
    repeat' (first | (refine OS.do rfl ?_; first | refine OD.loadP 0 rfl rfl rfl rfl rfl rfl ?_ | refine OD.auto rfl rfl ?_ | refine OD.len rfl rfl (fun _ => rfl) ?_ | (refine OD.callP (fun y => ∃ t u, y = .tup [accA t 1 ((n.outs.xs.map (fun p => ofL (allB n.gates.xs (List.replicate n.ins.xs.length 2) S) p.lit)).map bitAV), accA u 1 ((litsB n.gates.xs (List.replicate n.ins.xs.length 2) S n.nexts).map bitAV), .int .i64 0]) rfl rfl rfl (c59 S hS hS2) (hz59 S) ?_; rintro y ⟨t, u, rfl⟩; rw [hXe])) | refine OS.nil ?_ | refine WS.seq ?_ | refine QS.seqN ?_ | refine WS.region ?_ | refine WS.skip ?_ | refine WS.block ?_ | refine WS.ret ?_ | refine WS.exit ?_ | refine QS.seqE ?_ | refine QS.blockH ?_ | refine QS.loopE ?_ | refine WS.condB rfl (fun _ => ?_) (fun _ => ?_))
    · have hXl : X.length = a.length := by omega
      refine WS.rangeX (A := Bool × List UInt8) (n := a.length) ⟨49, _, fun a => [(8, .bool a.1)], fun d => [(b1, .row 4 [netAV n]), (b5, .row 1 (d.2.map bitAV))], fun _ => [], fun i d => d.2 = partM S X i ∧ d.1 = decide (partM S X i ≠ S)⟩ ((false, S)) [1, 4, 5, 10, 48] (⟨part_zero.symm, by rw [part_zero]; simp⟩) ?_ ?_
      · rintro i ⟨c, P⟩ hi ⟨hP, hc⟩
        try dsimp only at hP hc
        have hg : P[i]? = some (S[i]'(by omega)) := by rw [hP]; exact part_get hX (by omega)
        have hrow : (P.map bitAV)[i]? = some (bitAV (S[i]'(by omega))) := by rw [List.getElem?_map, hg]; rfl
        dsimp only [RSt.at, List.cons_append, List.nil_append]
        repeat' (first | (refine OS.do rfl ?_; first | refine OD.auto rfl rfl ?_ | refine OD.indexAddr rfl rfl rfl (indexAddrA_accn rfl rfl rfl rfl (by first | assumption | exact List.getElem?_eq_getElem (by omega))) ?_ | refine OD.indexAddr rfl rfl rfl (indexAddrA_sl rfl rfl rfl rfl (by omega)) ?_ | refine OD.loadI 1 rfl rfl rfl hrow rfl ?_ | refine OD.storeI 1 rfl rfl rfl rfl rfl hrow ?_) | refine OS.nil ?_ | refine OS.skip rfl rfl rfl ?_ | refine WS.seq ?_ | refine QS.seqN ?_ | refine WS.region ?_ | refine WS.condF rfl ?_ | refine WS.skip ?_ | refine WS.draw rfl rfl ?_ | refine WS.condNe rfl (fun _ => ?_) (fun _ => ?_) | ((fail_if_success (refine OS.do rfl ?_)); first | refine OS.splitNe rfl rfl rfl (fun _ => ?_) (fun _ => ?_)))
        · rename_i h1 h2
          have hd := part_down hX (i := i) (by omega) (fun e => h2 (by rw [e]; rfl)) (u8_ne h1)
          have hm : (P.map bitAV).set i (.int .u8 2) = (partM S X (i + 1)).map bitAV := by rw [hd.1, ← hP, List.map_set]; rfl
          exact QS.rangeX ((true, partM S X (i + 1))) (by (try dsimp only) <;> exact (⟨rfl, (decide_eq_true hd.2).symm⟩)) (hL := by (try dsimp only); rw [← hm]; exact SubO.refl _)
        · rename_i h1 h2
          have hd := part_same hX (i := i) (by omega) (.inl (UInt8.toNat_inj.1 (by have : (2 : UInt8).toNat = 2 := rfl; omega)))
          exact QS.rangeX ((c, P)) (by (try dsimp only) <;> exact (⟨by rw [hd]; exact hP, by rw [hd]; exact hc⟩))
        · rename_i h1
          have hd := part_same hX (i := i) (by omega) (.inr (u8_eq h1))
          exact QS.rangeX ((c, P)) (by (try dsimp only) <;> exact (⟨by rw [hd]; exact hP, by rw [hd]; exact hc⟩))
      · rintro ⟨c, P⟩ ⟨hP, hc⟩
        try dsimp only at hP hc
        have hP' : P = downM n.gates.xs n.ins.xs.length n.nexts S := by rw [hP, ← hS, part_all hX, ← hXe]; rfl
        have hc' : c = decide (downM n.gates.xs n.ins.xs.length n.nexts S ≠ S) := by rw [hc, ← hP, hP']
        have hct : ch = true := by assumption
        obtain ⟨m, hm1, hm2⟩ := hch hct
        have hSl : S.length = n.nexts.length := by omega
        dsimp only [RSt.at, List.cons_append, List.nil_append]
        repeat' (first | refine QS.blockN ?_)
        exact QS.loopX ((c, P)) (by exact (⟨by rw [hP', down_len hSl, hS], by rw [hP']; exact le2_zip hS2, fun h => (by obtain ⟨m', q1, q2, q3⟩ := sink_step hSl hm1 (of_decide_eq_true (hc'.symm.trans h)); exact ⟨m', by rw [hP']; exact q1, by rw [hP', ← q3]; exact hm2⟩), fun h => (by have q := of_decide_eq_false (hc'.symm.trans h); rw [Classical.not_not] at q; rw [← hm2, hP', q, sink_of_fix q])⟩)) (by exact (by cases c with | false => simp [hct] | true => (obtain ⟨m', q1, q2, q3⟩ := sink_step hSl hm1 (of_decide_eq_true hc'.symm); rw [hct, hP']; simpa using q2)))
    · rename_i hcf
      refine QS.retRS (by rfl) fun st hs => ?_
      have hg := (hs.obj 1 b5 _ rfl).1
      obtain ⟨tk, st2, hz⟩ := freeze_two (k := .i64) (i := 0) hg (show (S.map bitAV).length = a.length by rw [List.length_map, hS])
      refine ⟨_, st2, hz, ?_, ?_⟩
      · unfold stuckAV
        rw [if_pos hV, ← hno hcf]
        have hp := plain_vs bit_plain 1 tk S
        simp only [AV.plain, AV.plainL] at hp ⊢
        rw [hp]
        have : S ≠ [] := fun e => by rw [e, ← hA] at hS; simp at hS
        congr 1
        congr 1
        unfold GSl.av GSl.of
        cases S with
        | nil => exact absurd rfl this
        | cons y S => rfl
      · simp only [AV.free, AV.freeL, Bool.and_true]
        exact freeL_map bit_free S
theorem con23 (h1 : pr 23 = none) (h48 : pr 48 = none) (h90 : pr 90 = none) (h31 : Has pr 31 Rel31) (h122 : Has pr 122 Rel122) (h92 : Has pr 92 Rel92) (h123 : pr 123 = some (tabPrim tab123)) : Con2 (En pr) 23 Rel23 :=
  con_ofz (fun d => by simp [AV.freeL, net_free]) fun d hd st => run23 h1 h48 h90 h31 h122 h92 h123 d hd.1 hd.2 st
end
end Go.OptEnv

namespace Go.OptEnv
open Go Go.Proofs Go.Abs Go.RowKit Go.NetM
set_option maxRecDepth 10000
def keepB (S : List UInt8) : List Bool := S.map fun b => decide (b = 2)
def litB (S : List UInt8) : List Int := S.map fun b => (b.toNat : Int)
def standB (S : List UInt8) : List Int := S.map fun b => if b = 2 then -1 else (b.toNat : Int)
theorem sink_le2 {gs : List (Int × Int)} {nins : Nat} {next : List Int} : ∀ (m : Nat) (S : List UInt8), le2 S = true → le2 (sinkM gs nins next m S) = true
  | 0, _, h => h
  | m + 1, S, h => by
    simp only [sinkM]
    split
    · exact h
    · exact sink_le2 m _ (le2_zip h)
theorem stuck_le2 {n : GNet} (hv : validM n = true) : le2 n.stuck = true := by
  have v := validM_iff.1 hv
  exact sink_le2 _ _ (by simpa [le2, GNet.inits, List.all_map, Function.comp] using v.inits)
theorem stuck_len (n : GNet) : n.stuck.length = n.regs.xs.length := by
  have h := (sink_fix (gs := n.gates.xs) (nins := n.ins.xs.length) (next := n.nexts) n.inits.length n.inits (by simp [GNet.inits, GNet.nexts]) (knownN_le _)).2
  unfold GNet.stuck stuckM
  rw [h]; simp [GNet.nexts]
theorem keepB_get {S : List UInt8} {i : Nat} (h : i < S.length) : (keepB S).getD i false = decide (S[i] = 2) := by
  unfold keepB
  rw [List.getD_eq_getElem?_getD, List.getElem?_map, List.getElem?_eq_getElem h]; rfl
theorem litB_get {S : List UInt8} {i : Nat} (h : i < S.length) : (litB S).getD i 0 = (S[i].toNat : Int) := by
  unfold litB
  rw [List.getD_eq_getElem?_getD, List.getElem?_map, List.getElem?_eq_getElem h]; rfl
theorem standB_get {S : List UInt8} {i : Nat} (h : i < S.length) : (standB S).getD i 0 = if S[i] = 2 then -1 else (S[i].toNat : Int) := by
  unfold standB
  rw [List.getD_eq_getElem?_getD, List.getElem?_map, List.getElem?_eq_getElem h]; rfl
theorem lit_stand {n : GNet} (hv : validM n = true) : Stand n.k0 n.regs.xs.length (keepB n.stuck) (litB n.stuck) := fun i hi hk => by
  have hl := stuck_len n
  have h2 := stuck_le2 hv
  rw [keepB_get (by omega)] at hk
  have hk := of_decide_eq_false hk
  have hk0 := k0_pos n
  have hb : (n.stuck[i]'(by omega)).toNat ≤ 2 := by
    have := List.all_eq_true.1 h2 _ (List.getElem_mem (l := n.stuck) (n := i) (by omega))
    exact of_decide_eq_true this
  have hn2 : (n.stuck[i]'(by omega)).toNat ≠ 2 := fun e => hk (UInt8.toNat_inj.1 e)
  rw [litB_get (by omega)]
  refine ⟨by omega, by omega, .inl (by omega)⟩
theorem fillZ_congr {z : Int} {k0 n : Nat} {keep : List Bool} {l l' : List Int} (h : ∀ i, i < n → keep.getD i false = false → l.getD i 0 = l'.getD i 0) : ∀ i, i ≤ n → fillZ z k0 n keep l i = fillZ z k0 n keep l' i
  | 0, _ => rfl
  | i + 1, hi => by
    have ih := fillZ_congr (z := z) (k0 := k0) h i (by omega)
    unfold fillZ
    split
    · exact ih
    · rename_i hk
      rw [ih, h i (by omega) (by simpa using hk)]
theorem without_congr {n : GNet} {keep : List Bool} {l l' : List Int} (h : ∀ i, i < n.regs.xs.length → keep.getD i false = false → l.getD i 0 = l'.getD i 0) : withoutN n keep l = withoutN n keep l' := by
  unfold withoutN rawNS againL
  rw [fillZ_congr h _ (Nat.le_refl _)]
theorem stand_lit (n : GNet) : withoutN n (keepB n.stuck) (standB n.stuck) = withoutN n (keepB n.stuck) (litB n.stuck) := without_congr fun i hi hk => by
  have hl := stuck_len n
  rw [keepB_get (by omega)] at hk
  rw [standB_get (by omega), litB_get (by omega), if_neg (of_decide_eq_false hk)]
theorem stand_stand {n : GNet} (hv : validM n = true) : Stand n.k0 n.regs.xs.length (keepB n.stuck) (standB n.stuck) := fun i hi hk => by
  have hl := stuck_len n
  have h := lit_stand hv i hi hk
  rw [keepB_get (by omega)] at hk
  rw [standB_get (by omega), if_neg (of_decide_eq_false hk), ← litB_get (by omega)]
  exact h
def stayAll (n : GNet) : Prop := ∀ b ∈ n.stuck, b = 2
instance (n : GNet) : Decidable (stayAll n) := inferInstanceAs (Decidable (∀ b ∈ n.stuck, b = 2))
def stepP (n : GNet) : GNet := againN n (keepB n.stuck) (litB n.stuck)
def stepR (n : GNet) : GNet := foldR (withoutN n (keepB n.stuck) (standB n.stuck))
def settleP : Nat → GNet → GNet
  | 0, n => n
  | m + 1, n => if stayAll n then n else settleP m (stepP n)
def settleQ : Nat → GNet → GNet
  | 0, n => n
  | m + 1, n => if stayAll n then n else settleQ m (stepR n)
theorem settleP_stay {n : GNet} (h : stayAll n) : ∀ m, settleP m n = n
  | 0 => rfl
  | m + 1 => by simp only [settleP, if_pos h]
theorem settleQ_stay {n : GNet} (h : stayAll n) : ∀ m, settleQ m n = n
  | 0 => rfl
  | m + 1 => by simp only [settleQ, if_pos h]
theorem SameC.stuck {a b : GNet} (h : SameC a b) : a.stuck = b.stuck := by
  unfold GNet.stuck GNet.nexts GNet.inits
  rw [h.gates, h.ins, h.regs]
theorem SameC.stay {a b : GNet} (h : SameC a b) : stayAll a ↔ stayAll b := by unfold stayAll; rw [h.stuck]
theorem SameC.without {a b : GNet} (h : SameC a b) (keep : List Bool) (lits : List Int) : SameC (withoutN a keep lits) (withoutN b keep lits) := by
  refine ⟨h.ins, ?_, ?_, ?_⟩
  all_goals (unfold withoutN netOf rawNS againL GNet.kk keptL GNet.k0; rw [h.ins, h.regs, h.gates])
  rw [h.outs]
theorem SameC.foldR {a b : GNet} (h : SameC a b) : SameC (foldR a) (foldR b) := (fold_same h).trans (fold_same (SameC.refl b)).symm
theorem step_same {a b : GNet} (h : SameC a b) (hv : validM a = true) : SameC (stepP a) (stepR b) := by
  unfold stepP stepR
  rw [← h.stuck]
  refine (again_fold hv (lit_stand hv)).trans ?_
  rw [← stand_lit a]
  exact (h.without _ _).foldR
theorem clean_same (n : GNet) : (cleanN n).regs.xs.length = n.regs.xs.length ∧ (cleanN n).ins.xs = n.ins.xs := by
  obtain ⟨e1, e2, _, _⟩ := lay_xs (n := n) (s := cleanS n)
  exact ⟨by show (layN n (cleanS n)).regs.xs.length = _; rw [e2, List.length_map], e1⟩
theorem pick_lt {keep : List Bool} {α : Type} {l : List α} : ∀ i, i ≤ l.length → (∃ j, j < i ∧ keep.getD j false = false) → (pickL 0 keep l i).length < i
  | 0, _, h => by obtain ⟨j, hj, _⟩ := h; omega
  | i + 1, hi, h => by
    have hle : (pickL 0 keep l i).length ≤ i := by
      rw [pick_cnt (z := 0) (k0 := 0) i (by omega)]; exact selZ_le _
    rw [pickL_succ (by omega), Nat.zero_add]
    cases hk : keep.getD i false with
    | true =>
      rw [if_pos rfl, List.length_append, List.length_singleton]
      obtain ⟨j, hj, hf⟩ := h
      have : j ≠ i := fun e => by rw [e, hk] at hf; cases hf
      have := pick_lt (keep := keep) (l := l) i (by omega) ⟨j, by omega, hf⟩
      omega
    | false =>
      rw [if_neg (by simp)]
      omega
theorem stepP_regs {n : GNet} (h : ¬ stayAll n) : (stepP n).regs.xs.length < n.regs.xs.length := by
  have e : (stepP n).regs.xs.length = (keptL n (keepB n.stuck)).length := by
    unfold stepP againN
    rw [(clean_same _).1]
    unfold againM netOf
    rw [gof_xs, List.length_map]
  rw [e]
  unfold keptL
  refine pick_lt _ (Nat.le_refl _) ?_
  unfold stayAll at h
  rw [Classical.not_forall] at h
  obtain ⟨b, hb⟩ := h
  rw [Classical.not_imp] at hb
  obtain ⟨i, hi, rfl⟩ := List.getElem_of_mem hb.1
  refine ⟨i, by rw [← stuck_len n]; exact hi, ?_⟩
  rw [keepB_get hi]
  exact decide_eq_false hb.2
theorem stepP_ins (n : GNet) : (stepP n).ins.xs = n.ins.xs := by
  unfold stepP againN
  rw [(clean_same _).2]
  exact clone_xs _
theorem stepP_valid {n : GNet} (hv : validM n = true) : validM (stepP n) = true := clean_valid (again_valid hv (lit_stand hv))
theorem stepP_fits {n : GNet} (hv : validM n = true) (hn : FitsN n) : FitsN (stepP n) := clean_fits (again_valid hv (lit_stand hv)) (again_fits hv hn (lit_stand hv))
theorem settle_same : ∀ (m : Nat) {a b : GNet}, SameC a b → validM a = true → SameC (settleP m a) (settleQ m b)
  | 0, _, _, h, _ => h
  | m + 1, a, b, h, hv => by
    simp only [settleP, settleQ]
    by_cases hs : stayAll a
    · rw [if_pos hs, if_pos (h.stay.1 hs)]; exact h
    · rw [if_neg hs, if_neg (fun c => hs (h.stay.2 c))]
      exact settle_same m (step_same h hv) (stepP_valid hv)
theorem settleP_fits : ∀ (m : Nat) {a : GNet}, validM a = true → FitsN a → FitsN (settleP m a)
  | 0, _, _, h => h
  | m + 1, a, hv, h => by
    simp only [settleP]
    split
    · exact h
    · exact settleP_fits m (stepP_valid hv) (stepP_fits hv h)
end Go.OptEnv

namespace Go.Abs
section
variable {E : Env} {N : Nat} {l : List (Nat × AV)} {L X : List (Nat × AObj)} {K Y : List (Nat × Bool)} {pol : Nat → Nat} {ops : Array Oper} {r : List Oper} {i : Nat} {d : Nat} {ty : TypeId} {pos : String} {after : Array Edge} {guard : Option (Nat × Bool)}
variable {k : List (Nat × AV) → List (Nat × AObj) → List (Nat × Bool) → Prop}
end
end Go.Abs

namespace Go.Abs
section
variable {E : Env} {fid N : Nat} {l : List (Nat × AV)} {L : List (Nat × AObj)} {K : List (Nat × Bool)} {Q : AExit → TM → St → Prop} {pol : Nat → Nat} {ops : Array Oper} {r : List Oper} {i b d : Nat} {o : Oper}
def RunsM (E : Env) (ops : Array Oper) (pol : Nat → Nat) (N : Nat) (L : List (Nat × AObj)) (K : List (Nat × Bool)) (b : Nat) (r : List Oper) (i : Nat) (l : List (Nat × AV)) (vs : List AV) (l' : List (Nat × AV)) : Prop :=
  ∀ (call : Call1) (tm : TM) (st : St), Fa N l L K tm st → ∃ tr tm', runOpsT E call (some (b, true)) pol ops r i tm st = some (tr, tm', st) ∧ tr.map (·.v) = vs ∧ Fa N l' L K tm' st
theorem RunsM.nil : RunsM E ops pol N L K b [] i l [] l := fun _ tm st hF => ⟨[], tm, rfl, rfl, hF⟩
theorem RunsM.step {v : AV} {vs : List AV} {l' : List (Nat × AV)} (hw : wantS ops l o = some true) (hd : o.dst = some d) (hn : Nat.blt d N = true) (hs : ∀ (call : Call1) (tm : TM) (st : St), Fa N l L K tm st → stepPre E call (some (b, true)) (pol i) i tm st o = some (v, st)) (h : RunsM E ops pol N L K b r (i + 1) ((d, v) :: l) vs l') : RunsM E ops pol N L K b (o :: r) i l (v :: vs) l' := by
  intro call tm st hF
  obtain ⟨tr, tm', h1, h2, h3⟩ := h call (tm.put d v) st (hF.put hn v)
  refine ⟨⟨tm, st, st, v, true⟩ :: tr, tm', ?_, by simp [h2], h3⟩
  simp only [runOpsT]
  rw [hF.want hw]
  dsimp only
  rw [hs call tm st hF, hd]
  dsimp only [putO]
  rw [h1]
theorem RunsM.quiet {v : AV} {vs : List AV} {l' : List (Nat × AV)} (hw : wantS ops l o = some true) (hd : o.dst = some d) (hn : Nat.blt d N = true) (hl : isLoud o.op = false) (hq : ∀ tm st, Fa N l L K tm st → Abs.quiet E tm st o = some v) (h : RunsM E ops pol N L K b r (i + 1) ((d, v) :: l) vs l') : RunsM E ops pol N L K b (o :: r) i l (v :: vs) l' :=
  .step hw hd hn (fun _ tm st hF => stepPre_quiet hl (hq tm st hF)) h
theorem RunsM.make {t e : TypeId} {x : Operand} {ty : TypeId} {pos : String} {after : Array Edge} {guard : Option (Nat × Bool)} {y et : Ty} {n : Nat} {vs : List AV} {l' : List (Nat × AV)} (hw : wantS ops l { dst := some d, op := .makeSlice t x x, type := ty, pos := pos, after := after, guard := guard } = some true) (hn : Nat.blt d N = true) (hx : evL l x = some (.int .i64 (n : Int))) (hc : isConstO x = false) (ht : E.ty t = some y) (hd : y.d = .slice e) (he : E.ty e = some et) (hs : Nat.blt 0 et.size = true) (hroom : roomA et n = true)
    (h : RunsM E ops pol N L K b r (i + 1) ((d, .sl et.size (b + i) 0 n) :: l) vs l') : RunsM E ops pol N L K b ({ dst := some d, op := .makeSlice t x x, type := ty, pos := pos, after := after, guard := guard } :: r) i l (.sl et.size (b + i) 0 n :: vs) l' := by
  refine .step hw rfl hn (fun call tm st hF => ?_) h
  have e0 : stepPre E call (some (b, true)) (pol i) i tm st { dst := some d, op := .makeSlice t x x, type := ty, pos := pos, after := after, guard := guard } = (makePre E (b + i) (isConstO x) t (evalO tm x) (evalO tm x)).map fun v => (v, st) := rfl
  rw [e0]
  unfold makePre
  rw [ht, hF.ev hx, hc]
  dsimp only
  rw [hd]
  dsimp only
  rw [he]
  dsimp only
  rw [if_pos ⟨⟨Eq.mp Nat.blt_eq hs, by omega, by omega, by simpa using hroom⟩, rfl⟩]
  simp
theorem runOpsT_take {call : Call1} {pre : Pre} : ∀ (m : Nat) (r : List Oper) (i : Nat) (tm : TM) (st : St) {tr : List Tr} {tm' : TM} {st' : St}, runOpsT E call pre pol ops r i tm st = some (tr, tm', st') → ∃ q, runOpsT E call pre pol ops (r.take m) i tm st = some (tr.take m, q)
  | 0, _, _, tm, st, _, _, _, _ => ⟨(tm, st), by simp [runOpsT]⟩
  | m + 1, [], i, tm, st, tr, tm', st', h => by
    simp only [runOpsT, Option.some.injEq, Prod.mk.injEq] at h
    obtain ⟨rfl, rfl, rfl⟩ := h
    exact ⟨_, by simp [runOpsT]; rfl⟩
  | m + 1, o :: r, i, tm, st, tr, tm', st', h => by
    simp only [runOpsT, List.take_succ_cons] at h ⊢
    split at h
    · rename_i hw
      split at h
      · rename_i v s1 hs
        split at h
        · rename_i l q hq
          simp only [Option.some.injEq, Prod.mk.injEq] at h
          obtain ⟨rfl, rfl⟩ := h
          obtain ⟨q', hq'⟩ := runOpsT_take m r (i + 1) _ _ hq
          exact ⟨q', by rw [hq']; rfl⟩
        · cases h
      · cases h
    · rename_i hw
      split at h
      · rename_i l q hq
        simp only [Option.some.injEq, Prod.mk.injEq] at h
        obtain ⟨rfl, rfl⟩ := h
        obtain ⟨q', hq'⟩ := runOpsT_take m r (i + 1) _ _ hq
        exact ⟨q', by rw [hq']; rfl⟩
      · cases h
    · cases h
theorem Fa.layAt {tm : TM} {st : St} (h : Fa N l L K tm st) {k : Nat} (hk : k < st.next) (hf : ∀ (j c : Nat) (o : AObj), L[j]? = some (c, o) → c ≠ k) (ob : AObj) : Fa N l ((k, ob) :: L) K tm (st.put k ob) := by
  refine ⟨h.n, h.get, fun j c o' hj => ?_, fun j j' c o1 o2 hj hj' => ?_, fun j t hj => ⟨(h.tok j t hj).1, (h.tok j t hj).2⟩, h.uniqT⟩
  · cases j with
    | zero =>
      simp only [List.getElem?_cons_zero, Option.some.injEq, Prod.mk.injEq] at hj
      obtain ⟨rfl, rfl⟩ := hj
      exact ⟨by simp, hk⟩
    | succ j =>
      simp only [List.getElem?_cons_succ] at hj
      have h1 := h.obj j c o' hj
      refine ⟨?_, h1.2⟩
      rw [St.get_put, if_neg (fun e => hf j c o' hj e.symm)]
      exact h1.1
  · cases j with
    | zero =>
      simp only [List.getElem?_cons_zero, Option.some.injEq, Prod.mk.injEq] at hj
      cases j' with
      | zero => rfl
      | succ j' =>
        simp only [List.getElem?_cons_succ] at hj'
        exact absurd hj.1.symm (hf j' c o2 hj')
    | succ j =>
      simp only [List.getElem?_cons_succ] at hj
      cases j' with
      | zero =>
        simp only [List.getElem?_cons_zero, Option.some.injEq, Prod.mk.injEq] at hj'
        exact absurd hj'.1.symm (hf j c o1 hj)
      | succ j' =>
        simp only [List.getElem?_cons_succ] at hj'
        rw [h.uniq j j' c o1 o2 hj hj']
theorem fill_skip {b i : Nat} {o : Oper} {r : List Oper} {e : Tr} {q : List Tr} {s : St} (h : isMake o.op = false) : fillMakes E b (o :: r) (e :: q) i s = fillMakes E b r q (i + 1) s := by
  show (match o.op, e.v with
    | .makeSlice t _ _, .sl sz _ _ n =>
      match E.ty t with
      | some ty =>
        match ty.d with
        | .slice a => match E.ty a with | some et => fillMakes E b r q (i + 1) (s.put (b + i) (.row sz (List.replicate n et.zeroV))) | none => fillMakes E b r q (i + 1) s
        | _ => fillMakes E b r q (i + 1) s
      | none => fillMakes E b r q (i + 1) s
    | .makeMap t none, .map _ =>
      match E.ty t with
      | some ty =>
        match ty.d with
        | .map kt et => fillMakes E b r q (i + 1) (s.put (b + i) (.map kt et []))
        | _ => fillMakes E b r q (i + 1) s
      | none => fillMakes E b r q (i + 1) s
    | _, _ => fillMakes E b r q (i + 1) s) = _
  split
  · rename_i h1 h2; rw [h1] at h; cases h
  · rename_i h1 h2; rw [h1] at h; cases h
  · rfl
theorem makeOk_skip {b i : Nat} {o : Oper} {e : Tr} {s : St} (h : isMake o.op = false) : makeOk E b s i o e = true := by
  unfold makeOk
  split <;> simp_all [isMake]
theorem makeOk_row {b i n : Nat} {o : Oper} {e : Tr} {s : St} {t a : TypeId} {x c : Operand} {y et : Ty} (ho : o.op = .makeSlice t x c) (hv : e.v = .sl et.size (b + i) 0 n) (ht : E.ty t = some y) (hd : y.d = .slice a) (he : E.ty a = some et) (hg : s.get (b + i) = some (.row et.size (List.replicate n et.zeroV))) : makeOk E b s i o e = true := by
  unfold makeOk
  rw [ho, hv]
  dsimp only
  rw [ht, hg]
  dsimp only
  rw [hd]
  dsimp only
  rw [he]
  simp [AV.beqL_refl]
theorem fill_row {b i n c0 : Nat} {o : Oper} {r : List Oper} {e : Tr} {q : List Tr} {s : St} {t a : TypeId} {x c : Operand} {y et : Ty} (ho : o.op = .makeSlice t x c) (hv : e.v = .sl et.size c0 0 n) (ht : E.ty t = some y) (hd : y.d = .slice a) (he : E.ty a = some et) : fillMakes E b (o :: r) (e :: q) i s = fillMakes E b r q (i + 1) (s.put (b + i) (.row et.size (List.replicate n et.zeroV))) := by
  show (match o.op, e.v with
    | .makeSlice t _ _, .sl sz _ _ n =>
      match E.ty t with
      | some ty =>
        match ty.d with
        | .slice a => match E.ty a with | some et => fillMakes E b r q (i + 1) (s.put (b + i) (.row sz (List.replicate n et.zeroV))) | none => fillMakes E b r q (i + 1) s
        | _ => fillMakes E b r q (i + 1) s
      | none => fillMakes E b r q (i + 1) s
    | .makeMap t none, .map _ =>
      match E.ty t with
      | some ty =>
        match ty.d with
        | .map kt et => fillMakes E b r q (i + 1) (s.put (b + i) (.map kt et []))
        | _ => fillMakes E b r q (i + 1) s
      | none => fillMakes E b r q (i + 1) s
    | _, _ => fillMakes E b r q (i + 1) s) = _
  rw [ho, hv]
  dsimp only
  rw [ht]
  dsimp only
  rw [hd]
  dsimp only
  rw [he]
theorem list8 {tr : List Tr} {v0 v1 v2 v3 v4 v5 v6 v7 : AV} (h : tr.map (·.v) = [v0, v1, v2, v3, v4, v5, v6, v7]) : ∃ e0 e1 e2 e3 e4 e5 e6 e7, tr = [e0, e1, e2, e3, e4, e5, e6, e7] ∧ e2.v = v2 ∧ e5.v = v5 := by
  obtain ⟨e0, tr, rfl, _, h⟩ := List.map_eq_cons_iff.1 h
  obtain ⟨e1, tr, rfl, _, h⟩ := List.map_eq_cons_iff.1 h
  obtain ⟨e2, tr, rfl, h2, h⟩ := List.map_eq_cons_iff.1 h
  obtain ⟨e3, tr, rfl, _, h⟩ := List.map_eq_cons_iff.1 h
  obtain ⟨e4, tr, rfl, _, h⟩ := List.map_eq_cons_iff.1 h
  obtain ⟨e5, tr, rfl, h5, h⟩ := List.map_eq_cons_iff.1 h
  obtain ⟨e6, tr, rfl, _, h⟩ := List.map_eq_cons_iff.1 h
  obtain ⟨e7, tr, rfl, _, h⟩ := List.map_eq_cons_iff.1 h
  obtain rfl := List.map_eq_nil_iff.1 h
  exact ⟨e0, e1, e2, e3, e4, e5, e6, e7, rfl, h2, h5⟩
theorem WS.makes2 {id : Nat} {ops : Array Oper} (hd : E.dyn fid id = []) (hk : E.mks fid id = true) (ho : hasAlloc ops = false) {o0 o1 o2 o3 o4 o5 o6 o7 : Oper} (hops : ops.toList = [o0, o1, o2, o3, o4, o5, o6, o7]) (hend : makeEnd ops.toList 0 0 = 6)
    (s0 : isMake o0.op = false) (s1 : isMake o1.op = false) (s3 : isMake o3.op = false) (s4 : isMake o4.op = false) (s6 : isMake o6.op = false) (s7 : isMake o7.op = false)
    {t2 e2 t5 e5 : TypeId} {x2 c2 x5 c5 : Operand} {y2 et2 y5 et5 : Ty} (p2 : o2.op = .makeSlice t2 x2 c2) (p5 : o5.op = .makeSlice t5 x5 c5) (h2 : E.ty t2 = some y2) (d2 : y2.d = .slice e2) (k2 : E.ty e2 = some et2) (h5 : E.ty t5 = some y5) (d5 : y5.d = .slice e5) (k5 : E.ty e5 = some et5)
    {n m : Nat} {a0 a1 a3 a4 : AV} {v6 v7 : Nat → AV} {l' : Nat → List (Nat × AV)}
    (h : ∀ b, RunsM E ops (E.pol fid id) N L K b ops.toList 0 l [a0, a1, .sl et2.size (b + 2) 0 n, a3, a4, .sl et5.size (b + 5) 0 m, v6 b, v7 b] (l' b))
    (k : ∀ b, QS N .normal (l' b) ((b + 5, .row et5.size (List.replicate m et5.zeroV)) :: (b + 2, .row et2.size (List.replicate n et2.zeroV)) :: L) K Q) : WS E fid N (.region id ops true) l L K Q := by
  intro tm st hF
  have hsz : ops.size = 8 := by have := congrArg List.length hops; simpa using this
  have hF0 := hF.at (m := st.next + ops.size) (by omega)
  have hfree : ∀ (q : Nat), ∀ (j c : Nat) (o : AObj), L[j]? = some (c, o) → c ≠ st.next + q := fun q j c o hj => by have := (hF.obj j c o hj).2; omega
  have hF2 := (hF0.layAt (k := st.next + 2) (by show st.next + 2 < st.next + ops.size; omega) (hfree 2) (.row et2.size (List.replicate n et2.zeroV))).layAt (k := st.next + 5) (by show st.next + 5 < st.next + ops.size; omega) (fun j c o hj => by
    cases j with
    | zero =>
      simp only [List.getElem?_cons_zero, Option.some.injEq, Prod.mk.injEq] at hj
      omega
    | succ j => exact hfree 5 j c o (by simpa using hj)) (.row et5.size (List.replicate m et5.zeroV))
  have hF2' : Fa N l L K tm ((((st.at (st.next + ops.size)).put (st.next + 2) (.row et2.size (List.replicate n et2.zeroV)))).put (st.next + 5) (.row et5.size (List.replicate m et5.zeroV))) := hF2.sub (fun _ _ h => h) (.drop (.drop (.refl _))) (.refl _)
  have hpre : preObjs E st.next ops.toList 0 st.objs = some st.objs := preObjs_none _ _ _ ho
  obtain ⟨tr, tm1, r1, r2, r3⟩ := h st.next (callF E 1) tm _ hF0
  obtain ⟨e0, e1, e2, e3, e4, e5, e6, e7, rfl, g2, g5⟩ := list8 r2
  obtain ⟨q', hq'⟩ := runOpsT_take 6 _ _ _ _ r1
  obtain ⟨tr2, tm2, q1, q2, q3⟩ := h st.next (callF E 1) tm _ hF2'
  obtain ⟨f0, f1, f2, f3, f4, f5, f6, f7, rfl, w2, w5⟩ := list8 q2
  have hfill : ∀ s : St, fillMakes E st.next ops.toList [e0, e1, e2, e3, e4, e5] 0 s = (s.put (st.next + 2) (.row et2.size (List.replicate n et2.zeroV))).put (st.next + 5) (.row et5.size (List.replicate m et5.zeroV)) := fun s => by
    rw [hops, fill_skip s0, fill_skip s1, fill_row p2 g2 h2 d2 k2, fill_skip s3, fill_skip s4, fill_row p5 g5 h5 d5 k5]
    rfl
  have hmk : makesOk E st.next ((((st.at (st.next + ops.size)).put (st.next + 2) (.row et2.size (List.replicate n et2.zeroV)))).put (st.next + 5) (.row et5.size (List.replicate m et5.zeroV))) ops.toList [f0, f1, f2, f3, f4, f5, f6, f7] 0 = true := by
    rw [hops]
    have z2 : makeOk E st.next ((((st.at (st.next + ops.size)).put (st.next + 2) (.row et2.size (List.replicate n et2.zeroV)))).put (st.next + 5) (.row et5.size (List.replicate m et5.zeroV))) 2 o2 f2 = true := makeOk_row p2 w2 h2 d2 k2 (hF2.obj 1 _ _ rfl).1
    have z5 : makeOk E st.next ((((st.at (st.next + ops.size)).put (st.next + 2) (.row et2.size (List.replicate n et2.zeroV)))).put (st.next + 5) (.row et5.size (List.replicate m et5.zeroV))) 5 o5 f5 = true := makeOk_row p5 w5 h5 d5 k5 (hF2.obj 0 _ _ rfl).1
    simp only [makesOk, makeOk_skip s0, makeOk_skip s1, makeOk_skip s3, makeOk_skip s4, makeOk_skip s6, makeOk_skip s7, Nat.zero_add, Nat.reduceAdd, z2, z5, Bool.and_self]
  refine ⟨1, .normal, tm2, _, ?_, k st.next tm2 _ (q3.withS2 hF2.s)⟩
  unfold St.at at hq' q1 hmk
  simp only [exec, execReg, if_true, hpre, hd, hk, hend]
  rw [hq']
  dsimp only [List.take]
  rw [hfill, q1]
  dsimp only
  rw [if_pos (by rw [hmk]; rfl)]
  rfl
end
end Go.Abs
