/- Own text of this claim: part 11 of an interpreter that is proved sound against the model, and of what it shows of the law. -/
import Derived.Test.YthomnnnhkfjbdaaGreatAbs10
import Derived.Test.YthomnnnhkfjbdaaGreatAbs8
import Derived.Test.YthomnnnhkfjbdaaGreatAbs9
namespace Go.OptEnv
open Go Go.Proofs Go.Abs Go.RowKit Go.NetM
set_option maxRecDepth 10000
attribute [local irreducible] WS QS OS OD Abs.Sub SubO SubK CW GSl.av accA growA
structure BArg (L : List (Nat × AObj)) (x : AV) (xs : List UInt8) : Prop where
 str : isStrA x = false
 els : ∃ z, ((xs.map bitAV).isEmpty || Nat.beq z 1) = true /\ ∀ st, SFa L [] st -> elemsA st x = some (z, xs.map bitAV)
 len : ∀ st e, SFa L [] st -> lenT st (.slice e) x = some xs.length
 view : ∃ s : GSl UInt8, s.xs = xs /\ ∀ st, SFa L [] st -> viewA st 9 x = some (s.av 1 bitAV)
theorem BArg.up {p : Nat × AObj} {L : List (Nat × AObj)} {x : AV} {xs : List UInt8} (h : BArg L x xs) : BArg (p :: L) x xs := by
 obtain ⟨h1, ⟨z, h2, h3⟩, h4, s, h5, h6⟩ := h
 exact ⟨h1, ⟨z, h2, fun st hs => h3 st hs.tail⟩, fun st e hs => h4 st e hs.tail, s, h5, fun st hs => h6 st hs.tail⟩
theorem BArg.gsl {L : List (Nat × AObj)} {s : GSl UInt8} : BArg L (s.av 1 bitAV) s.xs :=
 ⟨isStr_gsl, ⟨szOf s 1, szOf_ok, fun st _ => elemsA_gsl st⟩, fun _ _ _ => lenT_av, s, rfl, fun st _ => by rw [viewA_free 8 (free_av bit_free), plain_av bit_plain]⟩
theorem BArg.obj {L : List (Nat × AObj)} {kk b : Nat} {xs : List UInt8} (hL : L[kk]? = some (b, .row 1 (xs.map bitAV))) : BArg L (.sl 1 b 0 xs.length) xs := by
 refine ⟨rfl, ⟨1, by simp [Nat.beq_refl], fun st hs => ?_⟩, fun st e hs => rfl, GSl.some xs, rfl, fun st hs => ?_⟩
 ·have hg := (hs.obj kk b _ hL).1
  simp only [elemsA, hg, List.length_map, Nat.zero_add, Nat.le_refl, if_true, List.drop_zero]
  rw [List.take_of_length_le (by simp)]
 ·have hg := (hs.obj kk b _ hL).1
  have hm : mapO (viewA st 8) (xs.map bitAV) = some (xs.map bitAV) := by
   have := mapO_free (st := st) 7 (xs := xs.map bitAV) (freeL_map bit_free _)
   rwa [plainL_map bit_plain] at this
  have e : viewA st 9 (.sl 1 b 0 xs.length) = (match st.get b with | some (.row sz' zs) => if sz' = 1 /\ 0 + xs.length <= zs.length then (mapO (viewA st 8) ((zs.drop 0).take xs.length)).map (.vs 1 .any ·) else none | _ => none) := rfl
  rw [e, hg]
  dsimp only
  rw [if_pos ⟨rfl, by simp⟩, List.drop_zero, List.take_of_length_le (by simp), hm]
  unfold GSl.av
  rfl
theorem BArg.lenTy {L : List (Nat × AObj)} {x : AV} {xs : List UInt8} (h : BArg L x xs) {E : Env} {t e : TypeId} {y : Ty} (h1 : E.ty t = some y) (h2 : y.d = .slice e) (st : St) (hs : SFa L [] st) : Abs.lenTy E st t x = some (.int .i64 (xs.length : Int)) := by
 unfold Abs.lenTy
 rw [h1]
 dsimp only
 rw [h2, h.len st e hs]
 rfl
theorem BArg.use131 {pr : Prims} {L : List (Nat × AObj)} {x : AV} {xs : List UInt8} (h : BArg L x xs) (h131 : Has pr 131 Rel131) (hl : xs.length <= 140737488355328) {k : Int} {st : St} (hs : SFa L [] st) : primOf Rel131 [x, .int .i64 k] st = some (.bool (decide ((xs.length : Int) = k) && le2 xs), st) := by
 obtain ⟨s, rfl, hv⟩ := h.view
 refine h131.view (a := [s.av 1 bitAV, .int .i64 k]) ?_ ⟨(s, k), hl, rfl, rfl⟩ rfl
 have e2 : viewA st 9 (.int .i64 k) = some (.int .i64 k) := rfl
 simp only [mapO, hv st hs, e2]
section
variable {pr : Prims}
set_option maxHeartbeats 1000000 in
theorem run109o (h1 : pr 109 = none) (h57 : Has pr 57 Rel57) (h131 : Has pr 131 Rel131) (h110 : Has pr 110 Rel110) (h132 : pr 132 = some (tabPrim tab132)) (n : GNet) (hn : FitsN n) (ins : GSl UInt8) (regs : List UInt8) (hi : ins.xs.length <= 100000000000) (hr : regs.length <= 100000000000) {L : List (Nat × AObj)} {RA : AV} (hRA : BArg L RA regs) {st : St} (hS : SFa L [] st) :
  CW (En pr) 109 [netAV n, ins.av 1 bitAV, RA] st fun r st' => ((allR n ins.xs regs = none /\ r = .tup [.nilsl, .int .i64 2]) \/ ∃ v b t, allR n ins.xs regs = some v /\ r = .tup [growA b t 1 (v.map bitAV), .int .i64 0]) /\ SFa L [] st' := by
 have hn' := hn
 obtain ⟨f1, f2, f3, f4, _, _, _, _, _, _⟩ := hn'
 have u1 := use57 h57 hn
 have u2 := fun (k : Int) => use131 h131 (s := ins) (by omega) (k := k)
 obtain ⟨z, hz1, hz2⟩ := hRA.els
 refine CW.startS (N := 71) h1 rfl rfl hS ?_
 repeat' (first | (refine OS.do rfl ?_; first | refine OD.box rfl rfl rfl rfl (net_ok _) rfl (fun b1 => ?_) | refine OD.loadP 0 rfl rfl rfl rfl rfl rfl ?_ | refine OD.auto rfl rfl ?_ | refine OD.len rfl rfl (fun _ => lenTy_av rfl rfl) ?_ | refine OD.call rfl rfl rfl h57.eq u1 (fun _ => rfl) ?_ | refine OD.call rfl rfl rfl h131.eq (u2 _) (fun _ => rfl) ?_ | refine OD.callV rfl rfl rfl h131.eq (fun st hs => hRA.up.use131 h131 (by omega) hs) (fun _ => rfl) ?_ | refine OD.lenG rfl rfl (hRA.up.lenTy rfl rfl) ?_) | refine OS.nil ?_ | refine OS.skip rfl rfl rfl ?_ | refine WS.seq ?_ | refine QS.seqN ?_ | refine WS.region ?_ | refine WS.condT rfl ?_ | refine WS.skip ?_ | refine WS.ret ?_ | refine QS.seqR ?_ | refine WS.condN rfl (fun _ => ?_) (fun _ => ?_) | ((fail_if_success (refine OS.do rfl ?_)); first | refine OS.splitN rfl rfl rfl (fun _ => ?_) (fun _ => ?_)))
 all_goals try (refine QS.retRS (by rfl) fun _ hS => ⟨.inl ⟨allR_no (by first | exact and_f1 (and_f1 (by assumption)) | exact and_f1 (and_f2 (by assumption)) | exact and_f2 (by assumption)), rfl⟩, hS.tail.noK⟩)
 rename_i hV hI hR
 have v := validM_iff.1 hV
 have hil : (ins.xs.length : Int) = n.ins.xs.length := of_decide_eq_true (Bool.and_eq_true _ _ ▸ hI).1
 have hrl : (regs.length : Int) = n.regs.xs.length := of_decide_eq_true (Bool.and_eq_true _ _ ▸ hR).1
 have hi2 : le2 ins.xs = true := (Bool.and_eq_true _ _ ▸ hI).2
 have hr2 : le2 regs = true := (Bool.and_eq_true _ _ ▸ hR).2
 have hgn := v.gatesN
 have l0 : ([0] ++ ins.xs ++ regs : List UInt8) = 0 :: (ins.xs ++ regs) := by simp
 have k0 : le2 ([0] ++ ins.xs ++ regs) = true := by rw [l0]; simpa [le2] using le2_app hi2 hr2
 have hfst : n.first = ([0] ++ ins.xs ++ regs : List UInt8).length := by simp only [GNet.first, List.length_append, List.length_cons, List.length_nil]; omega
 have hcw : IntKind.i64.wrap (IntKind.i64.wrap (IntKind.i64.wrap (1 + (ins.xs.length : Int)) + (regs.length : Int)) + (n.gates.xs.length : Int)) = 1 + ins.xs.length + regs.length + n.gates.xs.length := by
  rw [wrap64 (n := 1 + (ins.xs.length : Int)) (by omega) (by omega), wrap64 (n := 1 + (ins.xs.length : Int) + (regs.length : Int)) (by omega) (by omega)]
  exact wrap64 (by omega) (by omega)
 refine OS.do rfl (OD.makeSlice0 rfl rfl (by rw [hcw]; omega) rfl rfl rfl rfl (roomB rfl (by rw [hcw]; omega)) (fun tk0 => ?_))
 repeat' (first | (refine OS.do rfl ?_; first | refine OD.loadP 0 rfl rfl rfl rfl rfl rfl ?_ | refine OD.auto rfl rfl ?_ | refine OD.len rfl rfl (fun _ => lenTy_av rfl rfl) ?_ | refine OD.appendGS (f := bitAV) (ys := [0]) 0 rfl rfl rfl rfl rfl rfl rfl rfl rfl rfl rfl ⟨_, rfl⟩ (fun _ => ⟨rfl, rfl⟩) (roomB rfl (by simp only [List.length_append, List.length_cons, List.length_nil]; omega)) (fun tk' => ?_) | refine OD.appendG 0 rfl rfl rfl rfl rfl rfl rfl rfl rfl rfl rfl (.inr ⟨⟨_, rfl⟩, rfl⟩) (fun _ => rfl) rfl rfl (roomB rfl (by simp only [List.length_map, List.length_append, List.length_take, List.length_cons, List.length_nil]; omega)) (fun tk' => ?_) | refine OD.appendGF 0 rfl rfl rfl rfl rfl rfl rfl rfl rfl rfl rfl (.inr ⟨⟨_, rfl⟩, hRA.str⟩) (fun st hs => hz2 st hs.tail) (okElems_map (n := 1) rfl (fun _ => ⟨rfl, rfl⟩) _) hz1 (roomB rfl (by simp only [List.length_map, List.length_append, List.length_cons, List.length_nil]; omega)) (fun tk' => ?_)) | refine OS.nil ?_ | refine WS.seq ?_ | refine QS.seqN ?_ | refine WS.region ?_ | refine WS.block ?_)
 rw [<- List.map_append]
 skip
 refine WS.rangeX (A := Bool × Nat × List UInt8) (n := n.gates.xs.length) ⟨53, _, fun a => [(8, growA a.1 a.2.1 1 (a.2.2.map bitAV))], fun _ => (b1, .row 4 [netAV n]) :: L, fun a => [(a.2.1, a.1)], fun i a => a.2.2 = gatesM ([0] ++ ins.xs ++ regs) (n.gates.xs.take i)⟩ ((true || !([ofValue (Value.int IntKind.u8 0)] : List AV).isEmpty || !ins.xs.isEmpty || !(regs.map bitAV).isEmpty, tk', [0] ++ ins.xs ++ regs)) [51, 52] (rfl) ?_ ?_
 ·rintro i ⟨b, tk, w⟩ hi ha
  try dsimp only at ha
  have hwl : w.length = ([0] ++ ins.xs ++ regs : List UInt8).length + i := by rw [ha, gatesM_len, List.length_take]; omega
  have hwb : w.length <= 300000 := by
   have := names_len v.ins
   have := names_len v.regs
   simp only [List.length_map] at this
   rw [hwl]; simp only [List.length_append, List.length_cons, List.length_nil]; omega
  have hw2 : le2 w = true := by rw [ha]; exact gatesM_le2 _ k0
  have hg := gatesOk_take (k := n.first) hi
  have hg2 : gatesOk n.first (n.gates.xs.take (i + 1)) = true := by
   have := v.gates
   rw [<- List.take_append_drop (i + 1) n.gates.xs] at this
   exact gatesOk_app _ _ _ this
  rw [hg2] at hg
  have hg := (Bool.and_eq_true _ _ ▸ hg.symm).2
  have hg1 := lit_of (Bool.and_eq_true _ _ ▸ hg).1
  have hg2 := lit_of (Bool.and_eq_true _ _ ▸ hg).2
  have c1 := use110g h110 (k := n.gates.xs[i].1) (v := w) (b := b) (t := tk) ⟨hg1.1, by omega⟩ (by omega) hw2
  have c2 := use110g h110 (k := n.gates.xs[i].2) (v := w) (b := b) (t := tk) ⟨hg2.1, by omega⟩ (by omega) hw2
  have c3 := use132 (ofL_le2 hw2 n.gates.xs[i].1) (ofL_le2 hw2 n.gates.xs[i].2)
  dsimp only [RSt.at, List.cons_append, List.nil_append]
  repeat' (first | (refine OS.do rfl ?_; first | refine OD.auto rfl rfl ?_ | refine OD.indexAddr rfl rfl rfl (indexAddrA_nat rfl rfl rfl rfl (by first | assumption | exact List.getElem?_eq_getElem (by omega))) ?_ | refine OD.alloc rfl rfl rfl rfl (fun _ => ?_) | refine OD.storeW 0 rfl rfl rfl rfl (by first | rfl | exact net_ok _) rfl rfl rfl ?_) | refine OS.nil ?_ | refine WS.seq ?_ | refine QS.seqN ?_ | refine WS.region ?_)
  refine WS.drawT 10 rfl rfl rfl rfl ?_; (repeat' (first | refine SegT.nil ?_ | refine SegT.auto rfl rfl rfl rfl ?_ | refine SegT.loadP 0 rfl rfl rfl rfl rfl rfl rfl ?_ | refine SegT.loadP 1 rfl rfl rfl rfl rfl rfl rfl ?_ | refine SegT.loadP 2 rfl rfl rfl rfl rfl rfl rfl ?_ | refine SegT.len rfl rfl rfl (fun _ => lenTy_av rfl rfl) ?_ | refine SegT.len rfl rfl rfl (fun _ => rfl) ?_ | refine SegT.indexAddr rfl rfl rfl rfl rfl ?_ | refine SegT.skip rfl rfl rfl ?_ | refine SegT.call rfl rfl rfl rfl h110.eq c1 (fun _ => rfl) ?_ | refine SegT.call rfl rfl rfl rfl h110.eq c2 (fun _ => rfl) ?_ | refine SegT.call rfl rfl rfl rfl h132 c3 (fun _ => rfl) ?_))
  dsimp only [RSt.at, List.cons_append, List.nil_append]
  repeat' (first | (refine OS.do rfl ?_; first | refine OD.auto rfl rfl ?_ | refine OD.appendG 0 rfl rfl rfl rfl rfl rfl rfl rfl rfl rfl rfl (.inr ⟨⟨_, rfl⟩, rfl⟩) (fun _ => rfl) rfl rfl (roomB rfl (by simp only [List.length_map, List.length_append, List.length_take, List.length_cons, List.length_nil]; omega)) (fun tk' => ?_)) | refine OS.nil ?_)
  exact QS.rangeX ((b || true, tk', w ++ [andB (ofL w n.gates.xs[i].1) (ofL w n.gates.xs[i].2)])) (by (try dsimp only) <;> exact (by rw [<- l0, gatesM_take hi, <- ha])) (hl := by (try dsimp only [RSt.at, List.cons_append, List.nil_append]); repeat' (first | exact Sub.nil _ | refine Sub.cons (by rw [List.map_append]; rfl) ?_ | refine Sub.cons (congrArg (fun z => some (AV.int .i64 z)) (wrap_succ (by omega))) ?_ | refine Sub.cons rfl ?_))
 rintro ⟨b, tk, w⟩ ha
 try dsimp only at ha
 rw [List.take_of_length_le (Nat.le_refl _)] at ha
 dsimp only [RSt.at, List.cons_append, List.nil_append]
 repeat' (first | (refine OS.do rfl ?_; first | refine OD.auto rfl rfl ?_) | refine OS.nil ?_ | refine WS.seq ?_ | refine QS.seqN ?_ | refine WS.region ?_ | refine WS.ret ?_)
 refine QS.retRS (by rfl) fun _ hS => ⟨.inr ⟨w, b, tk, ?_, rfl⟩, hS.tail.noK⟩
 rw [allR_yes hV hI hR, ha, l0]; rfl
end
end Go.OptEnv
namespace Go.OptEnv
open Go Go.Proofs Go.Abs Go.RowKit Go.NetM
set_option maxRecDepth 10000
attribute [local irreducible] WS QS OS OD Abs.Sub SubO SubK CW GSl.av accA growA
section
variable {pr : Prims}
set_option maxHeartbeats 1000000 in
theorem run59o (h1 : pr 59 = none) (h109 : pr 109 = none) (h57 : Has pr 57 Rel57) (h131 : Has pr 131 Rel131) (h110 : Has pr 110 Rel110) (h132 : pr 132 = some (tabPrim tab132)) (n : GNet) (hn : FitsN n) (ins : GSl UInt8) (regs : List UInt8) (hi : ins.xs.length <= 100000000000) (hr : regs.length <= 100000000000) {L : List (Nat × AObj)} {RA : AV} (hRA : BArg L RA regs) {st : St} (hS : SFa L [] st) :
  CW (En pr) 59 [netAV n, ins.av 1 bitAV, RA] st fun r st' => ((evalR n ins.xs regs = none /\ r = .tup [.nilsl, .nilsl, .int .i64 2]) \/ ∃ o x t u, evalR n ins.xs regs = some (o, x) /\ r = .tup [accA t 1 (o.map bitAV), accA u 1 (x.map bitAV), .int .i64 0]) /\ SFa L [] st' := by
 have hn' := hn
 obtain ⟨f1, f2, f3, f4, _, _, _, _, _, _⟩ := hn'
 have u1 := fun (p : Nat × AObj) (st : St) (hs : SFa (p :: L) [] st) => run109o h109 h57 h131 h110 h132 n hn ins regs hi hr (hRA.up (p := p)) hs
 unfold evalR
 cases hx : allR n ins.xs regs with
 | none =>
  have c1 : ∀ (p : Nat × AObj) (st : St), SFa (p :: L) [] st -> CW (En pr) 109 [netAV n, ins.av 1 bitAV, RA] st fun x st' => x = .tup [.nilsl, .int .i64 2] /\ SFa (p :: L) [] st' := fun p st hs => (u1 p st hs).mono fun x st' h => And.intro (by
   rcases h.1 with ⟨_, h⟩ | ⟨v, b, t, h, _⟩
   ·exact h
   ·exact absurd (hx.symm.trans h) (by simp)) h.2
  refine CW.startS (N := 56) h1 rfl rfl hS ?_
  repeat' (first | (refine OS.do rfl ?_; first | refine OD.box rfl rfl rfl rfl (net_ok _) rfl (fun b1 => ?_) | refine OD.loadP 0 rfl rfl rfl rfl rfl rfl ?_ | refine OD.auto rfl rfl ?_ | refine OD.callS rfl rfl rfl (c1 _) (fun _ => rfl) ?_) | refine OS.nil ?_ | refine WS.seq ?_ | refine QS.seqN ?_ | refine WS.region ?_ | refine WS.condT rfl ?_ | refine WS.ret ?_ | refine QS.seqR ?_)
  refine QS.retRS (by rfl) fun _ hS => ⟨.inl ⟨rfl, rfl⟩, hS.tail⟩
 | some v =>
  rw [hx] at u1
  obtain ⟨hv, _, _, _, _, _, hv2, hvl⟩ := allR_spec hx
  have hgn := hv.gatesN
  have hvb : v.length <= 300000 := by
   have := names_len hv.ins
   have := names_len hv.regs
   simp only [List.length_map, GNet.nodes, GNet.first] at *
   omega
  have hol : n.outs.xs.length <= 500 := by have := names_len hv.outs; simpa using this
  have hrl : n.regs.xs.length <= 500 := by have := names_len hv.regs; simpa using this
  have c1 : ∀ (p : Nat × AObj) (st : St), SFa (p :: L) [] st -> CW (En pr) 109 [netAV n, ins.av 1 bitAV, RA] st fun x st' => (∃ b t, x = .tup [growA b t 1 (v.map bitAV), .int .i64 0]) /\ SFa (p :: L) [] st' := fun p st hs => (u1 p st hs).mono fun x st' h => And.intro (by
   rcases h.1 with ⟨h, _⟩ | ⟨v', b, t, h, h'⟩
   ·exact absurd h (by simp)
   ·rw [Option.some.injEq] at h; subst h; exact ⟨b, t, h'⟩) h.2
  have hz1 : ∀ (y : AV) (st : St), (∃ b t, y = .tup [growA b t 1 (v.map bitAV), .int .i64 0]) -> freezeA st y = some (y, st) := by
   rintro y st ⟨b, t, rfl⟩
   exact freeze_free (by simp only [AV.free, AV.freeL, free_grow bit_free, Bool.and_true])
  refine CW.startS (N := 56) h1 rfl rfl hS ?_
  repeat' (first | (refine OS.do rfl ?_; first | refine OD.box rfl rfl rfl rfl (net_ok _) rfl (fun b1 => ?_) | refine OD.loadP 0 rfl rfl rfl rfl rfl rfl ?_ | refine OD.auto rfl rfl ?_ | refine OD.len rfl rfl (fun _ => lenTy_av rfl rfl) ?_ | (refine OD.callP (fun x => ∃ b t, x = .tup [growA b t 1 (v.map bitAV), .int .i64 0]) rfl rfl rfl (c1 _) hz1 ?_; rintro y ⟨gb, gt, rfl⟩)) | refine OS.nil ?_ | refine WS.seq ?_ | refine QS.seqN ?_ | refine WS.region ?_ | refine WS.condF rfl ?_ | refine WS.skip ?_ | refine WS.block ?_)
  refine WS.rangeX (A := Nat × List UInt8) (n := n.outs.xs.length) ⟨27, _, fun a => [(6, accA a.1 1 (a.2.map bitAV))], fun _ => (b1, .row 4 [netAV n]) :: L, fun a => [(a.1, !(a.2.map bitAV).isEmpty)], fun i a => a.2 = (n.outs.xs.take i).map (fun p => ofL v p.lit)⟩ ((0, [])) [3, 7, 9, 25, 26] (by simp) ?_ ?_ (hm := by (try dsimp only); repeat' (first | exact Sub.nil _ | refine Sub.cons (congrArg some (accA_nil _ _).symm) ?_ | refine Sub.cons (congrArg (fun z => some (AV.int .i64 z)) (wrap_succ (by omega))) ?_ | refine Sub.cons rfl ?_))
  ·rintro i ⟨tk, a⟩ hi ha
   try dsimp only at ha
   have hal : a.length <= 500 := by rw [ha]; simp only [List.length_map, List.length_take]; omega
   have hl := lit_of (all_get hv.lits hi)
   have c1 := use110g h110 (k := n.outs.xs[i].lit) (v := v) (b := gb) (t := gt) ⟨hl.1, by omega⟩ (by omega) hv2
   dsimp only [RSt.at, List.cons_append, List.nil_append]
   repeat' (first | (refine OS.do rfl ?_; first | refine OD.loadP 0 rfl rfl rfl rfl rfl rfl ?_ | refine OD.auto rfl rfl ?_ | refine OD.indexAddr rfl rfl rfl (indexAddrA_nat rfl rfl rfl rfl (by first | assumption | exact List.getElem?_eq_getElem (by omega))) ?_ | refine OD.alloc rfl rfl rfl rfl (fun _ => ?_) | refine OD.storeW 0 rfl rfl rfl rfl (by first | rfl | exact net_ok _) rfl rfl rfl ?_ | refine OD.call rfl rfl rfl h110.eq c1 (fun _ => rfl) ?_ | refine OD.append 0 rfl rfl rfl rfl rfl rfl rfl rfl rfl rfl rfl (.inr ⟨⟨_, rfl⟩, rfl⟩) (fun _ => rfl) rfl rfl (roomB rfl (by simp only [List.length_map, List.length_append, List.length_take, List.length_cons, List.length_nil]; omega)) (fun tk' => ?_)) | refine OS.nil ?_ | refine WS.seq ?_ | refine QS.seqN ?_ | refine WS.region ?_)
   exact QS.rangeX ((tk', a ++ [ofL v n.outs.xs[i].lit])) (by (try dsimp only) <;> exact (by rw [map_take_succ hi, ha])) (hl := by (try dsimp only [RSt.at, List.cons_append, List.nil_append]); repeat' (first | exact Sub.nil _ | refine Sub.cons (by rw [List.map_append]; rfl) ?_ | refine Sub.cons (congrArg (fun z => some (AV.int .i64 z)) (wrap_succ (by omega))) ?_ | refine Sub.cons rfl ?_))
  rintro ⟨tk, a⟩ ha
  try dsimp only at ha
  rw [List.take_of_length_le (Nat.le_refl _)] at ha
  dsimp only [RSt.at, List.cons_append, List.nil_append]
  repeat' (first | (refine OS.do rfl ?_; first | refine OD.loadP 0 rfl rfl rfl rfl rfl rfl ?_ | refine OD.auto rfl rfl ?_ | refine OD.len rfl rfl (fun _ => lenTy_av rfl rfl) ?_) | refine OS.nil ?_ | refine WS.seq ?_ | refine QS.seqN ?_ | refine WS.region ?_ | refine WS.block ?_)
  refine WS.rangeX (A := Nat × List UInt8) (n := n.regs.xs.length) ⟨42, _, fun a => [(7, accA a.1 1 (a.2.map bitAV))], fun _ => (b1, .row 4 [netAV n]) :: L, fun a => [(a.1, !(a.2.map bitAV).isEmpty)], fun i a => a.2 = (n.regs.xs.take i).map (fun p => ofL v p.next)⟩ ((0, [])) [6, 9, 40, 41] (by simp) ?_ ?_ (hm := by (try dsimp only); repeat' (first | exact Sub.nil _ | refine Sub.cons (congrArg some (accA_nil _ _).symm) ?_ | refine Sub.cons (congrArg (fun z => some (AV.int .i64 z)) (wrap_succ (by omega))) ?_ | refine Sub.cons rfl ?_))
  ·rintro i ⟨tk2, c⟩ hi hc
   try dsimp only at hc
   have hcl : c.length <= 500 := by rw [hc]; simp only [List.length_map, List.length_take]; omega
   have hl := lit_of (all_get hv.nexts hi)
   have c1 := use110g h110 (k := n.regs.xs[i].next) (v := v) (b := gb) (t := gt) ⟨hl.1, by omega⟩ (by omega) hv2
   dsimp only [RSt.at, List.cons_append, List.nil_append]
   repeat' (first | (refine OS.do rfl ?_; first | refine OD.loadP 0 rfl rfl rfl rfl rfl rfl ?_ | refine OD.auto rfl rfl ?_ | refine OD.indexAddr rfl rfl rfl (indexAddrA_nat rfl rfl rfl rfl (by first | assumption | exact List.getElem?_eq_getElem (by omega))) ?_ | refine OD.alloc rfl rfl rfl rfl (fun _ => ?_) | refine OD.storeW 0 rfl rfl rfl rfl (by first | rfl | exact net_ok _) rfl rfl rfl ?_ | refine OD.call rfl rfl rfl h110.eq c1 (fun _ => rfl) ?_ | refine OD.append 0 rfl rfl rfl rfl rfl rfl rfl rfl rfl rfl rfl (.inr ⟨⟨_, rfl⟩, rfl⟩) (fun _ => rfl) rfl rfl (roomB rfl (by simp only [List.length_map, List.length_append, List.length_take, List.length_cons, List.length_nil]; omega)) (fun tk' => ?_)) | refine OS.nil ?_ | refine WS.seq ?_ | refine QS.seqN ?_ | refine WS.region ?_)
   exact QS.rangeX ((tk', c ++ [ofL v n.regs.xs[i].next])) (by (try dsimp only) <;> exact (by rw [map_take_succ hi, hc])) (hl := by (try dsimp only [RSt.at, List.cons_append, List.nil_append]); repeat' (first | exact Sub.nil _ | refine Sub.cons (by rw [List.map_append]; rfl) ?_ | refine Sub.cons (congrArg (fun z => some (AV.int .i64 z)) (wrap_succ (by omega))) ?_ | refine Sub.cons rfl ?_))
  rintro ⟨tk2, c⟩ hc
  try dsimp only at hc
  rw [List.take_of_length_le (Nat.le_refl _)] at hc
  dsimp only [RSt.at, List.cons_append, List.nil_append]
  repeat' (first | (refine OS.do rfl ?_; first | refine OD.auto rfl rfl ?_) | refine OS.nil ?_ | refine WS.seq ?_ | refine QS.seqN ?_ | refine WS.region ?_ | refine WS.ret ?_)
  refine QS.retRS (by rfl) fun _ hS => ⟨.inr ⟨a, c, tk, tk2, ?_, rfl⟩, hS.tail.noK⟩
  rw [ha, hc]; rfl
end
end Go.OptEnv
namespace Go.OptEnv
open Go Go.Proofs Go.Abs Go.RowKit Go.NetM
set_option maxRecDepth 100000
def row58 (c : Nat) : List AV × AV := ([.vs 1 .any [.int .u8 2], .int .i64 (c : Int)], .vs 1 .any (List.replicate c (.int .u8 2)))
def tab58 : List (List AV × AV) := (List.range 121).map row58
noncomputable def runs58 (a b : Nat) : Bool := (List.range' a b).all fun c => runIs (En ap0) 2000 58 (row58 c).1 (row58 c).2
theorem runs58_a : runs58 0 31 = true := by kernel_rfl
theorem runs58_b : runs58 31 30 = true := by kernel_rfl
theorem runs58_c : runs58 61 30 = true := by kernel_rfl
theorem runs58_d : runs58 91 30 = true := by kernel_rfl
theorem runs58_at {a b c : Nat} (h : runs58 a b = true) (h1 : a <= c) (h2 : c < a + b) : runIs (En ap0) 2000 58 (row58 c).1 (row58 c).2 = true := by
 refine List.all_eq_true.1 h c ?_
 rw [List.mem_range'_1]; omega
theorem tabok58 : TabOk (En ap0) 58 tab58 := by
 intro e he
 obtain ⟨c, hc, rfl⟩ := List.mem_map.1 he
 have hc : c < 121 := List.mem_range.1 hc
 refine ⟨2000, ?_⟩
 by_cases h1 : c < 31
 ·exact runs58_at runs58_a (by omega) (by omega)
 ·by_cases h2 : c < 61
  ·exact runs58_at runs58_b (by omega) (by omega)
  ·by_cases h3 : c < 91
   ·exact runs58_at runs58_c (by omega) (by omega)
   ·exact runs58_at runs58_d (by omega) (by omega)
def find58 (c : Nat) : Bool := match tabFind tab58 (row58 c).1 with | some r => AV.beq r (row58 c).2 | none => false
theorem found58 : ((List.range 121).all find58) = true := by kernel_rfl
theorem use58 {c : Nat} (h : c <= 120) (st : St) : tabPrim tab58 [.vs 1 .full [.int .u8 2], .int .i64 (c : Int)] st = some ((GSl.some (List.replicate c 2)).av 1 bitAV, st) := by
 have h1 := List.all_eq_true.1 found58 c (List.mem_range.2 (by omega))
 have e : (GSl.some (List.replicate c (2 : UInt8))).av 1 bitAV = (row58 c).2 := by
  show AV.vs 1 .any ((List.replicate c (2 : UInt8)).map bitAV) = AV.vs 1 .any _
  rw [List.map_replicate]; rfl
 rw [e]
 have e2 : tabPrim tab58 [.vs 1 .full [.int .u8 2], .int .i64 (c : Int)] st = (match tabFind tab58 (row58 c).1 with | some r => some (r, st) | none => none) := rfl
 rw [e2]
 unfold find58 at h1
 split at h1
 ·rename_i r hr
  rw [AV.eq_of_beq _ _ h1]
 ·cases h1
end Go.OptEnv
namespace Go.OptEnv
open Go Go.Proofs Go.Abs Go.RowKit Go.NetM
set_option maxRecDepth 10000
theorem le2_zip {S L : List UInt8} (h : le2 S = true) : le2 (List.zipWith downB S L) = true := by
 induction S generalizing L with
 | nil => rfl
 | cons s S ih =>
  cases L with
  | nil => rfl
  | cons b L =>
   simp only [le2, List.all_cons, Bool.and_eq_true, decide_eq_true_eq] at h
   simp only [List.zipWith_cons_cons, le2, List.all_cons, Bool.and_eq_true, decide_eq_true_eq]
   refine ⟨?_, ih h.2⟩
   unfold downB
   split
   ·decide
   ·exact h.1
theorem sink_of_fix {gs : List (Int × Int)} {nins : Nat} {next : List Int} {S : List UInt8} (h : downM gs nins next S = S) : ∀ m, sinkM gs nins next m S = S
 | 0 => rfl
 | m + 1 => by simp only [sinkM, if_pos h]
theorem sink_step {gs : List (Int × Int)} {nins : Nat} {next : List Int} {S : List UInt8} {m : Nat} (hl : S.length = next.length) (hk : knownN S <= m) (h : downM gs nins next S ≠ S) :
  ∃ m', knownN (downM gs nins next S) <= m' /\ knownN (downM gs nins next S) < knownN S /\ sinkM gs nins next m S = sinkM gs nins next m' (downM gs nins next S) := by
 have h1 := (knownN_zip S (litsB gs (List.replicate nins 2) S next) (by rw [litsB_len, hl])).2 h
 have h1 : knownN (downM gs nins next S) < knownN S := h1
 cases m with
 | zero => omega
 | succ m => exact ⟨m, by omega, h1, by simp only [sinkM, if_neg h]⟩
def partM (S X : List UInt8) (i : Nat) : List UInt8 := List.zipWith downB (S.take i) (X.take i) ++ S.drop i
theorem part_len {S X : List UInt8} {i : Nat} (h : X.length = S.length) (hi : i <= S.length) : (partM S X i).length = S.length := by
 simp only [partM, List.length_append, List.length_zipWith, List.length_take, List.length_drop]
 omega
theorem part_get {S X : List UInt8} {i : Nat} (h : X.length = S.length) (hi : i < S.length) : (partM S X i)[i]? = some S[i] := by
 have hz : (List.zipWith downB (S.take i) (X.take i)).length = i := by
  simp only [List.length_zipWith, List.length_take]; omega
 unfold partM
 rw [List.getElem?_append_right (by omega), hz, Nat.sub_self, List.getElem?_drop, Nat.add_zero, List.getElem?_eq_getElem hi]
theorem part_succ {S X : List UInt8} {i : Nat} (h : X.length = S.length) (hi : i < S.length) : partM S X (i + 1) = (partM S X i).set i (downB S[i] (X[i]'(by omega))) := by
 have hz : (List.zipWith downB (S.take i) (X.take i)).length = i := by
  simp only [List.length_zipWith, List.length_take]; omega
 unfold partM
 rw [List.take_succ_eq_append_getElem hi, List.take_succ_eq_append_getElem (l := X) (by omega), List.zipWith_append (by simp only [List.length_take]; omega), List.set_append_right _ _ (by rw [hz]; exact Nat.le_refl _), hz, Nat.sub_self, List.drop_eq_getElem_cons hi]
 simp only [List.zipWith_cons_cons, List.zipWith_nil_left, List.append_assoc, List.cons_append, List.nil_append, List.set_cons_zero]
theorem part_zero {S X : List UInt8} : partM S X 0 = S := by simp [partM]
theorem part_all {S X : List UInt8} (h : X.length = S.length) : partM S X S.length = List.zipWith downB S X := by
 unfold partM
 rw [List.take_of_length_le (Nat.le_refl _), List.take_of_length_le (by omega), List.drop_eq_nil_of_le (Nat.le_refl _), List.append_nil]
theorem part_same {S X : List UInt8} {i : Nat} (h : X.length = S.length) (hi : i < S.length) (hs : S[i] = 2 \/ S[i] = X[i]'(by omega)) : partM S X (i + 1) = partM S X i := by
 rw [part_succ h hi]
 have : downB S[i] (X[i]'(by omega)) = S[i] := by
  unfold downB
  rw [if_neg (by rintro ⟨h1, h2⟩; rcases hs with h | h; exact h1 h; exact h2 h)]
 rw [this]
 exact set_same (part_get h hi)
theorem part_down {S X : List UInt8} {i : Nat} (h : X.length = S.length) (hi : i < S.length) (h1 : S[i] ≠ 2) (h2 : S[i] ≠ X[i]'(by omega)) : partM S X (i + 1) = (partM S X i).set i 2 /\ partM S X (i + 1) ≠ S := by
 have e : downB S[i] (X[i]'(by omega)) = 2 := by
  unfold downB
  rw [if_pos ⟨h1, h2⟩]
 have e1 := part_succ h hi
 rw [e] at e1
 refine ⟨e1, fun hc => ?_⟩
 have : (partM S X (i + 1))[i]? = some 2 := by
  rw [e1, List.getElem?_set, if_pos rfl, if_pos (by rw [part_len h (by omega)]; exact hi)]
 rw [hc, List.getElem?_eq_getElem hi] at this
 exact h1 (Option.some.inj this)
theorem u8_ne {a b : UInt8} (h : (a.toNat : Int) ≠ b.toNat) : a ≠ b := fun e => h (by rw [e])
theorem u8_eq {a b : UInt8} (h : (a.toNat : Int) = b.toNat) : a = b := UInt8.toNat_inj.1 (by omega)
theorem freeze_two {st : St} {sz b n : Nat} {xs : List AV} {k : IntKind} {i : Int} (hg : st.get b = some (.row sz xs)) (hn : xs.length = n) : ∃ tk st', freezeA st (.tup [.sl sz b 0 n, .int k i]) = some (.tup [.vs sz (.tok tk) xs, .int k i], st') := by
 refine ⟨st.next, (st.drop b).newTok, ?_⟩
 have e : freezeC st (.sl sz b 0 n) = some (.vs sz (.tok st.next) xs, (st.drop b).newTok) := by
  simp only [freezeC, hg]
  rw [if_pos ⟨trivial, by omega⟩, if_pos (by omega)]
  simp [<- hn]
 simp only [freezeA, freezeM, freezeB, e]
 rfl
def slP (b : Nat) (xs : List UInt8) : AV := match xs with | [] => .nilsl | _ :: _ => .sl 1 b 0 xs.length
def obP (b : Nat) (xs : List UInt8) : List (Nat × AObj) := match xs with | [] => [] | _ :: _ => [(b, .row 1 (xs.map bitAV))]
def GNet.stuck (n : GNet) : List UInt8 := stuckM n.gates.xs n.ins.xs.length n.nexts n.inits
def stuckAV (n : GNet) : AV := if validM n = true then .tup [(GSl.of n.stuck).av 1 bitAV, .int .i64 0] else .tup [.nilsl, .int .i64 2]
def Rel22 : Rel := RelF (fun n : GNet => FitsN n /\ n.ins.xs.length <= 120) (fun n => [netAV n]) stuckAV
attribute [local irreducible] WS QS OS OD Abs.Sub SubO SubK CW GSl.av accA growA
section
variable {pr : Prims}
set_option maxHeartbeats 2000000 in
theorem run22 (h1 : pr 22 = none) (h58 : pr 58 = some (tabPrim tab58)) (h59 : pr 59 = none) (h109 : pr 109 = none) (h57 : Has pr 57 Rel57) (h131 : Has pr 131 Rel131) (h110 : Has pr 110 Rel110) (h132 : pr 132 = some (tabPrim tab132)) (n : GNet) (hn : FitsN n) (hi : n.ins.xs.length <= 120) (st : St) :
  CW (En pr) 22 [netAV n] st fun r st' => ∃ r' st2, freezeA st' r = some (r', st2) /\ AV.plain r' = stuckAV n /\ AV.free r' = true := by
 have hn' := hn
 obtain ⟨f1, f2, f3, f4, _, _, _, _, _, _⟩ := hn'
 have u1 := use57 h57 hn
 refine CW.start (N := 72) h1 rfl rfl ?_
 repeat' (first | (refine OS.do rfl ?_; first | refine OD.box rfl rfl rfl rfl (net_ok _) rfl (fun b1 => ?_) | refine OD.loadP 0 rfl rfl rfl rfl rfl rfl ?_ | refine OD.auto rfl rfl ?_ | refine OD.len rfl rfl (fun _ => lenTy_av rfl rfl) ?_ | refine OD.call rfl rfl rfl h57.eq u1 (fun _ => rfl) ?_ | refine OD.call rfl rfl rfl h58 (use58 hi) (fun _ => by unfold GSl.av; rfl) ?_) | refine OS.nil ?_ | refine WS.seq ?_ | refine QS.seqN ?_ | refine WS.region ?_ | refine WS.skip ?_ | refine WS.block ?_ | refine WS.ret ?_ | refine QS.seqR ?_ | refine WS.condN rfl (fun _ => ?_) (fun _ => ?_))
 ·rename_i hv
  exact QS.retR (by rfl) fun st => ⟨_, st, rfl, by unfold stuckAV; rw [if_neg (by rw [hv]; simp)]; rfl, rfl⟩
 rename_i hV
 have v := validM_iff.1 hV
 have hrl : n.regs.xs.length <= 500 := by have := names_len v.regs; simpa using this
 refine WS.rangeX (A := Nat × List UInt8) (n := n.regs.xs.length) ⟨25, _, fun a => [(5, slP a.1 a.2)], fun a => obP a.1 a.2 ++ [(b1, .row 4 [netAV n])], fun _ => [], fun i a => a.2 = (n.regs.xs.take i).map (·.init)⟩ ((0, [])) [1, 4, 23, 24] (by simp) ?_ ?_
 ·rintro i ⟨b5, a⟩ hi ha
  try dsimp only at ha
  have hal : a.length <= 500 := by rw [ha]; simp only [List.length_map, List.length_take]; omega
  have ht : (n.regs.xs.take (i + 1)).map (·.init) = a ++ [n.regs.xs[i].init] := by rw [map_take_succ hi, ha]
  cases a with
  | nil =>
   dsimp only [slP, obP]
   dsimp only [RSt.at, List.cons_append, List.nil_append]
   repeat' (first | (refine OS.do rfl ?_; first | refine OD.loadP 0 rfl rfl rfl rfl rfl rfl ?_ | refine OD.auto rfl rfl ?_ | refine OD.indexAddr rfl rfl rfl (indexAddrA_nat rfl rfl rfl rfl (by first | assumption | exact List.getElem?_eq_getElem (by omega))) ?_ | refine OD.alloc rfl rfl rfl rfl (fun _ => ?_) | refine OD.storeW 0 rfl rfl rfl rfl (by first | rfl | exact net_ok _) rfl rfl rfl ?_ | refine OD.appendNilO rfl rfl rfl rfl rfl rfl rfl rfl rfl (.inr ⟨⟨_, rfl⟩, rfl⟩) (fun _ => rfl) rfl rfl (by simp) (roomB rfl (by simp)) (fun b' => ?_)) | refine OS.nil ?_ | refine WS.seq ?_ | refine QS.seqN ?_ | refine WS.region ?_)
   exact QS.rangeX ((b', [n.regs.xs[i].init])) (by (try dsimp only) <;> exact (ht.symm))
  | cons x a =>
   dsimp only [slP, obP]
   dsimp only [RSt.at, List.cons_append, List.nil_append]
   repeat' (first | (refine OS.do rfl ?_; first | refine OD.loadP 0 rfl rfl rfl rfl rfl rfl ?_ | refine OD.auto rfl rfl ?_ | refine OD.indexAddr rfl rfl rfl (indexAddrA_nat rfl rfl rfl rfl (by first | assumption | exact List.getElem?_eq_getElem (by omega))) ?_ | refine OD.alloc rfl rfl rfl rfl (fun _ => ?_) | refine OD.storeW 0 rfl rfl rfl rfl (by first | rfl | exact net_ok _) rfl rfl rfl ?_ | refine OD.appendSl1 (xs := x :: a) (f := bitAV) 1 rfl rfl rfl rfl rfl rfl rfl rfl rfl rfl ⟨⟨_, rfl⟩, rfl⟩ (fun _ _ => rfl) rfl rfl (roomB rfl (by omega)) (fun b' => ?_)) | refine OS.nil ?_ | refine WS.seq ?_ | refine QS.seqN ?_ | refine WS.region ?_)
   exact QS.rangeX ((b', x :: (a ++ [n.regs.xs[i].init]))) (by (try dsimp only) <;> exact (ht.symm))
 rintro ⟨b5, a⟩ ha
 try dsimp only at ha
 rw [List.take_of_length_le (Nat.le_refl _)] at ha
 have hlen : n.nexts.length = a.length := by rw [ha]; simp [GNet.nexts]
 have hev : ∀ S : List UInt8, S.length = a.length -> le2 S = true -> evalR n (List.replicate n.ins.xs.length 2) S = some (n.outs.xs.map (fun p => ofL (allB n.gates.xs (List.replicate n.ins.xs.length 2) S) p.lit), litsB n.gates.xs (List.replicate n.ins.xs.length 2) S n.nexts) := by
  intro S hS hS2
  unfold evalR
  rw [allR_yes hV (and_t (decide_eq_true (by simp)) (by simp [le2])) (and_t (decide_eq_true (by rw [hS, ha]; simp)) hS2)]
  simp only [Option.map_some, litsB, GNet.nexts, List.map_map]
  rfl
 have hi2 : (GSl.some (List.replicate n.ins.xs.length (2 : UInt8))).xs.length <= 100000000000 := by
  show (List.replicate n.ins.xs.length (2 : UInt8)).length <= _
  simp; omega
 have hil : a.length <= 500 := by rw [ha]; simpa using hrl
 have hini : a = n.inits := ha
 have hin2 : le2 a = true := by rw [ha]; simpa [le2, List.all_map, Function.comp] using v.inits
 cases a with
 | nil =>
  dsimp only [slP, obP]
  dsimp only [RSt.at, List.cons_append, List.nil_append]
  have hb0 : BArg [(b1, .row 4 [netAV n])] .nilsl [] := by
   have := BArg.gsl (L := [(b1, .row 4 [netAV n])]) (s := GSl.of ([] : List UInt8))
   unfold GSl.av at this
   exact this
  have hn0 : n.nexts = [] := List.length_eq_zero_iff.1 hlen
  have hs0 : n.stuck = [] := by
   unfold GNet.stuck stuckM
   rw [<- hini]; rfl
  have c59 : ∀ st, SFa [(b1, .row 4 [netAV n])] [] st -> CW (En pr) 59 [netAV n, (GSl.some (List.replicate n.ins.xs.length (2 : UInt8))).av 1 bitAV, .nilsl] st fun x st' => (∃ t u, x = .tup [accA t 1 ((n.outs.xs.map (fun p => ofL (allB n.gates.xs (List.replicate n.ins.xs.length 2) []) p.lit)).map bitAV), accA u 1 (([] : List UInt8).map bitAV), .int .i64 0]) /\ SFa [(b1, .row 4 [netAV n])] [] st' := by
   intro st hs
   refine (run59o h59 h109 h57 h131 h110 h132 n hn _ [] hi2 (by simp) hb0 hs).mono fun x st' h => ⟨?_, h.2⟩
   have e := hev [] rfl rfl
   rcases h.1 with ⟨h, _⟩ | ⟨o, y, t, u, h, h'⟩
   ·exact absurd (e.symm.trans h) (by simp)
   ·rw [show evalR n (GSl.some (List.replicate n.ins.xs.length (2 : UInt8))).xs [] = some _ from e, hn0] at h
    cases h
    exact ⟨t, u, h'⟩
  have hz59 : ∀ (y : AV) (st : St), (∃ t u, y = .tup [accA t 1 ((n.outs.xs.map (fun p => ofL (allB n.gates.xs (List.replicate n.ins.xs.length 2) []) p.lit)).map bitAV), accA u 1 (([] : List UInt8).map bitAV), .int .i64 0]) -> freezeA st y = some (y, st) := by
   rintro y st ⟨t, u, rfl⟩
   exact freeze_free (by simp only [AV.free, AV.freeL, free_acc bit_free, Bool.and_true])
  repeat' (first | (refine OS.do rfl ?_; first | refine OD.auto rfl rfl ?_) | refine OS.nil ?_ | refine WS.seq ?_ | refine QS.seqN ?_ | refine WS.region ?_ | refine WS.block ?_)
  refine WS.loopX (D := Bool) [1, 4, 5] (fun d => [(8, .bool d)]) (fun d => [(b1, .row 4 [netAV n])]) (fun _ => []) (fun d => True) (fun d => bif d then 1 else 0) (true) (trivial) ?_
  rintro ch _
  dsimp only [RSt.at, List.cons_append, List.nil_append]
  repeat' (first | (refine OS.do rfl ?_; first | refine OD.loadP 0 rfl rfl rfl rfl rfl rfl ?_ | refine OD.auto rfl rfl ?_ | refine OD.len rfl rfl (fun _ => lenTy_accm rfl rfl) ?_ | (refine OD.callP (fun y => ∃ t u, y = .tup [accA t 1 ((n.outs.xs.map (fun p => ofL (allB n.gates.xs (List.replicate n.ins.xs.length 2) []) p.lit)).map bitAV), accA u 1 (([] : List UInt8).map bitAV), .int .i64 0]) rfl rfl rfl c59 hz59 ?_; rintro y ⟨t, u, rfl⟩)) | refine OS.nil ?_ | refine WS.seq ?_ | refine QS.seqN ?_ | refine WS.region ?_ | refine WS.condF rfl ?_ | refine WS.skip ?_ | refine WS.block ?_ | refine WS.ret ?_ | refine WS.exit ?_ | refine QS.seqE ?_ | refine QS.blockH ?_ | refine QS.loopE ?_ | refine WS.condB rfl (fun _ => ?_) (fun _ => ?_))
  ·refine WS.rangeX (A := Unit) (n := 0) ⟨49, _, fun _ => [(8, .bool false)], fun _ => [(b1, .row 4 [netAV n])], fun _ => [], fun _ _ => True⟩ (()) [1, 4, 5, 47, 48] (trivial) ?_ ?_
   ·rintro i _ hi
    omega
   ·rintro _ _
    dsimp only [RSt.at, List.cons_append, List.nil_append]
    repeat' (first | refine QS.blockN ?_)
    exact QS.loopX (false) (by exact (trivial)) (by exact (by simp [*]))
  ·refine QS.retR (by rfl) fun st => ⟨_, st, rfl, ?_, rfl⟩
   unfold stuckAV
   rw [if_pos hV, hs0]; unfold GSl.av; rfl
 | cons x0 a0 =>
  generalize hA : x0 :: a0 = a at *
  have hsl : slP b5 a = .sl 1 b5 0 a.length := by rw [<- hA]; rfl
  have hob : obP b5 a = [(b5, .row 1 (a.map bitAV))] := by rw [<- hA]; rfl
  dsimp only [RSt.at, List.cons_append, List.nil_append]
  rw [hob, hsl]
  dsimp only [RSt.at, List.cons_append, List.nil_append]
  have c59 : ∀ (S : List UInt8), S.length = a.length -> le2 S = true -> ∀ st, SFa [(b5, .row 1 (S.map bitAV)), (b1, .row 4 [netAV n])] [] st -> CW (En pr) 59 [netAV n, (GSl.some (List.replicate n.ins.xs.length (2 : UInt8))).av 1 bitAV, .sl 1 b5 0 a.length] st fun x st' => (∃ t u, x = .tup [accA t 1 ((n.outs.xs.map (fun p => ofL (allB n.gates.xs (List.replicate n.ins.xs.length 2) S) p.lit)).map bitAV), accA u 1 ((litsB n.gates.xs (List.replicate n.ins.xs.length 2) S n.nexts).map bitAV), .int .i64 0]) /\ SFa [(b5, .row 1 (S.map bitAV)), (b1, .row 4 [netAV n])] [] st' := by
   intro S hS hS2 st hs
   rw [<- hS]
   refine (run59o h59 h109 h57 h131 h110 h132 n hn _ S hi2 (by omega) (BArg.obj (kk := 0) rfl) hs).mono fun x st' h => ⟨?_, h.2⟩
   have e := hev S hS hS2
   rcases h.1 with ⟨h, _⟩ | ⟨o, y, t, u, h, h'⟩
   ·exact absurd (e.symm.trans h) (by simp)
   ·rw [show evalR n (GSl.some (List.replicate n.ins.xs.length (2 : UInt8))).xs S = some _ from e] at h
    cases h
    exact ⟨t, u, h'⟩
  have hz59 : ∀ (S : List UInt8) (y : AV) (st : St), (∃ t u, y = .tup [accA t 1 ((n.outs.xs.map (fun p => ofL (allB n.gates.xs (List.replicate n.ins.xs.length 2) S) p.lit)).map bitAV), accA u 1 ((litsB n.gates.xs (List.replicate n.ins.xs.length 2) S n.nexts).map bitAV), .int .i64 0]) -> freezeA st y = some (y, st) := by
   rintro S y st ⟨t, u, rfl⟩
   exact freeze_free (by simp only [AV.free, AV.freeL, free_acc bit_free, Bool.and_true])
  repeat' (first | (refine OS.do rfl ?_; first | refine OD.auto rfl rfl ?_) | refine OS.nil ?_ | refine WS.seq ?_ | refine QS.seqN ?_ | refine WS.region ?_ | refine WS.block ?_)
  refine WS.loopX (D := Bool × List UInt8) [1, 4, 5] (fun d => [(8, .bool d.1)]) (fun d => [(b5, .row 1 (d.2.map bitAV)), (b1, .row 4 [netAV n])]) (fun _ => []) (fun d => d.2.length = a.length /\ le2 d.2 = true /\ (d.1 = true -> ∃ m, knownN d.2 <= m /\ sinkM n.gates.xs n.ins.xs.length n.nexts m d.2 = n.stuck) /\ (d.1 = false -> d.2 = n.stuck)) (fun d => bif d.1 then knownN d.2 + 1 else 0) ((true, a)) (⟨rfl, hin2, fun _ => ⟨a.length, knownN_le a, by rw [hini]; rfl⟩, fun h => by cases h⟩) ?_
  rintro ⟨ch, S⟩ ⟨hS, hS2, hch, hno⟩
  try dsimp only at hS hS2 hch hno
  have hX : (litsB n.gates.xs (List.replicate n.ins.xs.length 2) S n.nexts).length = S.length := by rw [litsB_len, hlen, hS]
  generalize hXe : litsB n.gates.xs (List.replicate n.ins.xs.length 2) S n.nexts = X at hX
  dsimp only [RSt.at, List.cons_append, List.nil_append]
  repeat' (first | (refine OS.do rfl ?_; first | refine OD.auto rfl rfl ?_ | refine OD.loadP 1 rfl rfl rfl rfl rfl rfl ?_ | refine OD.len rfl rfl (fun _ => lenTy_accm rfl rfl) ?_ | (refine OD.callP (fun y => ∃ t u, y = .tup [accA t 1 ((n.outs.xs.map (fun p => ofL (allB n.gates.xs (List.replicate n.ins.xs.length 2) S) p.lit)).map bitAV), accA u 1 ((litsB n.gates.xs (List.replicate n.ins.xs.length 2) S n.nexts).map bitAV), .int .i64 0]) rfl rfl rfl (c59 S hS hS2) (hz59 S) ?_; rintro y ⟨t, u, rfl⟩; rw [hXe])) | refine OS.nil ?_ | refine WS.seq ?_ | refine QS.seqN ?_ | refine WS.region ?_ | refine WS.condF rfl ?_ | refine WS.skip ?_ | refine WS.block ?_ | refine WS.ret ?_ | refine WS.exit ?_ | refine QS.seqE ?_ | refine QS.blockH ?_ | refine QS.loopE ?_ | refine WS.condB rfl (fun _ => ?_) (fun _ => ?_))
  ·have hXl : X.length = a.length := by omega
   refine WS.rangeX (A := Bool × List UInt8) (n := X.length) ⟨49, _, fun a => [(8, .bool a.1)], fun d => [(b5, .row 1 (d.2.map bitAV)), (b1, .row 4 [netAV n])], fun _ => [], fun i d => d.2 = partM S X i /\ d.1 = decide (partM S X i ≠ S)⟩ ((false, S)) [1, 4, 5, 47, 48] (⟨part_zero.symm, by rw [part_zero]; simp⟩) ?_ ?_
   ·rintro i ⟨c, P⟩ hi ⟨hP, hc⟩
    try dsimp only at hP hc
    have hg : P[i]? = some (S[i]'(by omega)) := by rw [hP]; exact part_get hX (by omega)
    have hrow : (P.map bitAV)[i]? = some (bitAV (S[i]'(by omega))) := by rw [List.getElem?_map, hg]; rfl
    dsimp only [RSt.at, List.cons_append, List.nil_append]
    repeat' (first | (refine OS.do rfl ?_; first | refine OD.auto rfl rfl ?_ | refine OD.indexAddr rfl rfl rfl (indexAddrA_accn rfl rfl rfl rfl (by first | assumption | exact List.getElem?_eq_getElem (by omega))) ?_ | refine OD.indexAddr rfl rfl rfl (indexAddrA_sl rfl rfl rfl rfl (by omega)) ?_ | refine OD.loadI 0 rfl rfl rfl hrow rfl ?_ | refine OD.storeI 0 rfl rfl rfl rfl rfl hrow ?_) | refine OS.nil ?_ | refine OS.skip rfl rfl rfl ?_ | refine WS.seq ?_ | refine QS.seqN ?_ | refine WS.region ?_ | refine WS.condF rfl ?_ | refine WS.skip ?_ | refine WS.condNe rfl (fun _ => ?_) (fun _ => ?_) | ((fail_if_success (refine OS.do rfl ?_)); first | refine OS.splitNe rfl rfl rfl (fun _ => ?_) (fun _ => ?_)))
    ·rename_i h1 h2
     have hd := part_down hX (i := i) (by omega) (fun e => h1 (by rw [e]; rfl)) (u8_ne h2)
     have hm : (P.map bitAV).set i (.int .u8 2) = (partM S X (i + 1)).map bitAV := by rw [hd.1, <- hP, List.map_set]; rfl
     exact QS.rangeX ((true, partM S X (i + 1))) (by (try dsimp only) <;> exact (⟨rfl, (decide_eq_true hd.2).symm⟩)) (hL := by (try dsimp only); rw [<- hm]; exact SubO.refl _)
    ·rename_i h1 h2
     have hd := part_same hX (i := i) (by omega) (.inr (u8_eq h2))
     exact QS.rangeX ((c, P)) (by (try dsimp only) <;> exact (⟨by rw [hd]; exact hP, by rw [hd]; exact hc⟩))
    ·rename_i h1
     have hd := part_same hX (i := i) (by omega) (.inl (UInt8.toNat_inj.1 (by have : (2 : UInt8).toNat = 2 := rfl; omega)))
     exact QS.rangeX ((c, P)) (by (try dsimp only) <;> exact (⟨by rw [hd]; exact hP, by rw [hd]; exact hc⟩))
   ·rintro ⟨c, P⟩ ⟨hP, hc⟩
    try dsimp only at hP hc
    have hP' : P = downM n.gates.xs n.ins.xs.length n.nexts S := by rw [hP, hX, part_all hX, <- hXe]; rfl
    have hc' : c = decide (downM n.gates.xs n.ins.xs.length n.nexts S ≠ S) := by rw [hc, <- hP, hP']
    have hct : ch = true := by assumption
    obtain ⟨m, hm1, hm2⟩ := hch hct
    have hSl : S.length = n.nexts.length := by omega
    dsimp only [RSt.at, List.cons_append, List.nil_append]
    repeat' (first | refine QS.blockN ?_)
    exact QS.loopX ((c, P)) (by exact (⟨by rw [hP', down_len hSl, hS], by rw [hP']; exact le2_zip hS2, fun h => (by obtain ⟨m', q1, q2, q3⟩ := sink_step hSl hm1 (of_decide_eq_true (hc'.symm.trans h)); exact ⟨m', by rw [hP']; exact q1, by rw [hP', <- q3]; exact hm2⟩), fun h => (by have q := of_decide_eq_false (hc'.symm.trans h); rw [Classical.not_not] at q; rw [<- hm2, hP', q, sink_of_fix q])⟩)) (by exact (by cases c with | false => simp [hct] | true => (obtain ⟨m', q1, q2, q3⟩ := sink_step hSl hm1 (of_decide_eq_true hc'.symm); rw [hct, hP']; simpa using q2)))
  ·rename_i hcf
   refine QS.retRS (by rfl) fun st hs => ?_
   have hg := (hs.obj 0 b5 _ rfl).1
   obtain ⟨tk, st2, hz⟩ := freeze_two (k := .i64) (i := 0) hg (show (S.map bitAV).length = a.length by rw [List.length_map, hS])
   refine ⟨_, st2, hz, ?_, ?_⟩
   ·unfold stuckAV
    rw [if_pos hV, <- hno hcf]
    have hp := plain_vs bit_plain 1 tk S
    simp only [AV.plain, AV.plainL] at hp ⊢
    rw [hp]
    have : S ≠ [] := fun e => by rw [e, <- hA] at hS; simp at hS
    congr 1
    congr 1
    unfold GSl.av GSl.of
    cases S with
    | nil => exact absurd rfl this
    | cons y S => rfl
   ·simp only [AV.free, AV.freeL, Bool.and_true]
    exact freeL_map bit_free S
theorem con22 (h1 : pr 22 = none) (h58 : pr 58 = some (tabPrim tab58)) (h59 : pr 59 = none) (h109 : pr 109 = none) (h57 : Has pr 57 Rel57) (h131 : Has pr 131 Rel131) (h110 : Has pr 110 Rel110) (h132 : pr 132 = some (tabPrim tab132)) : Con2 (En pr) 22 Rel22 :=
 con_ofz (fun d => by simp [AV.freeL, net_free]) fun d hd st => run22 h1 h58 h59 h109 h57 h131 h110 h132 d hd.1 hd.2 st
end
end Go.OptEnv
namespace Go.OptEnv
open Go Go.Proofs Go.Abs Go.RowKit Go.NetM
set_option maxRecDepth 10000
def keepB (S : List UInt8) : List Bool := S.map fun b => decide (b = 2)
def litB (S : List UInt8) : List Int := S.map fun b => (b.toNat : Int)
theorem sink_le2 {gs : List (Int × Int)} {nins : Nat} {next : List Int} : ∀ (m : Nat) (S : List UInt8), le2 S = true -> le2 (sinkM gs nins next m S) = true
 | 0, _, h => h
 | m + 1, S, h => by
  simp only [sinkM]
  split
  ·exact h
  ·exact sink_le2 m _ (le2_zip h)
theorem stuck_le2 {n : GNet} (hv : validM n = true) : le2 n.stuck = true := by
 have v := validM_iff.1 hv
 exact sink_le2 _ _ (by simpa [le2, GNet.inits, List.all_map, Function.comp] using v.inits)
theorem stuck_len (n : GNet) : n.stuck.length = n.regs.xs.length := by
 have h := (sink_fix (gs := n.gates.xs) (nins := n.ins.xs.length) (next := n.nexts) n.inits.length n.inits (by simp [GNet.inits, GNet.nexts]) (knownN_le _)).2
 unfold GNet.stuck stuckM
 rw [h]; simp [GNet.nexts]
theorem keepB_get {S : List UInt8} {i : Nat} (h : i < S.length) : (keepB S).getD i false = decide (S[i] = 2) := by
 unfold keepB
 rw [List.getD_eq_getElem?_getD, List.getElem?_map, List.getElem?_eq_getElem h]; rfl
theorem litB_get {S : List UInt8} {i : Nat} (h : i < S.length) : (litB S).getD i 0 = (S[i].toNat : Int) := by
 unfold litB
 rw [List.getD_eq_getElem?_getD, List.getElem?_map, List.getElem?_eq_getElem h]; rfl
theorem lit_stand {n : GNet} (hv : validM n = true) : Stand n.k0 n.regs.xs.length (keepB n.stuck) (litB n.stuck) := fun i hi hk => by
 have hl := stuck_len n
 have h2 := stuck_le2 hv
 rw [keepB_get (by omega)] at hk
 have hk := of_decide_eq_false hk
 have hk0 := k0_pos n
 have hb : (n.stuck[i]'(by omega)).toNat <= 2 := by
  have := List.all_eq_true.1 h2 _ (List.getElem_mem (l := n.stuck) (n := i) (by omega))
  exact of_decide_eq_true this
 have hn2 : (n.stuck[i]'(by omega)).toNat ≠ 2 := fun e => hk (UInt8.toNat_inj.1 e)
 rw [litB_get (by omega)]
 refine ⟨by omega, by omega, .inl (by omega)⟩
def stayAll (n : GNet) : Prop := ∀ b ∈ n.stuck, b = 2
instance (n : GNet) : Decidable (stayAll n) := inferInstanceAs (Decidable (∀ b ∈ n.stuck, b = 2))
def stepP (n : GNet) : GNet := againN n (keepB n.stuck) (litB n.stuck)
def settleP : Nat -> GNet -> GNet
 | 0, n => n
 | m + 1, n => if stayAll n then n else settleP m (stepP n)
theorem settleP_stay {n : GNet} (h : stayAll n) : ∀ m, settleP m n = n
 | 0 => rfl
 | m + 1 => by simp only [settleP, if_pos h]
theorem SameC.stuck {a b : GNet} (h : SameC a b) : a.stuck = b.stuck := by
 unfold GNet.stuck GNet.nexts GNet.inits
 rw [h.gates, h.ins, h.regs]
theorem SameC.stay {a b : GNet} (h : SameC a b) : stayAll a ↔ stayAll b := by unfold stayAll; rw [h.stuck]
theorem clean_same (n : GNet) : (cleanN n).regs.xs.length = n.regs.xs.length /\ (cleanN n).ins.xs = n.ins.xs := by
 obtain ⟨e1, e2, _, _⟩ := lay_xs (n := n) (s := cleanS n)
 exact ⟨by show (layN n (cleanS n)).regs.xs.length = _; rw [e2, List.length_map], e1⟩
theorem pick_lt {keep : List Bool} {α : Type} {l : List α} : ∀ i, i <= l.length -> (∃ j, j < i /\ keep.getD j false = false) -> (pickL 0 keep l i).length < i
 | 0, _, h => by obtain ⟨j, hj, _⟩ := h; omega
 | i + 1, hi, h => by
  have hle : (pickL 0 keep l i).length <= i := by
   rw [pick_cnt (z := 0) (k0 := 0) i (by omega)]; exact selZ_le _
  rw [pickL_succ (by omega), Nat.zero_add]
  cases hk : keep.getD i false with
  | true =>
   rw [if_pos rfl, List.length_append, List.length_singleton]
   obtain ⟨j, hj, hf⟩ := h
   have : j ≠ i := fun e => by rw [e, hk] at hf; cases hf
   have := pick_lt (keep := keep) (l := l) i (by omega) ⟨j, by omega, hf⟩
   omega
  | false =>
   rw [if_neg (by simp)]
   omega
theorem stepP_regs {n : GNet} (h : ¬ stayAll n) : (stepP n).regs.xs.length < n.regs.xs.length := by
 have e : (stepP n).regs.xs.length = (keptL n (keepB n.stuck)).length := by
  unfold stepP againN
  rw [(clean_same _).1]
  unfold againM netOf
  rw [gof_xs, List.length_map]
 rw [e]
 unfold keptL
 refine pick_lt _ (Nat.le_refl _) ?_
 unfold stayAll at h
 rw [Classical.not_forall] at h
 obtain ⟨b, hb⟩ := h
 rw [Classical.not_imp] at hb
 obtain ⟨i, hi, rfl⟩ := List.getElem_of_mem hb.1
 refine ⟨i, by rw [<- stuck_len n]; exact hi, ?_⟩
 rw [keepB_get hi]
 exact decide_eq_false hb.2
theorem stepP_ins (n : GNet) : (stepP n).ins.xs = n.ins.xs := by
 unfold stepP againN
 rw [(clean_same _).2]
 exact clone_xs _
theorem stepP_valid {n : GNet} (hv : validM n = true) : validM (stepP n) = true := clean_valid (again_valid hv (lit_stand hv))
theorem stepP_fits {n : GNet} (hv : validM n = true) (hn : FitsN n) : FitsN (stepP n) := clean_fits (again_valid hv (lit_stand hv)) (again_fits hv hn (lit_stand hv))
theorem settleP_fits : ∀ (m : Nat) {a : GNet}, validM a = true -> FitsN a -> FitsN (settleP m a)
 | 0, _, _, h => h
 | m + 1, a, hv, h => by
  simp only [settleP]
  split
  ·exact h
  ·exact settleP_fits m (stepP_valid hv) (stepP_fits hv h)
end Go.OptEnv
namespace Go.NetM
structure Alg (A : Type) where
 z : A
 neg : A -> A
 and : A -> A -> A
structure Laws {A : Type} (α : Alg A) : Prop where
 nn : ∀ a, α.neg (α.neg a) = a
 zero : ∀ a, α.and α.z a = α.z
 negs : ∀ a, α.and a (α.neg a) = α.z
 one : ∀ a, α.and (α.neg α.z) a = a
 same : ∀ a, α.and a a = a
 comm : ∀ a b, α.and a b = α.and b a
section
variable {A : Type} (α : Alg A)
def litA (v : List A) (l : Int) : A := if l % 2 = 1 then α.neg (v.getD (l / 2).toNat α.z) else v.getD (l / 2).toNat α.z
def gatesA (v0 : List A) (gs : List (Int × Int)) : List A := gs.foldl (fun v g => v ++ [α.and (litA α v g.1) (litA α v g.2)]) v0
variable {α}
theorem gatesA_len : ∀ (gs : List (Int × Int)) (v : List A), (gatesA α v gs).length = v.length + gs.length
 | [], v => by simp [gatesA]
 | g :: gs, v => by
  have := gatesA_len gs (v ++ [α.and (litA α v g.1) (litA α v g.2)])
  simp only [gatesA, List.foldl_cons, List.length_append, List.length_cons, List.length_nil] at this ⊢
  omega
theorem getD_app {v w : List A} {i : Nat} {d : A} : (v ++ w).getD i d = if i < v.length then v.getD i d else w.getD (i - v.length) d := by
 simp only [List.getD_eq_getElem?_getD]
 by_cases h : i < v.length
 ·rw [if_pos h, List.getElem?_append_left h]
 ·rw [if_neg h, List.getElem?_append_right (by omega)]
theorem gatesA_app (v : List A) (a b : List (Int × Int)) : gatesA α v (a ++ b) = gatesA α (gatesA α v a) b := List.foldl_append
theorem gatesA_snoc (v : List A) (a : List (Int × Int)) (g : Int × Int) : gatesA α v (a ++ [g]) = gatesA α v a ++ [α.and (litA α (gatesA α v a) g.1) (litA α (gatesA α v a) g.2)] := by rw [gatesA_app]; rfl
theorem gatesA_keep : ∀ (gs : List (Int × Int)) (v : List A) {i : Nat}, i < v.length -> (gatesA α v gs).getD i α.z = v.getD i α.z
 | [], _, _, _ => rfl
 | g :: gs, v, i, h => by
  have := gatesA_keep gs (v ++ [α.and (litA α v g.1) (litA α v g.2)]) (i := i) (by simp; omega)
  rw [getD_app, if_pos h] at this
  exact this
theorem litA_keep {gs : List (Int × Int)} {v : List A} {l : Int} (h : 0 <= l /\ l < 2 * (v.length : Int)) : litA α (gatesA α v gs) l = litA α v l := by
 unfold litA
 rw [gatesA_keep gs v (by omega)]
theorem litA_flip (L : Laws α) {v : List A} {a s : Int} : litA α v (flipL a s) = if s = 1 then α.neg (litA α v a) else litA α v a := by
 unfold flipL
 by_cases hs : s = 1
 ·rw [if_pos hs, if_pos hs]
  by_cases e : a % 2 = 0
  ·rw [if_pos e]
   unfold litA
   rw [if_pos (by omega), if_neg (by omega), show (a + 1) / 2 = a / 2 by omega]
  ·rw [if_neg e]
   unfold litA
   rw [if_neg (by omega), if_pos (by omega), show (a - 1) / 2 = a / 2 by omega, L.nn]
 ·rw [if_neg hs, if_neg hs]
theorem gateA_val {v : List A} {G : List (Int × Int)} (h : okG v.length G) {i : Nat} (hi : i < G.length) : (gatesA α v G).getD (v.length + i) α.z = α.and (litA α (gatesA α v G) G[i].1) (litA α (gatesA α v G) G[i].2) := by
 have e : G = G.take i ++ G[i] :: G.drop (i + 1) := by rw [<- List.drop_eq_getElem_cons hi, List.take_append_drop]
 have hl : (gatesA α v (G.take i)).length = v.length + i := by rw [gatesA_len, List.length_take]; omega
 generalize hg : G[i] = g at e
 have h1 := (h i hi).1
 have h2 := (h i hi).2
 rw [hg] at h1 h2
 rw [e, gatesA_app]
 show (gatesA α (gatesA α v (G.take i) ++ [α.and (litA α (gatesA α v (G.take i)) g.1) (litA α (gatesA α v (G.take i)) g.2)]) (G.drop (i + 1))).getD (v.length + i) α.z = α.and (litA α (gatesA α (gatesA α v (G.take i)) (g :: G.drop (i + 1))) g.1) (litA α (gatesA α (gatesA α v (G.take i)) (g :: G.drop (i + 1))) g.2)
 rw [gatesA_keep _ _ (by simp; omega), getD_app, if_neg (by omega), hl, Nat.sub_self]
 rw [litA_keep (v := gatesA α v (G.take i)) (gs := g :: G.drop (i + 1)) (by rw [hl]; exact h1), litA_keep (v := gatesA α v (G.take i)) (gs := g :: G.drop (i + 1)) (by rw [hl]; exact h2)]
 rfl
structure AndA (α : Alg A) (v : List A) (G : List (Int × Int)) (a b : Int) (r : Int × List (Int × Int)) : Prop where
 val : litA α (gatesA α v r.2) r.1 = α.and (litA α (gatesA α v G) a) (litA α (gatesA α v G) b)
 ext : r.2 = G \/ ∃ g, r.2 = G ++ [g]
theorem AndA.keep {v : List A} {G : List (Int × Int)} {a b : Int} {r : Int × List (Int × Int)} (h : AndA α v G a b r) {l : Int} (hl : 0 <= l /\ l < 2 * ((v.length + G.length : Nat) : Int)) : litA α (gatesA α v r.2) l = litA α (gatesA α v G) l := by
 rcases h.ext with e | ⟨g, e⟩
 ·rw [e]
 ·rw [e, gatesA_app]
  exact litA_keep (by rw [gatesA_len]; exact hl)
theorem litA_zero {v : List A} (h0 : v.getD 0 α.z = α.z) (hl : 0 < v.length) (G : List (Int × Int)) : litA α (gatesA α v G) 0 = α.z := by
 unfold litA
 rw [if_neg (by omega)]
 show (gatesA α v G).getD 0 α.z = α.z
 rw [gatesA_keep _ _ hl, h0]
theorem andA_ok (L : Laws α) {v : List A} (h0 : v.getD 0 α.z = α.z) (hl : 0 < v.length) {G : List (Int × Int)} (hG : okG v.length G) {a b : Int} : AndA α v G a b (andG v.length G a b) := by
 have hz := litA_zero h0 hl G
 have h1 : litA α (gatesA α v G) 1 = α.neg α.z := by
  have := litA_flip L (v := gatesA α v G) (a := 0) (s := 1)
  rw [if_pos rfl, hz] at this
  exact this
 have hsym : α.and (litA α (gatesA α v G) a) (litA α (gatesA α v G) b) = α.and (litA α (gatesA α v G) (min a b)) (litA α (gatesA α v G) (max a b)) := by
  by_cases e : a <= b
  ·rw [show min a b = a by omega, show max a b = b by omega]
  ·rw [show min a b = b by omega, show max a b = a by omega, L.comm]
 unfold andG
 generalize min a b = x at *
 generalize max a b = y at *
 by_cases c1 : x = 0 \/ flipL x 1 = y
 ·rw [if_pos c1]
  refine ⟨?_, .inl rfl⟩
  dsimp only
  rw [hz, hsym]
  rcases c1 with rfl | rfl
  ·rw [hz, L.zero]
  ·rw [litA_flip L, if_pos rfl, L.negs]
 ·rw [if_neg c1]
  by_cases c2 : x = 1 \/ x = y
  ·rw [if_pos c2]
   refine ⟨?_, .inl rfl⟩
   dsimp only
   rw [hsym]
   rcases c2 with rfl | rfl
   ·rw [h1, L.one]
   ·rw [L.same]
  ·rw [if_neg c2]
   cases hf : findG (x, y) G 0 with
   | some i =>
    dsimp only
    obtain ⟨_, hi⟩ := findG_some hf
    rw [Nat.sub_zero] at hi
    obtain ⟨hi1, hi2⟩ := List.getElem?_eq_some_iff.1 hi
    refine ⟨?_, .inl rfl⟩
    dsimp only
    have := gateA_val (α := α) hG hi1
    rw [hi2] at this
    rw [hsym, <- this]
    unfold litA
    rw [if_neg (by omega), show (2 * ((v.length + i : Nat) : Int) / 2).toNat = v.length + i by omega]
   | none =>
    dsimp only
    refine ⟨?_, .inr ⟨_, rfl⟩⟩
    dsimp only
    rw [hsym, gatesA_snoc]
    unfold litA
    rw [if_neg (by omega), show (2 * ((v.length + G.length : Nat) : Int) / 2).toNat = v.length + G.length by omega, getD_app, gatesA_len, if_neg (by omega), Nat.sub_self]
    rfl
theorem shareA (L : Laws α) {u : List A} (h0 : u.getD 0 α.z = α.z) (hl : 0 < u.length) {all0 : List Int} (hr : ∀ j, 0 <= all0.getD j 0 /\ all0.getD j 0 < 2 * (u.length : Int)) {gs : List (Int × Int)} (hg : okG all0.length gs) : ∀ i, i <= gs.length -> ∀ j, j < all0.length + i -> litA α (gatesA α u (shareM u.length all0 (gs.take i)).2) ((shareM u.length all0 (gs.take i)).1.getD j 0) = (gatesA α (all0.map (litA α u)) (gs.take i)).getD j α.z
 | 0, _, j, hj => by
  show litA α u (all0.getD j 0) = (all0.map (litA α u)).getD j α.z
  rw [List.getD_eq_getElem?_getD, List.getD_eq_getElem?_getD, List.getElem?_map, List.getElem?_eq_getElem (by omega)]; rfl
 | i + 1, hi, j, hj => by
  have ih := shareA L h0 hl hr hg i (by omega)
  have hs := ShOk.share hl hr gs i (by omega)
  rw [shareM_succ (by omega), List.take_succ_eq_append_getElem (by omega), gatesA_snoc]
  generalize shareM u.length all0 (gs.take i) = s at ih hs ⊢
  have hlen : (gatesA α (all0.map (litA α u)) (gs.take i)).length = all0.length + i := by rw [gatesA_len, List.length_map, List.length_take]; omega
  generalize gatesA α (all0.map (litA α u)) (gs.take i) = w at ih hlen ⊢
  have hA := andA_ok L h0 hl hs.ok (a := atL s.1 gs[i].1) (b := atL s.1 gs[i].2)
  have hk := hg i (by omega)
  have hsl := hs.len
  have at_ : ∀ l, 0 <= l /\ l < 2 * ((all0.length + i : Nat) : Int) -> litA α (gatesA α u s.2) (atL s.1 l) = litA α w l := fun l h => by
   unfold atL
   rw [litA_flip L, ih _ (by omega)]
   rfl
  show litA α (gatesA α u (andG _ _ _ _).2) ((s.1 ++ [(andG _ _ _ _).1]).getD j 0) = _
  rw [getD_snocI, getD_app, hsl, hlen]
  by_cases c : j < all0.length + i
  ·rw [if_pos c, if_pos c, hA.keep (hs.range j), ih j c]
  ·rw [if_neg c, if_pos (by omega), if_neg c, hA.val, at_ _ hk.1, at_ _ hk.2, show j - (all0.length + i) = 0 by omega]
   rfl
theorem shareA_at (L : Laws α) {u : List A} (h0 : u.getD 0 α.z = α.z) (hl : 0 < u.length) {all0 : List Int} (hr : ∀ j, 0 <= all0.getD j 0 /\ all0.getD j 0 < 2 * (u.length : Int)) {gs : List (Int × Int)} (hg : okG all0.length gs) {l : Int} (h : 0 <= l /\ l < 2 * ((all0.length + gs.length : Nat) : Int)) : litA α (gatesA α u (shareM u.length all0 gs).2) (atL (shareM u.length all0 gs).1 l) = litA α (gatesA α (all0.map (litA α u)) gs) l := by
 have := shareA L h0 hl hr hg gs.length (Nat.le_refl _) (l / 2).toNat (by omega)
 rw [List.take_length] at this
 unfold atL
 rw [litA_flip L, this]
 rfl
end
end Go.NetM
namespace Go.NetM
inductive Tr where
 | z
 | v (i : Nat)
 | a (s : Bool) (x : Tr) (t : Bool) (y : Tr)
 deriving DecidableEq
def pairN (a b : Nat) : Nat := (a + b) * (a + b) + b
theorem pairN_inj {a b c d : Nat} (h : pairN a b = pairN c d) : a = c /\ b = d := by
 have key : ∀ {x y u w : Nat}, x + y < u + w -> pairN x y < pairN u w := fun {x y u w} hlt => by
  unfold pairN
  have h1 : (x + y + 1) * (x + y + 1) <= (u + w) * (u + w) := Nat.mul_le_mul hlt hlt
  have h2 : (x + y + 1) * (x + y + 1) = (x + y) * (x + y) + (x + y) + (x + y) + 1 := by
   rw [Nat.add_mul, Nat.mul_add, Nat.mul_one, Nat.one_mul]; omega
  omega
 rcases Nat.lt_trichotomy (a + b) (c + d) with e | e | e
 ·have := key e; omega
 ·unfold pairN at h
  rw [e] at h
  omega
 ·have := key e; omega
def Tr.code : Tr -> Nat
 | .z => 0
 | .v i => 2 * i + 1
 | .a s x t y => 2 * (pairN (2 * x.code + s.toNat) (2 * y.code + t.toNat)) + 2
theorem sgn_inj {s t : Bool} {a b : Nat} (h : 2 * a + s.toNat = 2 * b + t.toNat) : s = t /\ a = b := by
 cases s <;> cases t <;> simp only [Bool.toNat_false, Bool.toNat_true] at h <;> first | exact ⟨rfl, by omega⟩ | (exfalso; omega)
theorem code_inj : ∀ {x y : Tr}, x.code = y.code -> x = y
 | .z, .z, _ => rfl
 | .z, .v _, h => by simp only [Tr.code] at h; omega
 | .z, .a .., h => by simp only [Tr.code] at h; omega
 | .v _, .z, h => by simp only [Tr.code] at h; omega
 | .v i, .v j, h => by simp only [Tr.code] at h; rw [show i = j by omega]
 | .v _, .a .., h => by simp only [Tr.code] at h; omega
 | .a .., .z, h => by simp only [Tr.code] at h; omega
 | .a .., .v _, h => by simp only [Tr.code] at h; omega
 | .a s x t y, .a s' x' t' y', h => by
  simp only [Tr.code] at h
  obtain ⟨h1, h2⟩ := pairN_inj (show pairN (2 * x.code + s.toNat) (2 * y.code + t.toNat) = pairN (2 * x'.code + s'.toNat) (2 * y'.code + t'.toNat) by omega)
  obtain ⟨rfl, e1⟩ := sgn_inj h1
  obtain ⟨rfl, e2⟩ := sgn_inj h2
  rw [code_inj e1, code_inj e2]
abbrev Lt := Bool × Tr
def lcode (x : Lt) : Nat := 2 * x.2.code + x.1.toNat
theorem lcode_inj {x y : Lt} (h : lcode x = lcode y) : x = y := by
 obtain ⟨h1, h2⟩ := sgn_inj h
 exact Prod.ext h1 (code_inj h2)
def andS (p q : Lt) : Lt := if p = (false, .z) \/ (!p.1, p.2) = q then (false, .z) else if p = (true, .z) \/ p = q then q else (false, .a p.1 p.2 q.1 q.2)
def andT (x y : Lt) : Lt := if lcode x <= lcode y then andS x y else andS y x
def trA : Alg Lt := ⟨(false, .z), fun x => (!x.1, x.2), andT⟩
theorem andT_comm (x y : Lt) : andT x y = andT y x := by
 unfold andT
 rcases Nat.lt_trichotomy (lcode x) (lcode y) with h | h | h
 ·rw [if_pos (by omega), if_neg (by omega)]
 ·rw [lcode_inj h]
 ·rw [if_neg (by omega), if_pos (by omega)]
theorem neg_ne (x : Lt) : (!x.1, x.2) ≠ x := fun h => by
 have := congrArg Prod.fst h
 cases hx : x.1 <;> rw [hx] at this <;> cases this
theorem trL : Laws trA := by
 refine ⟨fun a => ?_, fun a => ?_, fun a => ?_, fun a => ?_, fun a => ?_, andT_comm⟩
 ·show (!!a.1, a.2) = a
  rw [Bool.not_not]
 ·show andT (false, .z) a = (false, .z)
  unfold andT
  rw [if_pos (by simp [lcode, Tr.code])]
  unfold andS
  rw [if_pos (.inl rfl)]
 ·show andT a (!a.1, a.2) = (false, .z)
  unfold andT
  split
  ·unfold andS; rw [if_pos (.inr rfl)]
  ·unfold andS
   rw [if_pos (.inr (by show (!!a.1, a.2) = a; rw [Bool.not_not]))]
 ·show andT (true, .z) a = a
  unfold andT
  split
  ·rename_i h
   unfold andS
   by_cases e : a = (false, .z)
   ·subst e; exact absurd h (by simp [lcode, Tr.code])
   ·rw [if_neg (by rintro (h | h); · cases h
                   · exact e h.symm), if_pos (.inl rfl)]
  ·rename_i h
   have : lcode a = 0 := by
    have : lcode (true, Tr.z) = 1 := rfl
    omega
   have : a = (false, .z) := lcode_inj (this.trans rfl)
   subst this
   rfl
 ·show andT a a = a
  unfold andT
  rw [if_pos (Nat.le_refl _)]
  unfold andS
  by_cases e : a = (false, .z)
  ·rw [if_pos (.inl e), e]
  ·rw [if_neg (by rintro (h | h); · exact e h
                  · exact neg_ne a h), if_pos (.inr rfl)]
section
variable {A : Type} (α : Alg A) (β : Nat -> A)
def sgn (s : Bool) (a : A) : A := if s = true then α.neg a else a
def homT : Tr -> A
 | .z => α.z
 | .v i => β i
 | .a s x t y => α.and (sgn α s (homT x)) (sgn α t (homT y))
def homL (x : Lt) : A := sgn α x.1 (homT α β x.2)
variable {α β}
theorem homL_neg (L : Laws α) (x : Lt) : homL α β (trA.neg x) = α.neg (homL α β x) := by
 show homL α β (!x.1, x.2) = _
 unfold homL sgn
 cases x.1 with
 | true => simp [L.nn]
 | false => simp
theorem homL_andS (L : Laws α) (p q : Lt) : homL α β (andS p q) = α.and (homL α β p) (homL α β q) := by
 have hz : homL α β (false, .z) = α.z := rfl
 have h1 : homL α β (true, .z) = α.neg α.z := rfl
 unfold andS
 by_cases c : p = (false, .z) \/ (!p.1, p.2) = q
 ·rw [if_pos c, hz]
  rcases c with rfl | rfl
  ·rw [hz, L.zero]
  ·have := homL_neg (β := β) L p
   have e : homL α β (!p.1, p.2) = α.neg (homL α β p) := this
   rw [e, L.negs]
 ·rw [if_neg c]
  by_cases c2 : p = (true, .z) \/ p = q
  ·rw [if_pos c2]
   rcases c2 with rfl | rfl
   ·rw [h1, L.one]
   ·rw [L.same]
  ·rw [if_neg c2]; rfl
theorem homL_and (L : Laws α) (x y : Lt) : homL α β (trA.and x y) = α.and (homL α β x) (homL α β y) := by
 show homL α β (andT x y) = _
 unfold andT
 split
 ·exact homL_andS L x y
 ·rw [homL_andS L y x, L.comm]
theorem homL_lit (L : Laws α) (v : List Lt) (l : Int) : homL α β (litA trA v l) = litA α (v.map (homL α β)) l := by
 have hg : ∀ j, homL α β (v.getD j trA.z) = (v.map (homL α β)).getD j α.z := fun j => by
  rw [List.getD_eq_getElem?_getD, List.getD_eq_getElem?_getD, List.getElem?_map]
  cases v[j]? with
  | none => rfl
  | some x => rfl
 unfold litA
 split
 ·rw [homL_neg L, hg]
 ·rw [hg]
theorem hom_gates (L : Laws α) : ∀ (gs : List (Int × Int)) (v : List Lt), (gatesA trA v gs).map (homL α β) = gatesA α (v.map (homL α β)) gs
 | [], _ => rfl
 | g :: gs, v => by
  show (gatesA trA (v ++ [trA.and (litA trA v g.1) (litA trA v g.2)]) gs).map (homL α β) = gatesA α (v.map (homL α β) ++ [α.and (litA α (v.map (homL α β)) g.1) (litA α (v.map (homL α β)) g.2)]) gs
  rw [hom_gates L gs, List.map_append, <- homL_lit L, <- homL_lit L]
  simp only [List.map_cons, List.map_nil, homL_and L]
theorem hom_lit (L : Laws α) (gs : List (Int × Int)) (v : List Lt) (l : Int) : homL α β (litA trA (gatesA trA v gs) l) = litA α (gatesA α (v.map (homL α β)) gs) l := by
 rw [homL_lit L, hom_gates L]
end
def Red (k : Nat) (G : List (Int × Int)) : Prop := ∀ (i : Nat) (h : i < G.length), 2 <= G[i].1 /\ G[i].1 / 2 < G[i].2 / 2 /\ G[i].2 < 2 * ((k + i : Nat) : Int) /\ G[i] ∉ G.take i
theorem Red.ok {k : Nat} {G : List (Int × Int)} (h : Red k G) : okG k G := fun i hi => by
 obtain ⟨a, b, c, _⟩ := h i hi
 omega
theorem red_nil (k : Nat) : Red k [] := fun _ h => by cases h
theorem flip_half {x y : Int} (h : flipL x 1 ≠ y) (h2 : x < y) : x / 2 < y / 2 := by
 unfold flipL at h
 rw [if_pos rfl] at h
 split at h
 ·omega
 ·omega
theorem Red.snoc {k : Nat} {G : List (Int × Int)} (h : Red k G) {g : Int × Int} (h1 : 2 <= g.1) (h2 : g.1 / 2 < g.2 / 2) (h3 : g.2 < 2 * ((k + G.length : Nat) : Int)) (h4 : g ∉ G) : Red k (G ++ [g]) := fun i hi => by
 by_cases e : i < G.length
 ·rw [List.getElem_append_left e, List.take_append_of_le_length (by omega)]; exact h i e
 ·have : i = G.length := by simp at hi; omega
  subst this
  rw [List.getElem_append_right (by omega)]
  simp only [Nat.sub_self, List.getElem_cons_zero, List.take_left]
  exact ⟨h1, h2, h3, h4⟩
theorem andG_red {k : Nat} {G : List (Int × Int)} (h : Red k G) {a b : Int} (ha : 0 <= a /\ a < 2 * ((k + G.length : Nat) : Int)) (hb : 0 <= b /\ b < 2 * ((k + G.length : Nat) : Int)) : Red k (andG k G a b).2 := by
 unfold andG
 split
 ·exact h
 ·rename_i c1
  split
  ·exact h
  ·rename_i c2
   cases hf : findG (min a b, max a b) G 0 with
   | some i => exact h
   | none =>
    refine h.snoc ?_ (flip_half (fun e => c1 (.inr e)) ?_) ?_ (findG_none hf) <;> dsimp only <;> omega
theorem share_red {k : Nat} (hk : 0 < k) {all0 : List Int} (h0 : ∀ j, 0 <= all0.getD j 0 /\ all0.getD j 0 < 2 * (k : Int)) (gs : List (Int × Int)) : ∀ i, i <= gs.length -> Red k (shareM k all0 (gs.take i)).2
 | 0, _ => red_nil k
 | i + 1, hi => by
  have hs := ShOk.share hk h0 gs i (by omega)
  rw [shareM_succ (by omega)]
  exact andG_red (share_red hk h0 gs i (by omega)) (hs.at_ _) (hs.at_ _)
theorem findG_not {p : Int × Int} : ∀ {G : List (Int × Int)} {m : Nat}, p ∉ G -> findG p G m = none
 | [], _, _ => rfl
 | g :: G, m, h => by
  simp only [List.mem_cons, not_or] at h
  unfold findG
  rw [if_neg (fun e => h.1 e.symm), findG_not h.2]
theorem atL_id {k : Nat} {l : Int} (h : 0 <= l /\ l < 2 * (k : Int)) : atL (idL k) l = l := by
 have e : (idL k).getD (l / 2).toNat 0 = 2 * (((l / 2).toNat : Nat) : Int) := by rw [idL_get, if_pos (by omega)]
 unfold atL flipL
 rw [e]
 by_cases c : l % 2 = 1
 ·rw [if_pos c, if_pos (by omega)]; omega
 ·rw [if_neg c]; omega
theorem share_id {k : Nat} {G : List (Int × Int)} (h : Red k G) : ∀ i, i <= G.length -> shareM k (idL k) (G.take i) = (idL (k + i), G.take i)
 | 0, _ => rfl
 | i + 1, hi => by
  obtain ⟨a, b, c, d⟩ := h i (by omega)
  rw [shareM_succ (by omega), share_id h i (by omega)]
  unfold stepM
  dsimp only
  rw [atL_id (by omega), atL_id (by omega)]
  have e : andG k (G.take i) G[i].1 G[i].2 = (2 * ((k + i : Nat) : Int), G.take i ++ [G[i]]) := by
   unfold andG
   rw [show min G[i].1 G[i].2 = G[i].1 by omega, show max G[i].1 G[i].2 = G[i].2 by omega]
   rw [if_neg (by
    rintro (h | h)
    ·omega
    ·unfold flipL at h; rw [if_pos rfl] at h; split at h <;> omega), if_neg (by omega), findG_not (by exact d)]
   rw [List.length_take, show min i G.length = i by omega]
  rw [e, List.take_succ_eq_append_getElem (by omega), show k + (i + 1) = (k + i) + 1 by omega, idL_succ]
def baseT (k : Nat) : List Lt := (List.range k).map fun j => if j = 0 then (false, .z) else (false, .v j)
theorem baseT_len (k : Nat) : (baseT k).length = k := by simp [baseT]
theorem baseT_get {k j : Nat} (h : j < k) : (baseT k).getD j trA.z = if j = 0 then (false, .z) else (false, .v j) := by
 unfold baseT
 rw [List.getD_eq_getElem?_getD, List.getElem?_map, List.getElem?_range h]; rfl
theorem andT_node {x y : Lt} (h1 : x ≠ (false, .z)) (h2 : y ≠ (false, .z)) (h3 : x ≠ (true, .z)) (h4 : y ≠ (true, .z)) (h5 : x ≠ y) (h6 : (!x.1, x.2) ≠ y) : andT x y = (false, .a x.1 x.2 y.1 y.2) \/ andT x y = (false, .a y.1 y.2 x.1 x.2) := by
 unfold andT
 split
 ·unfold andS
  rw [if_neg (fun h => h.elim h1 h6), if_neg (fun h => h.elim h3 h5)]
  exact .inl rfl
 ·unfold andS
  rw [if_neg (fun h => h.elim h2 fun h => h6 (by rw [<- h]; show (!!y.1, y.2) = y; rw [Bool.not_not])), if_neg (fun h => h.elim h4 fun h => h5 h.symm)]
  exact .inr rfl
structure Diff (k : Nat) (G : List (Int × Int)) (m : Nat) : Prop where
 pos : ∀ j, j < k + m -> ((gatesA trA (baseT k) G).getD j trA.z).1 = false
 inj : ∀ i j, i < k + m -> j < k + m -> (gatesA trA (baseT k) G).getD i trA.z = (gatesA trA (baseT k) G).getD j trA.z -> i = j
theorem lit_pos {v : List Lt} {l : Int} (h : (v.getD (l / 2).toNat trA.z).1 = false) : litA trA v l = (decide (l % 2 = 1), (v.getD (l / 2).toNat trA.z).2) := by
 unfold litA
 generalize v.getD (l / 2).toNat trA.z = x at h
 obtain ⟨s, t⟩ := x
 dsimp only at h
 subst h
 split
 ·rename_i e; rw [decide_eq_true e]; rfl
 ·rename_i e; rw [decide_eq_false e]
theorem Diff.lit {k : Nat} {G : List (Int × Int)} {m : Nat} (h : Diff k G m) {l l' : Int} (h1 : 0 <= l /\ l < 2 * ((k + m : Nat) : Int)) (h2 : 0 <= l' /\ l' < 2 * ((k + m : Nat) : Int)) (e : litA trA (gatesA trA (baseT k) G) l = litA trA (gatesA trA (baseT k) G) l') : l = l' := by
 have p1 := h.pos (l / 2).toNat (by omega)
 have p2 := h.pos (l' / 2).toNat (by omega)
 rw [lit_pos p1, lit_pos p2] at e
 obtain ⟨e1, e2⟩ := Prod.mk.injEq _ _ _ _ ▸ e
 have := h.inj _ _ (by omega) (by omega) (Prod.ext (p1.trans p2.symm) e2)
 have e1 : (l % 2 = 1) ↔ (l' % 2 = 1) := by rw [<- decide_eq_decide]; exact e1
 omega
theorem red_diff {k : Nat} (hk : 0 < k) {G : List (Int × Int)} (h : Red k G) : ∀ m, m <= G.length -> Diff k G m /\ ∀ i, (hi : i < G.length) -> i < m -> ∃ x y, (x = litA trA (gatesA trA (baseT k) G) G[i].1 /\ y = litA trA (gatesA trA (baseT k) G) G[i].2 \/ x = litA trA (gatesA trA (baseT k) G) G[i].2 /\ y = litA trA (gatesA trA (baseT k) G) G[i].1) /\ (gatesA trA (baseT k) G).getD (k + i) trA.z = (false, .a x.1 x.2 y.1 y.2)
 | 0, _ => by
  have hb : ∀ j, j < k -> (gatesA trA (baseT k) G).getD j trA.z = if j = 0 then (false, .z) else (false, .v j) := fun j hj => by
   rw [gatesA_keep _ _ (by rw [baseT_len]; exact hj), baseT_get hj]
  refine ⟨⟨fun j hj => ?_, fun i j hi hj e => ?_⟩, fun i _ h => by omega⟩
  ·rw [hb j hj]; split <;> rfl
  ·rw [hb i hi, hb j hj] at e
   by_cases c : i = 0 <;> by_cases c' : j = 0
   ·omega
   ·rw [if_pos c, if_neg c'] at e; cases e
   ·rw [if_neg c, if_pos c'] at e; cases e
   ·rw [if_neg c, if_neg c'] at e; cases e; rfl
 | m + 1, hm => by
  obtain ⟨hd, hn⟩ := red_diff hk h m (by omega)
  have hb : ∀ j, j < k -> (gatesA trA (baseT k) G).getD j trA.z = if j = 0 then (false, .z) else (false, .v j) := fun j hj => by
   rw [gatesA_keep _ _ (by rw [baseT_len]; exact hj), baseT_get hj]
  obtain ⟨q1, q2, q3, q4⟩ := h m (by omega)
  have hv : (gatesA trA (baseT k) G).getD (k + m) trA.z = andT (litA trA (gatesA trA (baseT k) G) G[m].1) (litA trA (gatesA trA (baseT k) G) G[m].2) := by
   have := gateA_val (α := trA) (v := baseT k) (G := G) (by rw [baseT_len]; exact h.ok) (i := m) (by omega)
   rw [baseT_len] at this
   exact this
  have l0 : litA trA (gatesA trA (baseT k) G) 0 = (false, .z) := litA_zero (by rw [baseT_get hk]; rfl) (by rw [baseT_len]; exact hk) G
  have l1 : litA trA (gatesA trA (baseT k) G) 1 = (true, .z) := by
   have := litA_flip trL (v := gatesA trA (baseT k) G) (a := 0) (s := 1)
   rw [if_pos rfl, l0] at this
   exact this
  have lf : ∀ l, litA trA (gatesA trA (baseT k) G) (flipL l 1) = (!(litA trA (gatesA trA (baseT k) G) l).1, (litA trA (gatesA trA (baseT k) G) l).2) := fun l => by
   have := litA_flip trL (v := gatesA trA (baseT k) G) (a := l) (s := 1)
   rw [if_pos rfl] at this
   exact this
  have ne : ∀ l l', 0 <= l /\ l < 2 * ((k + m : Nat) : Int) -> 0 <= l' /\ l' < 2 * ((k + m : Nat) : Int) -> l ≠ l' -> litA trA (gatesA trA (baseT k) G) l ≠ litA trA (gatesA trA (baseT k) G) l' := fun l l' a b c e => c (hd.lit a b e)
  have hfr : 0 <= flipL G[m].1 1 /\ flipL G[m].1 1 < 2 * ((k + m : Nat) : Int) := flip_range (by omega)
  have hfn : flipL G[m].1 1 ≠ G[m].2 := by unfold flipL; rw [if_pos rfl]; split <;> omega
  have hnode := andT_node (x := litA trA (gatesA trA (baseT k) G) G[m].1) (y := litA trA (gatesA trA (baseT k) G) G[m].2) (by rw [<- l0]; exact ne _ _ (by omega) (by omega) (by omega)) (by rw [<- l0]; exact ne _ _ (by omega) (by omega) (by omega)) (by rw [<- l1]; exact ne _ _ (by omega) (by omega) (by omega)) (by rw [<- l1]; exact ne _ _ (by omega) (by omega) (by omega)) (ne _ _ (by omega) (by omega) (by omega)) (by rw [<- lf]; exact ne _ _ hfr (by omega) hfn)
  have hex : ∃ x y, (x = litA trA (gatesA trA (baseT k) G) G[m].1 /\ y = litA trA (gatesA trA (baseT k) G) G[m].2 \/ x = litA trA (gatesA trA (baseT k) G) G[m].2 /\ y = litA trA (gatesA trA (baseT k) G) G[m].1) /\ (gatesA trA (baseT k) G).getD (k + m) trA.z = (false, .a x.1 x.2 y.1 y.2) := by
   rw [hv]
   rcases hnode with e | e
   ·exact ⟨_, _, .inl ⟨rfl, rfl⟩, e⟩
   ·exact ⟨_, _, .inr ⟨rfl, rfl⟩, e⟩
  have hnew : ∀ j, j < k + m -> (gatesA trA (baseT k) G).getD j trA.z ≠ (gatesA trA (baseT k) G).getD (k + m) trA.z := fun j hj e => by
   obtain ⟨x, y, hxy, ev⟩ := hex
   rw [ev] at e
   by_cases c : j < k
   ·rw [hb j c] at e
    split at e <;> cases e
   ·obtain ⟨x', y', hxy', ev'⟩ := hn (j - k) (by omega) (by omega)
    rw [show k + (j - k) = j by omega, e] at ev'
    obtain ⟨s, t⟩ := x
    obtain ⟨s2, t2⟩ := y
    obtain ⟨s3, t3⟩ := x'
    obtain ⟨s4, t4⟩ := y'
    simp only [Prod.mk.injEq, true_and, Tr.a.injEq] at ev'
    obtain ⟨rfl, rfl, rfl, rfl⟩ := ev'
    obtain ⟨p1, p2, p3, p4⟩ := h (j - k) (by omega)
    have inj := fun {l l' : Int} (a : 0 <= l /\ l < 2 * ((k + m : Nat) : Int)) (b : 0 <= l' /\ l' < 2 * ((k + m : Nat) : Int)) (e : litA trA (gatesA trA (baseT k) G) l = litA trA (gatesA trA (baseT k) G) l') => hd.lit a b e
    have hmem : G[m] = G[j - k] -> False := fun e => q4 (by
     rw [e]
     exact List.mem_of_getElem? (i := j - k) (by rw [List.getElem?_take, if_pos (by omega), List.getElem?_eq_getElem (by omega)]))
    rcases hxy with ⟨a1, a2⟩ | ⟨a1, a2⟩ <;> rcases hxy' with ⟨b1, b2⟩ | ⟨b1, b2⟩
    ·exact hmem (Prod.ext (inj (by omega) (by omega) (a1.symm.trans b1)) (inj (by omega) (by omega) (a2.symm.trans b2)))
    ·have e1 := inj (by omega) (by omega) (a1.symm.trans b1)
     have e2 := inj (by omega) (by omega) (a2.symm.trans b2)
     omega
    ·have e1 := inj (by omega) (by omega) (a1.symm.trans b1)
     have e2 := inj (by omega) (by omega) (a2.symm.trans b2)
     omega
    ·exact hmem (Prod.ext (inj (by omega) (by omega) (a2.symm.trans b2)) (inj (by omega) (by omega) (a1.symm.trans b1)))
  refine ⟨⟨fun j hj => ?_, fun i j hi hj e => ?_⟩, fun i hi him => ?_⟩
  ·by_cases c : j < k + m
   ·exact hd.pos j c
   ·rw [show j = k + m by omega]
    obtain ⟨x, y, _, ev⟩ := hex
    rw [ev]
  ·by_cases c : i < k + m <;> by_cases c' : j < k + m
   ·exact hd.inj i j c c' e
   ·rw [show j = k + m by omega] at e
    exact absurd e (hnew i c)
   ·rw [show i = k + m by omega] at e
    exact absurd e.symm (hnew j c')
   ·omega
  ·by_cases c : i < m
   ·exact hn i hi c
   ·have : i = m := by omega
    subst this
    exact hex
theorem share_tree {k : Nat} (hk : 0 < k) {all0 : List Int} (h0 : ∀ j, 0 <= all0.getD j 0 /\ all0.getD j 0 < 2 * (k : Int)) {gs : List (Int × Int)} (hg : okG all0.length gs) {x y : Int} (hx : 0 <= x /\ x < 2 * ((all0.length + gs.length : Nat) : Int)) (hy : 0 <= y /\ y < 2 * ((all0.length + gs.length : Nat) : Int)) :
  atL (shareM k all0 gs).1 x = atL (shareM k all0 gs).1 y ↔ litA trA (gatesA trA (all0.map (litA trA (baseT k))) gs) x = litA trA (gatesA trA (all0.map (litA trA (baseT k))) gs) y := by
 have hbl := baseT_len k
 have h0' : (baseT k).getD 0 trA.z = trA.z := by rw [baseT_get hk]; rfl
 have ex := shareA_at trL (u := baseT k) h0' (by rw [hbl]; exact hk) (all0 := all0) (by rw [hbl]; exact h0) hg hx
 have ey := shareA_at trL (u := baseT k) h0' (by rw [hbl]; exact hk) (all0 := all0) (by rw [hbl]; exact h0) hg hy
 rw [hbl] at ex ey
 rw [<- ex, <- ey]
 constructor
 ·intro e; rw [e]
 ·intro e
  have hs := ShOk.share hk h0 gs gs.length (Nat.le_refl _)
  have hr := share_red hk h0 gs gs.length (Nat.le_refl _)
  rw [List.take_length] at hs hr
  exact ((red_diff hk hr _ (Nat.le_refl _)).1).lit (hs.at_ _) (hs.at_ _) e
end Go.NetM
namespace Go.NetM
theorem markM_get : ∀ (ls : List Int) {v : List Bool} {j : Nat}, (markM v ls).getD j false = true ↔ (v.getD j false = true \/ ∃ l ∈ ls, (l / 2).toNat = j /\ j < v.length)
 | [], v, j => by simp [markM]
 | l :: ls, v, j => by
  show (markM (v.set (l / 2).toNat true) ls).getD j false = true ↔ _
  rw [markM_get ls, set_getB, List.length_set]
  constructor
  ·rintro ((h | ⟨h, h2⟩) | ⟨x, hx, h⟩)
   ·exact .inl h
   ·exact .inr ⟨l, List.mem_cons_self, h, h2⟩
   ·exact .inr ⟨x, List.mem_cons_of_mem _ hx, h⟩
  ·rintro (h | ⟨x, hx, h⟩)
   ·exact .inl (.inl h)
   ·rcases List.mem_cons.1 hx with rfl | hx
    ·exact .inl (.inr h)
    ·exact .inr ⟨x, hx, h⟩
theorem gs_getD {gs : List (Int × Int)} {i : Nat} (h : i < gs.length) : gs.getD i (0, 0) = gs[i] := by rw [List.getD_eq_getElem?_getD, List.getElem?_eq_getElem h]; rfl
theorem markG_get {k : Nat} {gs : List (Int × Int)} {v : List Bool} {i j : Nat} (hi : i < gs.length) : (markG k gs v i).getD j false = true ↔ (v.getD j false = true \/ (v.getD (k + i) false = true /\ ((gs[i].1 / 2).toNat = j \/ (gs[i].2 / 2).toNat = j) /\ j < v.length)) := by
 unfold markG
 rw [gs_getD hi]
 split
 ·rename_i h
  rw [set_getB, set_getB, List.length_set]
  constructor
  ·rintro ((a | ⟨a, b⟩) | ⟨a, b⟩)
   ·exact .inl a
   ·exact .inr ⟨h, .inl a, b⟩
   ·exact .inr ⟨h, .inr a, b⟩
  ·rintro (a | ⟨_, a | a, b⟩)
   ·exact .inl (.inl a)
   ·exact .inl (.inr ⟨a, b⟩)
   ·exact .inr ⟨a, b⟩
 ·rename_i h
  constructor
  ·exact .inl
  ·rintro (a | ⟨a, _⟩)
   ·exact a
   ·exact absurd a h
theorem coneD_sound {k : Nat} {gs : List (Int × Int)} {S : Nat -> Prop} (h2 : ∀ (i : Nat) (h : i < gs.length), S (k + i) -> S (gs[i].1 / 2).toNat /\ S (gs[i].2 / 2).toNat) : ∀ i, i <= gs.length -> ∀ v : List Bool, (∀ j, v.getD j false = true -> S j) -> ∀ j, (coneD k gs i v).getD j false = true -> S j
 | 0, _, _, hv, j, h => hv j h
 | i + 1, hi, v, hv, j, h => by
  refine coneD_sound h2 i (by omega) (markG k gs v i) (fun j h => ?_) j h
  rcases (markG_get (by omega)).1 h with h | ⟨a, b | b, _⟩
  ·exact hv j h
  ·rw [<- b]; exact (h2 i (by omega) (hv _ a)).1
  ·rw [<- b]; exact (h2 i (by omega) (hv _ a)).2
theorem coneD_mono {k : Nat} {gs : List (Int × Int)} : ∀ i, i <= gs.length -> ∀ (v : List Bool) {j : Nat}, v.getD j false = true -> (coneD k gs i v).getD j false = true
 | 0, _, _, _, h => h
 | i + 1, hi, v, j, h => coneD_mono i (by omega) (markG k gs v i) ((markG_get (by omega)).2 (.inl h))
theorem coneD_high {k : Nat} {gs : List (Int × Int)} (hg : okG k gs) : ∀ i, i <= gs.length -> ∀ (v : List Bool) {j : Nat}, k + i <= j -> (coneD k gs i v).getD j false = true -> v.getD j false = true
 | 0, _, _, _, _, h => h
 | i + 1, hi, v, j, hj, h => by
  have := coneD_high hg i (by omega) (markG k gs v i) (by omega) h
  have := (hg i (by omega))
  rcases (markG_get (by omega)).1 ‹(markG k gs v i).getD j false = true› with h | ⟨a, b | b, _⟩
  ·exact h
  ·omega
  ·omega
theorem coneD_closed {k : Nat} {gs : List (Int × Int)} (hg : okG k gs) : ∀ i, i <= gs.length -> ∀ (v : List Bool), v.length = k + gs.length -> ∀ m, (hm : m < gs.length) -> m < i -> (coneD k gs i v).getD (k + m) false = true -> (coneD k gs i v).getD (gs[m].1 / 2).toNat false = true /\ (coneD k gs i v).getD (gs[m].2 / 2).toNat false = true
 | 0, _, _, _, _, _, h, _ => by omega
 | i + 1, hi, v, hv, m, hm, hmi, h => by
  by_cases c : m < i
  ·exact coneD_closed hg i (by omega) (markG k gs v i) (by rw [markG_len]; exact hv) m hm c h
  ·have e : m = i := by omega
   subst e
   have h1 := coneD_high hg m (by omega) (markG k gs v m) (Nat.le_refl _) h
   have hk := hg m hm
   have h2 : v.getD (k + m) false = true := by
    rcases (markG_get hm).1 h1 with h | ⟨a, b | b, _⟩
    ·exact h
    ·omega
    ·omega
   exact ⟨coneD_mono m (by omega) _ ((markG_get hm).2 (.inr ⟨h2, .inl rfl, by omega⟩)), coneD_mono m (by omega) _ ((markG_get hm).2 (.inr ⟨h2, .inr rfl, by omega⟩))⟩
theorem rep_false {n j : Nat} : ¬ (List.replicate n false).getD j false = true := by
 rw [List.getD_eq_getElem?_getD, List.getElem?_replicate]
 split <;> simp
theorem cone_iff {k : Nat} {gs : List (Int × Int)} {roots : List Int} (hg : okG k gs) (hr : ∀ l ∈ roots, 0 <= l /\ l < 2 * ((k + gs.length : Nat) : Int)) (j : Nat) : (coneM k gs roots).getD j false = true ↔ Nd 0 k gs [] roots j := by
 have hlen : (markM (List.replicate (k + gs.length) false) roots).length = k + gs.length := by rw [markM_len, List.length_replicate]
 constructor
 ·intro h
  refine coneD_sound (S := Nd 0 k gs [] roots) (fun i h p => ⟨.g1 h p, .g2 h p⟩) _ (Nat.le_refl _) _ (fun j hj => ?_) j h
  rcases (markM_get roots).1 hj with h | ⟨l, hl, e, _⟩
  ·exact absurd h rep_false
  ·rw [<- e]; exact .out hl
 ·intro h
  refine Nd.least (S := fun j => (coneM k gs roots).getD j false = true) (fun l hl => ?_) (fun i hi c => coneD_closed hg _ (Nat.le_refl _) _ hlen i hi hi c) (fun i hi => by cases hi) h
  have := hr l hl
  exact coneD_mono _ (Nat.le_refl _) _ ((markM_get roots).2 (.inr ⟨l, hl, rfl, by rw [List.length_replicate]; omega⟩))
theorem Nd.range {k0 k : Nat} {gs : List (Int × Int)} {nexts outs : List Int} (hg : okG k gs) (ho : ∀ l ∈ outs, 0 <= l /\ l < 2 * ((k + gs.length : Nat) : Int)) (hn : ∀ l ∈ nexts, 0 <= l /\ l < 2 * ((k + gs.length : Nat) : Int)) {j : Nat} (h : Nd k0 k gs nexts outs j) : j < k + gs.length :=
 Nd.least (S := fun j => j < k + gs.length) (fun l hl => by have := ho l hl; omega) (fun i hi _ => by have := hg i hi; constructor <;> omega) (fun i hi _ => by have := hn _ (List.getElem_mem hi); omega) h
def keepG (k : Nat) (keep : List Bool) (b0 : List Int) (gs : List (Int × Int)) : List Int × List (Int × Int) := gs.foldl (keepS k keep) (b0, [])
theorem keepG_succ {k : Nat} {keep : List Bool} {b0 : List Int} {gs : List (Int × Int)} {i : Nat} (h : i < gs.length) : keepG k keep b0 (gs.take (i + 1)) = keepS k keep (keepG k keep b0 (gs.take i)) gs[i] := by
 unfold keepG
 rw [List.take_succ_eq_append_getElem h, List.foldl_append]; rfl
theorem getD_lt {l : List Int} {x : Int} {i : Nat} (h : i < l.length) : (l ++ [x]).getD i 0 = l.getD i 0 := by rw [getD_snocI, if_pos h]
theorem getD_eqL {l : List Int} {x : Int} {i : Nat} (h : i = l.length) : (l ++ [x]).getD i 0 = x := by rw [getD_snocI, if_neg (by omega), if_pos h]
theorem atL_lt {l : List Int} {x y : Int} (h : (y / 2).toNat < l.length) : atL (l ++ [x]) y = atL l y := by unfold atL; rw [getD_lt h]
structure KeepR (k K : Nat) (keep : List Bool) (b0 : List Int) (gs : List (Int × Int)) (s : List Int × List (Int × Int)) : Prop where
 len : s.1.length = K + gs.length
 base : ∀ j, j < K -> s.1.getD j 0 = b0.getD j 0
 yes : ∀ (i : Nat) (h : i < gs.length), keep.getD (K + i) false = true -> ∃ p, ∃ hp : p < s.2.length, s.1.getD (K + i) 0 = 2 * ((k + p : Nat) : Int) /\ s.2[p] = (atL s.1 gs[i].1, atL s.1 gs[i].2)
 no : ∀ (i : Nat), i < gs.length -> keep.getD (K + i) false = false -> s.1.getD (K + i) 0 = 0
 onto : ∀ (p : Nat), p < s.2.length -> ∃ i, i < gs.length /\ keep.getD (K + i) false = true /\ s.1.getD (K + i) 0 = 2 * ((k + p : Nat) : Int)
 mono : ∀ (i i' : Nat), i < i' -> i' < gs.length -> keep.getD (K + i) false = true -> keep.getD (K + i') false = true -> s.1.getD (K + i) 0 < s.1.getD (K + i') 0
 high : ∀ (i : Nat), i < gs.length -> s.1.getD (K + i) 0 < 2 * ((k + s.2.length : Nat) : Int)
theorem keep_r {k K : Nat} (hk0 : 0 < k) {keep : List Bool} {b0 : List Int} (hb : b0.length = K) {gs : List (Int × Int)} (hg : okG K gs) : ∀ i, i <= gs.length -> KeepR k K keep b0 (gs.take i) (keepG k keep b0 (gs.take i))
 | 0, _ => by
  have e : keepG k keep b0 (gs.take 0) = (b0, []) := rfl
  rw [e]
  exact ⟨by simpa using hb, fun _ _ => rfl, fun _ h => by simp at h, fun _ h => by simp at h, fun _ h => by simp at h, fun _ _ _ h => by simp at h, fun _ h => by simp at h⟩
 | i + 1, hi => by
  have ih := keep_r hk0 (keep := keep) hb hg i (by omega)
  have hl : (gs.take i).length = i := by rw [List.length_take]; omega
  have hl1 : (gs.take (i + 1)).length = i + 1 := by rw [List.length_take]; omega
  have hget : ∀ {j : Nat} (h : j < i), (gs.take (i + 1))[j]'(by omega) = (gs.take i)[j]'(by omega) := fun {j} h => by rw [List.getElem_take, List.getElem_take]
  have hgi : (gs.take (i + 1))[i]'(by omega) = gs[i] := by rw [List.getElem_take]
  have hk := hg i (by omega)
  rw [keepG_succ (by omega)]
  generalize keepG k keep b0 (gs.take i) = s at ih ⊢
  obtain ⟨len, base, yes, no, onto, mono, high⟩ := ih
  rw [hl] at len
  have hat : ∀ {x : Int} {j : Nat} (h : j < i + 1), atL (s.1 ++ [x]) ((gs.take (i + 1))[j]'(by omega)).1 = atL s.1 ((gs.take (i + 1))[j]'(by omega)).1 /\ atL (s.1 ++ [x]) ((gs.take (i + 1))[j]'(by omega)).2 = atL s.1 ((gs.take (i + 1))[j]'(by omega)).2 := fun {x j} h => by
   have := hg j (by omega)
   rw [List.getElem_take]
   exact ⟨atL_lt (by rw [len]; omega), atL_lt (by rw [len]; omega)⟩
  unfold keepS
  rw [len]
  split
  ·rename_i hy
   refine ⟨by simp only [List.length_append, List.length_singleton, len, hl1]; omega, fun j hj => ?_, fun j hj hkj => ?_, fun j hj hkj => ?_, fun p hp => ?_, fun j j' hjj hj' h1 h2 => ?_, fun j hj => ?_⟩
   ·dsimp only; rw [getD_lt (by omega)]; exact base j hj
   ·rw [hl1] at hj
    dsimp only
    rw [(hat hj).1, (hat hj).2]
    by_cases c : j < i
    ·obtain ⟨p, hp, e1, e2⟩ := yes j (by omega) hkj
     refine ⟨p, by simp only [List.length_append]; omega, by rw [getD_lt (by omega)]; exact e1, ?_⟩
     rw [List.getElem_append_left hp, e2, hget c]
    ·have e : j = i := by omega
     subst e
     refine ⟨s.2.length, by simp, by rw [getD_eqL len.symm], ?_⟩
     rw [List.getElem_append_right (Nat.le_refl _)]
     simp only [Nat.sub_self, List.getElem_cons_zero, hgi]
   ·rw [hl1] at hj
    dsimp only
    by_cases c : j < i
    ·rw [getD_lt (by omega)]; exact no j (by omega) hkj
    ·rw [show j = i by omega] at hkj; rw [hy] at hkj; cases hkj
   ·dsimp only at hp ⊢
    rw [List.length_append, List.length_singleton] at hp
    by_cases c : p < s.2.length
    ·obtain ⟨j, h1, h2, h3⟩ := onto p c
     exact ⟨j, by omega, h2, by rw [getD_lt (by omega)]; exact h3⟩
    ·exact ⟨i, by omega, hy, by rw [getD_eqL len.symm]; omega⟩
   ·rw [hl1] at hj'
    dsimp only
    by_cases c : j' < i
    ·rw [getD_lt (by omega), getD_lt (by omega)]; exact mono j j' hjj (by omega) h1 h2
    ·rw [getD_lt (by omega), getD_eqL (by omega)]; exact high j (by omega)
   ·rw [hl1] at hj
    dsimp only
    rw [List.length_append, List.length_singleton]
    by_cases c : j < i
    ·rw [getD_lt (by omega)]; have := high j (by omega); omega
    ·rw [getD_eqL (by omega)]; omega
  ·rename_i hn
   have hn : keep.getD (K + i) false = false := by simpa using hn
   refine ⟨by simp only [List.length_append, List.length_singleton, len, hl1]; omega, fun j hj => ?_, fun j hj hkj => ?_, fun j hj hkj => ?_, fun p hp => ?_, fun j j' hjj hj' h1 h2 => ?_, fun j hj => ?_⟩
   ·dsimp only; rw [getD_lt (by omega)]; exact base j hj
   ·rw [hl1] at hj
    dsimp only
    by_cases c : j < i
    ·rw [(hat hj).1, (hat hj).2]
     obtain ⟨p, hp, e1, e2⟩ := yes j (by omega) hkj
     exact ⟨p, hp, by rw [getD_lt (by omega)]; exact e1, by rw [e2, hget c]⟩
    ·rw [show j = i by omega, hn] at hkj; cases hkj
   ·rw [hl1] at hj
    dsimp only
    by_cases c : j < i
    ·rw [getD_lt (by omega)]; exact no j (by omega) hkj
    ·rw [getD_eqL (by omega)]
   ·dsimp only at hp ⊢
    obtain ⟨j, h1, h2, h3⟩ := onto p hp
    exact ⟨j, by omega, h2, by rw [getD_lt (by omega)]; exact h3⟩
   ·rw [hl1] at hj'
    dsimp only
    by_cases c : j' < i
    ·rw [getD_lt (by omega), getD_lt (by omega)]; exact mono j j' hjj (by omega) h1 h2
    ·rw [show j' = i by omega, hn] at h2; cases h2
   ·rw [hl1] at hj
    dsimp only
    by_cases c : j < i
    ·rw [getD_lt (by omega)]; exact high j (by omega)
    ·rw [getD_eqL (by omega)]
     omega
structure BaseR (k K : Nat) (B : Nat -> Prop) (b0 : List Int) : Prop where
 len : b0.length = K
 pos : 0 < K /\ 0 < k /\ B 0
 even : ∀ j, b0.getD j 0 % 2 = 0
 range : ∀ j, 0 <= b0.getD j 0 /\ b0.getD j 0 < 2 * (k : Int)
 mono : ∀ j j', j < j' -> j' < K -> B j -> B j' -> b0.getD j 0 < b0.getD j' 0
def Kd (K : Nat) (keep : List Bool) (B : Nat -> Prop) (j : Nat) : Prop := (j < K /\ B j) \/ (K <= j /\ keep.getD j false = true)
def Closed (K : Nat) (keep : List Bool) (B : Nat -> Prop) (gs : List (Int × Int)) : Prop := ∀ (i : Nat) (h : i < gs.length), keep.getD (K + i) false = true -> Kd K keep B (gs[i].1 / 2).toNat /\ Kd K keep B (gs[i].2 / 2).toNat
section
variable {k K : Nat} {keep : List Bool} {B : Nat -> Prop} {b0 : List Int} {gs : List (Int × Int)} {s : List Int × List (Int × Int)}
theorem KeepR.even (h : KeepR k K keep b0 gs s) (hb : BaseR k K B b0) (j : Nat) : s.1.getD j 0 % 2 = 0 := by
 by_cases c : j < K
 ·rw [h.base j c]; exact hb.even j
 ·by_cases c2 : j < K + gs.length
  ·have e : j = K + (j - K) := by omega
   rw [e]
   cases hk : keep.getD (K + (j - K)) false with
   | true =>
    obtain ⟨p, _, e1, _⟩ := h.yes (j - K) (by omega) hk
    rw [e1]; omega
   | false => rw [h.no (j - K) (by omega) hk]; rfl
  ·rw [List.getD_eq_getElem?_getD, List.getElem?_eq_none (by rw [h.len]; omega)]; rfl
theorem KeepR.lt (h : KeepR k K keep b0 gs s) (hb : BaseR k K B b0) {j j' : Nat} (hj : j < j') (hj' : j' < K + gs.length) (h1 : Kd K keep B j) (h2 : Kd K keep B j') : s.1.getD j 0 < s.1.getD j' 0 := by
 rcases h2 with ⟨a, b⟩ | ⟨a, b⟩
 ·rcases h1 with ⟨c, d⟩ | ⟨c, d⟩
  ·rw [h.base j c, h.base j' a]; exact hb.mono j j' hj a d b
  ·omega
 ·rw [show j' = K + (j' - K) by omega] at b ⊢
  rcases h1 with ⟨c, d⟩ | ⟨c, d⟩
  ·obtain ⟨p, _, e1, _⟩ := h.yes (j' - K) (by omega) b
   rw [h.base j c, e1]
   have := hb.range j
   omega
  ·rw [show j = K + (j - K) by omega] at d ⊢
   exact h.mono (j - K) (j' - K) (by omega) (by omega) d b
theorem KeepR.inj (h : KeepR k K keep b0 gs s) (hb : BaseR k K B b0) {j j' : Nat} (hj : j < K + gs.length) (hj' : j' < K + gs.length) (h1 : Kd K keep B j) (h2 : Kd K keep B j') (e : s.1.getD j 0 = s.1.getD j' 0) : j = j' := by
 rcases Nat.lt_trichotomy j j' with c | c | c
 ·have := h.lt hb c hj' h1 h2; omega
 ·exact c
 ·have := h.lt hb c hj h2 h1; omega
theorem KeepR.at_ (h : KeepR k K keep b0 gs s) (hb : BaseR k K B b0) (l : Int) : atL s.1 l = s.1.getD (l / 2).toNat 0 + l % 2 := by
 have := h.even hb (l / 2).toNat
 unfold atL flipL
 by_cases c : l % 2 = 1
 ·rw [if_pos c, if_pos this]; omega
 ·rw [if_neg c]; omega
theorem KeepR.node (h : KeepR k K keep b0 gs s) (hb : BaseR k K B b0) (l : Int) : atL s.1 l / 2 = s.1.getD (l / 2).toNat 0 / 2 := by
 have := h.even hb (l / 2).toNat
 rw [h.at_ hb]; omega
theorem KeepR.red (h : KeepR k K keep b0 gs s) (hb : BaseR k K B b0) (hr : Red K gs) (hc : Closed K keep B gs) (hok : okG k s.2) : Red k s.2 := fun p hp => by
 obtain ⟨i, hi, hk, he⟩ := h.onto p hp
 obtain ⟨p', hp', e1, e2⟩ := h.yes i hi hk
 have : p' = p := by omega
 subst this
 obtain ⟨c1, c2⟩ := hc i hi hk
 obtain ⟨q1, q2, q3, q4⟩ := hr i hi
 have k0 : Kd K keep B 0 := .inl ⟨hb.pos.1, hb.pos.2.2⟩
 have z1 := h.lt hb (j := 0) (j' := (gs[i].1 / 2).toNat) (by omega) (by omega) k0 c1
 have z0 := h.base 0 hb.pos.1
 have z0' := hb.range 0
 have z2 := h.lt hb (j := (gs[i].1 / 2).toNat) (j' := (gs[i].2 / 2).toNat) (by omega) (by omega) c1 c2
 have v1 := h.even hb (gs[i].1 / 2).toNat
 have v2 := h.even hb (gs[i].2 / 2).toNat
 have v0 := h.even hb 0
 have a1 := h.at_ hb gs[i].1
 have a2 := h.at_ hb gs[i].2
 have ok := hok p' hp
 rw [e2] at ok
 rw [e2]
 dsimp only at ok ⊢
 refine ⟨by omega, by omega, ok.2.2, fun hm => ?_⟩
 obtain ⟨x, hx, ex⟩ := List.mem_iff_getElem.1 hm
 rw [List.length_take] at hx
 rw [List.getElem_take] at ex
 obtain ⟨i2, hi2, hk2, he2⟩ := h.onto x (by omega)
 obtain ⟨p2, hp2, f1, f2⟩ := h.yes i2 hi2 hk2
 have : p2 = x := by omega
 subst this
 rw [f2] at ex
 obtain ⟨d1, d2⟩ := hc i2 hi2 hk2
 obtain ⟨r1, r2, r3, r4⟩ := hr i2 hi2
 have b1 := h.at_ hb gs[i2].1
 have b2 := h.at_ hb gs[i2].2
 have w1 := h.even hb (gs[i2].1 / 2).toNat
 have w2 := h.even hb (gs[i2].2 / 2).toNat
 obtain ⟨x1, x2⟩ := Prod.mk.injEq _ _ _ _ ▸ ex
 have n1 := h.inj hb (j := (gs[i2].1 / 2).toNat) (j' := (gs[i].1 / 2).toNat) (by omega) (by omega) d1 c1 (by omega)
 have n2 := h.inj hb (j := (gs[i2].2 / 2).toNat) (j' := (gs[i].2 / 2).toNat) (by omega) (by omega) d2 c2 (by omega)
 have hlt : i2 < i := by
  rcases Nat.lt_trichotomy i2 i with c | c | c
  ·exact c
  ·subst c; omega
  ·have := h.mono i i2 c hi2 hk hk2; omega
 have ge : gs[i2] = gs[i] := Prod.ext (by rw [n1] at b1; omega) (by rw [n2] at b2; omega)
 exact q4 (by rw [<- ge]; exact List.mem_of_getElem? (i := i2) (by rw [List.getElem?_take, if_pos hlt, List.getElem?_eq_getElem hi2]))
theorem KeepR.nd (h : KeepR k K keep b0 gs s) (hb : BaseR k K B b0) {k0 k0' : Nat} {nexts nexts' outs : List Int} (hk : ∀ i, i < gs.length -> Nd k0 K gs nexts outs (K + i) -> keep.getD (K + i) false = true) (hreg : ∀ (i : Nat) (hi : i < nexts.length), Nd k0 K gs nexts outs (k0 + i) -> ∃ r, ∃ hr : r < nexts'.length, s.1.getD (k0 + i) 0 = 2 * ((k0' + r : Nat) : Int) /\ nexts'[r] = atL s.1 nexts[i]) {j : Nat} (hj : Nd k0 K gs nexts outs j) : Nd k0' k s.2 nexts' (outs.map (atL s.1)) (s.1.getD j 0 / 2).toNat := by
 have ev : ∀ l, (atL s.1 l / 2).toNat = (s.1.getD (l / 2).toNat 0 / 2).toNat := fun l => by rw [h.node hb]
 induction hj with
 | out hl => rw [<- ev]; exact .out (List.mem_map_of_mem hl)
 | @g1 i hi hp ih =>
  obtain ⟨p, hp', e1, e2⟩ := h.yes i hi (hk i hi hp)
  rw [e1, show (2 * ((k + p : Nat) : Int) / 2).toNat = k + p by omega] at ih
  have := Nd.g1 hp' ih
  rw [e2] at this
  rw [<- ev]; exact this
 | @g2 i hi hp ih =>
  obtain ⟨p, hp', e1, e2⟩ := h.yes i hi (hk i hi hp)
  rw [e1, show (2 * ((k + p : Nat) : Int) / 2).toNat = k + p by omega] at ih
  have := Nd.g2 hp' ih
  rw [e2] at this
  rw [<- ev]; exact this
 | @reg i hi hp ih =>
  obtain ⟨r, hr, e1, e2⟩ := hreg i hi hp
  rw [e1, show (2 * ((k0' + r : Nat) : Int) / 2).toNat = k0' + r by omega] at ih
  have := Nd.reg hr ih
  rw [e2] at this
  rw [<- ev]; exact this
end
theorem keep_id {k : Nat} {keep : List Bool} {G : List (Int × Int)} (hg : okG k G) (hk : ∀ i, i < G.length -> keep.getD (k + i) false = true) : ∀ i, i <= G.length -> keepG k keep (idL k) (G.take i) = (idL (k + i), G.take i)
 | 0, _ => rfl
 | i + 1, hi => by
  have := hg i (by omega)
  rw [keepG_succ (by omega), keep_id hg hk i (by omega)]
  unfold keepS
  dsimp only
  rw [idL_len, if_pos (hk i (by omega)), atL_id this.1, atL_id this.2, List.length_take, show min i G.length = i by omega, List.take_succ_eq_append_getElem (by omega), show k + (i + 1) = (k + i) + 1 by omega, idL_succ]
theorem keepA {A : Type} {α : Alg A} (L : Laws α) {k K : Nat} {keep : List Bool} {B : Nat -> Prop} {b0 : List Int} (hk0 : 0 < k) (hb : b0.length = K) {u w : List A} (hu : u.length = k) (hw : w.length = K) (hv : ∀ j, j < K -> B j -> litA α u (b0.getD j 0) = w.getD j α.z) (hr : ∀ j, 0 <= b0.getD j 0 /\ b0.getD j 0 < 2 * (k : Int)) {gs : List (Int × Int)} (hg : okG K gs) (hc : Closed K keep B gs) : ∀ i, i <= gs.length -> (∀ j, 0 <= (keepG k keep b0 (gs.take i)).1.getD j 0 /\ (keepG k keep b0 (gs.take i)).1.getD j 0 < 2 * ((k + (keepG k keep b0 (gs.take i)).2.length : Nat) : Int)) /\ ∀ j, j < K + i -> Kd K keep B j -> litA α (gatesA α u (keepG k keep b0 (gs.take i)).2) ((keepG k keep b0 (gs.take i)).1.getD j 0) = (gatesA α w (gs.take i)).getD j α.z
 | 0, _ => ⟨hr, fun j hj hd => by
  rcases hd with ⟨a, b⟩ | ⟨a, b⟩
  ·exact hv j a b
  ·omega⟩
 | i + 1, hi => by
  obtain ⟨hrg, ih⟩ := keepA L hk0 hb hu hw hv hr hg hc i (by omega)
  have hkr := keep_r hk0 (keep := keep) hb hg i (by omega)
  have hlen := hkr.len
  rw [List.length_take, show min i gs.length = i by omega] at hlen
  have hwl : (gatesA α w (gs.take i)).length = K + i := by rw [gatesA_len, hw, List.length_take]; omega
  have hk := hg i (by omega)
  have hcl := hc i (by omega)
  rw [keepG_succ (by omega), List.take_succ_eq_append_getElem (by omega), gatesA_snoc]
  generalize keepG k keep b0 (gs.take i) = s at ih hlen hrg ⊢
  generalize gatesA α w (gs.take i) = x at ih hwl ⊢
  have at_ : ∀ l, 0 <= l /\ l < 2 * ((K + i : Nat) : Int) -> Kd K keep B (l / 2).toNat -> litA α (gatesA α u s.2) (atL s.1 l) = litA α x l := fun l h hd => by
   unfold atL
   rw [litA_flip L, ih _ (by omega) hd]
   rfl
  unfold keepS
  rw [hlen]
  split
  ·rename_i hy
   obtain ⟨c1, c2⟩ := hcl hy
   refine ⟨fun j => ?_, fun j hj hd => ?_⟩
   ·dsimp only
    rw [getD_snocI, List.length_append, List.length_singleton]
    have := hrg j
    split
    ·omega
    ·split <;> omega
   ·dsimp only
    by_cases c : j < K + i
    ·rw [getD_lt (by omega), gatesA_app, litA_keep (by rw [gatesA_len, hu]; exact hrg j), ih j c hd, getD_app, if_pos (by omega)]
    ·rw [getD_eqL (by omega), gatesA_snoc, getD_app, if_neg (by omega), show j - x.length = 0 by omega]
     unfold litA
     rw [if_neg (by omega), show (2 * ((k + s.2.length : Nat) : Int) / 2).toNat = k + s.2.length by omega, getD_app, gatesA_len, hu, if_neg (by omega), Nat.sub_self]
     show α.and (litA α (gatesA α u s.2) (atL s.1 gs[i].1)) (litA α (gatesA α u s.2) (atL s.1 gs[i].2)) = α.and (litA α x gs[i].1) (litA α x gs[i].2)
     rw [at_ _ hk.1 c1, at_ _ hk.2 c2]
  ·rename_i hn
   refine ⟨fun j => ?_, fun j hj hd => ?_⟩
   ·dsimp only
    rw [getD_snocI]
    have := hrg j
    split
    ·exact this
    ·split <;> omega
   ·dsimp only
    have c : j < K + i := by
     rcases hd with ⟨a, b⟩ | ⟨a, b⟩
     ·omega
     ·apply Classical.byContradiction
      intro c
      rw [show j = K + i by omega] at b
      exact hn b
    rw [getD_lt (by omega), ih j c hd, getD_app, if_pos (by omega)]
end Go.NetM
namespace Go.NetM
theorem atL_half {l : List Int} {x : Int} (h : l.getD (x / 2).toNat 0 % 2 = 0) : 2 * (l.getD (x / 2).toNat 0 / 2) + x % 2 = atL l x := by
 unfold atL flipL
 by_cases hx : x % 2 = 1
 ·rw [if_pos hx, if_pos h]; omega
 ·rw [if_neg hx]; omega
def evL (l : List Int) : Prop := ∀ j, l.getD j 0 % 2 = 0
theorem evL_snoc {l : List Int} {x : Int} (h : evL l) (hx : x % 2 = 0) : evL (l ++ [x]) := fun j => by
 rw [getD_snocI]
 split
 ·exact h j
 ·split
  ·exact hx
  ·rfl
theorem idL_ev (k : Nat) : evL (idL k) := fun j => by
 rw [idL_get]
 split <;> omega
theorem selRM_ev {k0 : Nat} {keep : List Bool} : ∀ i, evL (selRM k0 keep i).1
 | 0 => idL_ev k0
 | i + 1 => by
  have ih := selRM_ev (k0 := k0) (keep := keep) i
  show evL (selR k0 keep (selRM k0 keep i)).1
  unfold selR
  split
  ·exact evL_snoc ih (by omega)
  ·exact evL_snoc ih rfl
theorem selM_ev {k0 nregs : Nat} {keep : List Bool} (gs : List (Int × Int)) : ∀ i, i <= gs.length -> evL (selM k0 nregs keep (gs.take i)).1
 | 0, _ => selRM_ev nregs
 | i + 1, h => by
  have ih := selM_ev (k0 := k0) (nregs := nregs) (keep := keep) gs i (by omega)
  rw [selM_succ (by omega)]
  unfold keepS
  split
  ·exact evL_snoc ih (by omega)
  ·exact evL_snoc ih rfl
end Go.NetM
namespace Go.OptEnv
open Go Go.Proofs Go.Abs Go.RowKit Go.NetM
set_option maxRecDepth 10000
def Folded (n : GNet) : Prop := Red n.kN n.gates.xs /\ ∀ p, p < n.gates.xs.length -> Nd 0 n.kN n.gates.xs [] n.roots (n.kN + p)
theorem SameC.roots {a b : GNet} (h : SameC a b) : a.roots = b.roots := by
 unfold GNet.roots GNet.nexts
 rw [h.regs, h.outs]
theorem SameC.folded {a b : GNet} (h : SameC a b) (hf : Folded b) : Folded a := by
 unfold Folded
 rw [h.k, h.gates, h.roots]; exact hf
theorem kN_pos (n : GNet) : 0 < n.kN := by unfold GNet.kN; omega
theorem roots_range {n : GNet} (hv : validM n = true) : ∀ l ∈ n.roots, 0 <= l /\ l < 2 * ((n.kN + n.gates.xs.length : Nat) : Int) := fun l hl => by
 obtain ⟨_, hrn, hol⟩ := valid_lits hv
 unfold GNet.roots GNet.nexts at hl
 rcases List.mem_append.1 hl with h | h
 ·obtain ⟨r, hr, rfl⟩ := List.mem_map.1 h; exact hrn r hr
 ·obtain ⟨r, hr, rfl⟩ := List.mem_map.1 h; exact hol r hr
theorem reg_ext {r : GReg} {x : Int} (h : x = r.next) : (⟨r.name, r.init, x⟩ : GReg) = r := by subst h; rfl
theorem pin_ext {r : GPin} {x : Int} (h : x = r.lit) : (⟨r.name, x⟩ : GPin) = r := by subst h; rfl
theorem lay_id {n : GNet} (hv : validM n = true) : SameC (layN n (idL (n.kN + n.gates.xs.length), n.gates.xs)) n := by
 obtain ⟨_, hrn, hol⟩ := valid_lits hv
 obtain ⟨e1, e2, e3, e4⟩ := lay_xs (n := n) (s := (idL (n.kN + n.gates.xs.length), n.gates.xs))
 refine ⟨e1, ?_, e3, ?_⟩
 ·rw [e2]
  conv => rhs; rw [<- List.map_id n.regs.xs]
  refine List.map_congr_left fun r hr => ?_
  have := hrn r hr
  exact reg_ext (atL_id (by exact ⟨this.1, this.2⟩))
 ·rw [e4]
  conv => rhs; rw [<- List.map_id n.outs.xs]
  refine List.map_congr_left fun r hr => ?_
  have := hol r hr
  exact pin_ext (atL_id (by exact ⟨this.1, this.2⟩))
theorem share_idN {n : GNet} (hv : validM n = true) (hr : Red n.kN n.gates.xs) : SameC (shareN n) n := by
 have e := share_id hr n.gates.xs.length (Nat.le_refl _)
 rw [List.take_length] at e
 unfold shareN shareS
 rw [e]
 exact lay_id hv
theorem cone_get {n : GNet} (hv : validM n = true) (j : Nat) : (coneN n n.roots).getD j false = true ↔ Nd 0 n.kN n.gates.xs [] n.roots j := cone_iff (valid_lits hv).1 (roots_range hv) j
theorem clean_idN {n : GNet} (hv : validM n = true) (hc : ∀ p, p < n.gates.xs.length -> Nd 0 n.kN n.gates.xs [] n.roots (n.kN + p)) : SameC (cleanN n) n := by
 have e := keep_id (k := n.kN) (keep := coneN n n.roots) (valid_lits hv).1 (fun i hi => (cone_get hv _).2 (hc i hi)) n.gates.xs.length (Nat.le_refl _)
 rw [List.take_length] at e
 have e2 : cleanS n = (idL (n.kN + n.gates.xs.length), n.gates.xs) := e
 unfold cleanN
 rw [e2]
 exact lay_id hv
theorem fold_id {n : GNet} (hv : validM n = true) (hf : Folded n) : SameC (foldN n) n := ((share_idN hv hf.1).cleaned).trans (clean_idN hv hf.2)
theorem base_id {k : Nat} (hk : 0 < k) : BaseR k k (fun _ => True) (idL k) := by
 refine ⟨idL_len k, ⟨hk, hk, trivial⟩, idL_ev k, idL_range hk, fun j j' h h' _ _ => ?_⟩
 rw [idL_get, idL_get, if_pos (by omega), if_pos h']
 omega
theorem cone_closed {n : GNet} (hv : validM n = true) : Closed n.kN (coneN n n.roots) (fun _ => True) n.gates.xs := fun i hi h => by
 have hn := (cone_get hv _).1 h
 have key : ∀ j, Nd 0 n.kN n.gates.xs [] n.roots j -> Kd n.kN (coneN n n.roots) (fun _ => True) j := fun j hj => by
  by_cases c : j < n.kN
  ·exact .inl ⟨c, trivial⟩
  ·exact .inr ⟨by omega, (cone_get hv _).2 hj⟩
 exact ⟨key _ (.g1 hi hn), key _ (.g2 hi hn)⟩
theorem clean_r {n : GNet} (hv : validM n = true) : KeepR n.kN n.kN (coneN n n.roots) (idL n.kN) n.gates.xs (cleanS n) := by
 have := keep_r (kN_pos n) (keep := coneN n n.roots) (idL_len n.kN) (valid_lits hv).1 n.gates.xs.length (Nat.le_refl _)
 rw [List.take_length] at this
 exact this
theorem lay_kN {n : GNet} {s : List Int × List (Int × Int)} : (layN n s).kN = n.kN := by
 obtain ⟨e1, e2, _, _⟩ := lay_xs (n := n) (s := s)
 unfold GNet.kN
 rw [e1, e2, List.length_map]
theorem lay_roots {n : GNet} {s : List Int × List (Int × Int)} : (layN n s).roots = n.roots.map (atL s.1) := by
 obtain ⟨_, e2, _, e4⟩ := lay_xs (n := n) (s := s)
 unfold GNet.roots GNet.nexts
 rw [e2, e4, List.map_append, List.map_map, List.map_map, List.map_map, List.map_map]
 rfl
theorem clean_folded {n : GNet} (hv : validM n = true) (hr : Red n.kN n.gates.xs) : Folded (cleanN n) := by
 have hk := clean_r hv
 have hb := base_id (kN_pos n)
 have hg : (cleanN n).gates.xs = (cleanS n).2 := (lay_xs (n := n) (s := cleanS n)).2.2.1
 have hkN : (cleanN n).kN = n.kN := lay_kN
 have hro : (cleanN n).roots = n.roots.map (atL (cleanS n).1) := lay_roots
 have hok := (clean_full n).ok
 unfold Folded
 rw [hg, hkN, hro]
 refine ⟨hk.red hb hr (cone_closed hv) hok, fun p hp => ?_⟩
 obtain ⟨i, hi, h1, h2⟩ := hk.onto p hp
 have hn := (cone_get hv _).1 h1
 have := hk.nd hb (k0 := 0) (k0' := 0) (nexts := []) (nexts' := []) (outs := n.roots) (fun i hi h => (cone_get hv _).2 h) (fun i hi => by cases hi) hn
 rw [h2, show (2 * ((n.kN + p : Nat) : Int) / 2).toNat = n.kN + p by omega] at this
 exact this
theorem share_redN {n : GNet} : Red (shareN n).kN (shareN n).gates.xs := by
 have hg : (shareN n).gates.xs = (shareS n).2 := (lay_xs (n := n) (s := shareS n)).2.2.1
 have hkN : (shareN n).kN = n.kN := lay_kN
 rw [hg, hkN]
 have := share_red (kN_pos n) (idL_range (kN_pos n)) n.gates.xs n.gates.xs.length (Nat.le_refl _)
 rw [List.take_length] at this
 exact this
theorem fold_folded {n : GNet} (hv : validM n = true) : Folded (foldN n) := clean_folded (share_valid hv) share_redN
theorem again_red {n : GNet} {keep : List Bool} {lits : List Int} (hs : Stand n.k0 n.regs.xs.length keep lits) : Red (againM n keep lits).kN (againM n keep lits).gates.xs := by
 have hg : (againM n keep lits).gates.xs = (againS n keep lits).2 := gof_xs _
 have hkN : (againM n keep lits).kN = n.kk keep := netOf_kN (clone_xs _)
 rw [hg, hkN]
 have := share_red (kk_pos n keep) (againL_range hs) n.gates.xs n.gates.xs.length (Nat.le_refl _)
 rw [List.take_length] at this
 exact this
theorem again_folded {n : GNet} (hv : validM n = true) {keep : List Bool} {lits : List Int} (hs : Stand n.k0 n.regs.xs.length keep lits) : Folded (againN n keep lits) := clean_folded (again_valid hv hs) (again_red hs)
theorem share_le (n : GNet) : (shareN n).gates.xs.length <= n.gates.xs.length := by
 have e : (shareN n).gates.xs = (shareS n).2 := (lay_xs (n := n) (s := shareS n)).2.2.1
 rw [e]
 have := (share_sh n (Nat.le_refl n.gates.xs.length)).gates
 rw [List.take_length] at this
 exact this
theorem clean_le (n : GNet) : (cleanN n).gates.xs.length <= n.gates.xs.length := by
 have e : (cleanN n).gates.xs = (cleanS n).2 := (lay_xs (n := n) (s := cleanS n)).2.2.1
 rw [e]
 exact (clean_full n).gates
theorem fold_le (n : GNet) : (foldN n).gates.xs.length <= n.gates.xs.length := Nat.le_trans (clean_le _) (share_le n)
theorem again_le {n : GNet} {keep : List Bool} {lits : List Int} (hs : Stand n.k0 n.regs.xs.length keep lits) : (againN n keep lits).gates.xs.length <= n.gates.xs.length := by
 refine Nat.le_trans (clean_le _) ?_
 have hg : (againM n keep lits).gates.xs = (againS n keep lits).2 := gof_xs _
 rw [hg]
 exact (againS_sh hs).gates
theorem settle_stay : ∀ (j : Nat) {n : GNet}, n.regs.xs.length <= j -> stayAll (settleP j n)
 | 0, n, h => by
  intro b hb
  have : n.stuck.length = 0 := by rw [stuck_len]; omega
  change b ∈ n.stuck at hb
  rw [List.length_eq_zero_iff.1 this] at hb
  cases hb
 | j + 1, n, h => by
  simp only [settleP]
  split
  ·assumption
  ·rename_i hs
   have := stepP_regs hs
   exact settle_stay j (by omega)
theorem fold_regs' (n : GNet) : (foldN n).regs.xs.length = n.regs.xs.length /\ (foldN n).ins.xs = n.ins.xs := by
 unfold foldN
 obtain ⟨a, b⟩ := clean_same (shareN n)
 obtain ⟨e1, e2, _, _⟩ := lay_xs (n := n) (s := shareS n)
 exact ⟨by rw [a]; show (layN n (shareS n)).regs.xs.length = _; rw [e2, List.length_map], by rw [b]; exact e1⟩
structure SetFin (n m : GNet) : Prop where
 v : validM m = true
 f : Folded m
 g : m.gates.xs.length <= n.gates.xs.length
 r : m.regs.xs.length <= n.regs.xs.length
 i : m.ins.xs = n.ins.xs
theorem settle_fin {o : GNet} : ∀ (j : Nat) {n : GNet}, SetFin o n -> SetFin o (settleP j n)
 | 0, _, h => h
 | j + 1, n, h => by
  simp only [settleP]
  split
  ·exact h
  ·rename_i hs
   have h1 := stepP_regs hs
   have h2 := again_le (lit_stand h.v)
   have h3 := h.g
   have h4 := h.r
   exact settle_fin j ⟨stepP_valid h.v, again_folded h.v (lit_stand h.v), Nat.le_trans h2 h3, by omega, by rw [stepP_ins]; exact h.i⟩
theorem settle_fin0 {n : GNet} (hv : validM n = true) : SetFin n (settleP n.regs.xs.length (foldN n)) :=
 settle_fin _ ⟨fold_valid hv, fold_folded hv, fold_le n, by rw [(fold_regs' n).1]; exact Nat.le_refl _, (fold_regs' n).2⟩
end Go.OptEnv
