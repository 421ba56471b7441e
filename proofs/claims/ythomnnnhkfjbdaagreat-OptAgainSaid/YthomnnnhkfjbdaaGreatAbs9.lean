/- Own text of this claim: part 9 of an interpreter that is proved sound against the model, and of what it shows of the law. -/
import Derived.Test.YthomnnnhkfjbdaaGreatAbs8
import Derived.Test.YthomnnnhkfjbdaaGreatAbs7
namespace Go.Abs
open Go.RowKit
section
variable {E : Env} {fid N : Nat} {l : List (Nat × AV)} {L X : List (Nat × AObj)} {K Y : List (Nat × Bool)} {Q : AExit -> TM -> St -> Prop}
variable {c : Bool} {pol : Nat -> Nat} {ops : Array Oper} {o : Oper} {r : List Oper} {i : Nat} {d : Nat} {ty : TypeId} {pos : String} {after : Array Edge} {guard : Option (Nat × Bool)}
def SegY (E : Env) (ops : Array Oper) (N : Nat) (L : List (Nat × AObj)) (K : List (Nat × Bool)) (pol : Nat -> Nat) (r : List Oper) (i : Nat) (l : List (Nat × AV)) (X : List (Nat × AObj)) (Y : List (Nat × Bool)) (k : List (Nat × AV) -> List (Nat × AObj) -> List (Nat × Bool) -> Prop) : Prop :=
 ∀ (tm : TM) (s0 : St) (pre : Pre), Fa N l (X ++ L) (Y ++ K) tm s0 -> (∀ b, pre = some b -> b.2 = false) -> ∃ n tr tm' s1 l' X' Y', runOpsT E (callF E n) pre pol ops r i tm s0 = some (tr, tm', s1) /\ Fa N l' (X' ++ L) (Y' ++ K) tm' s1 /\ k l' X' Y' /\
  ∀ (k : Nat) (t : Tr) (o : Oper), tr[k]? = some t -> r[k]? = some o -> SFa L K t.was /\ SFa L K t.now /\ (t.did = true -> isLoud o.op = false -> ∀ s, SFa L K s -> quiet E t.tm s o = some t.v)
theorem Fa.baseY {tm : TM} {st : St} (h : Fa N l (X ++ L) (Y ++ K) tm st) : Fa N l L K tm st :=
 h.sub (fun _ _ h => h) ⟨fun k => X.length + k, fun k p hk => by show (X ++ L)[X.length + k]? = _; rw [List.getElem?_append_right (by omega), Nat.add_sub_cancel_left]; exact hk, fun _ _ _ _ h => by have h : X.length + _ = X.length + _ := h; omega⟩
  ⟨fun k => Y.length + k, fun k t hk => by show (Y ++ K)[Y.length + k]? = _; rw [List.getElem?_append_right (by omega), Nat.add_sub_cancel_left]; exact hk, fun _ _ _ _ _ _ h => by have h : Y.length + _ = Y.length + _ := h; omega⟩
variable {k : List (Nat × AV) -> List (Nat × AObj) -> List (Nat × Bool) -> Prop}
theorem SegY.nil (h : k l X Y) : SegY E ops N L K pol [] i l X Y k := fun tm s0 pre hF _ => ⟨0, [], tm, s0, l, X, Y, rfl, hF, h, fun k t o ht => by simp at ht⟩
theorem SegY.quiet {v : AV} (hw : wantS ops l o = some true) (hd : o.dst = some d) (hn : Nat.blt d N = true) (hl : isLoud o.op = false) (hq : ∀ tm st, Fa N l L K tm st -> Abs.quiet E tm st o = some v) (h : SegY E ops N L K pol r (i + 1) ((d, v) :: l) X Y k) : SegY E ops N L K pol (o :: r) i l X Y k := by
 intro tm s0 pre hF hp
 obtain ⟨n, tr, tm', s1, l', X', Y', h1, h2, h3, h4⟩ := h (tm.put d v) s0 pre (hF.put hn v) hp
 refine ⟨n, ⟨tm, s0, s0, v, true⟩ :: tr, tm', s1, l', X', Y', ?_, h2, h3, fun k t o' ht ho => ?_⟩
 ·simp only [runOpsT]
  rw [hF.want hw]
  dsimp only
  rw [stepPre_quiet hl (hq tm s0 hF.baseY), hd]
  dsimp only [putO]
  rw [h1]
 ·cases k with
  | zero =>
   simp only [List.getElem?_cons_zero, Option.some.injEq] at ht ho
   subst ht; subst ho
   exact ⟨hF.baseY.s, hF.baseY.s, fun _ _ s hs => hq tm s (hF.baseY.withS hs)⟩
  | succ k =>
   simp only [List.getElem?_cons_succ] at ht ho
   exact h4 k t o' ht ho
theorem SegY.loud (hw : wantS ops l o = some true) (hd : o.dst = some d) (hn : Nat.blt d N = true) (hl : isLoud o.op = true) (hf : isFnCall o.op = false) (hal : ∀ t, o.op ≠ .alloc t)
  (hq : ∀ tm st, Fa N l (X ++ L) (Y ++ K) tm st -> ∃ v st' X' Y', Abs.loud E noCall (pol i) tm st o = some (v, st') /\ Fa N l (X' ++ L) (Y' ++ K) tm st' /\ SegY E ops N L K pol r (i + 1) ((d, v) :: l) X' Y' k) : SegY E ops N L K pol (o :: r) i l X Y k := by
 intro tm s0 pre hF hp
 obtain ⟨v, st', X1, Y1, q1, q2, q3⟩ := hq tm s0 hF
 obtain ⟨n, tr, tm', s1, l', X', Y', h1, h2, h3, h4⟩ := q3 (tm.put d v) st' pre (q2.put hn v) hp
 refine ⟨n, ⟨tm, s0, st', v, true⟩ :: tr, tm', s1, l', X', Y', ?_, h2, h3, fun k t o' ht ho => ?_⟩
 ·have hs' : stepPre E (callF E n) pre (pol i) i tm s0 o = some (v, st') := stepPre_loud (fun b hb => ⟨hp b hb, hal⟩) hl hf q1
  simp only [runOpsT]
  rw [hF.want hw]
  dsimp only
  rw [hs', hd]
  dsimp only [putO]
  rw [h1]
 ·cases k with
  | zero =>
   simp only [List.getElem?_cons_zero, Option.some.injEq] at ht ho
   subst ht; subst ho
   exact ⟨hF.baseY.s, q2.baseY.s, fun _ h => by rw [hl] at h; cases h⟩
  | succ k =>
   simp only [List.getElem?_cons_succ] at ht ho
   exact h4 k t o' ht ho
theorem SegY.auto {op : Op} {v : AV} (hw : wantS ops l { dst := some d, op := op, type := ty, pos := pos, after := after, guard := guard } = some true) (hn : Nat.blt d N = true) (hl : isLoud op = false) (h : quietS E l op = some v) (k1 : SegY E ops N L K pol r (i + 1) ((d, v) :: l) X Y k) : SegY E ops N L K pol ({ dst := some d, op := op, type := ty, pos := pos, after := after, guard := guard } :: r) i l X Y k :=
 .quiet hw rfl hn hl (fun _ _ hF => quietS_sound h hF) k1
theorem SegY.indexAddr {t : TypeId} {x y : Operand} {a b v : AV} (hw : wantS ops l { dst := some d, op := .indexAddr t x y, type := ty, pos := pos, after := after, guard := guard } = some true) (hn : Nat.blt d N = true) (hx : evL l x = some a) (hy : evL l y = some b) (h : indexAddrA E t a b = some v) (k1 : SegY E ops N L K pol r (i + 1) ((d, v) :: l) X Y k) :
  SegY E ops N L K pol ({ dst := some d, op := .indexAddr t x y, type := ty, pos := pos, after := after, guard := guard } :: r) i l X Y k :=
 .quiet hw rfl hn rfl (fun _ _ hF => quiet_indexAddr hx hy h hF) k1
theorem SegY.loadP (kk : Nat) {t : TypeId} {x : Operand} {b j off sz : Nat} {xs : List AV} {e v : AV} (hw : wantS ops l { dst := some d, op := .load t x, type := ty, pos := pos, after := after, guard := guard } = some true) (hn : Nat.blt d N = true) (hx : evL l x = some (.ptr b j off)) (hL : L[kk]? = some (b, .row sz xs)) (he : xs[j]? = some e) (ho : Nat.ble off e.cells.length = true)
  (hp : partA E t (e.cells.drop off) 0 = some v) (k1 : SegY E ops N L K pol r (i + 1) ((d, v) :: l) X Y k) : SegY E ops N L K pol ({ dst := some d, op := .load t x, type := ty, pos := pos, after := after, guard := guard } :: r) i l X Y k :=
 .quiet hw rfl hn rfl (fun _ _ hF => quiet_loadP kk hx hL he ho hp hF) k1
theorem SegY.append (kk : Nat) {ts tx e : TypeId} {s x : Operand} {t sz sz' : Nat} {xs ys : List AV} {a : AV} {tys tyx et : Ty} (hw : wantS ops l { dst := some d, op := .call { callee := .builtin .append, args := #[s, x], argTypes := #[ts, tx] }, type := ty, pos := pos, after := after, guard := guard } = some true) (hn : Nat.blt d N = true) (hpol : Nat.beq (pol i) 1 = false) (hs : evL l s = some (accA t sz xs)) (hx : evL l x = some a) (hK : Y[kk]? = some (t, !xs.isEmpty))
  (h1 : E.ty ts = some tys) (h2 : E.ty tx = some tyx) (h3 : tys.d = .slice e) (h4 : E.ty e = some et) (h5 : Nat.blt 0 et.size = true) (h6 : sz = et.size) (h7 : (tyx.d = .string /\ isStrA a = true) \/ ((∃ e', tyx.d = .slice e') /\ isStrA a = false)) (h8 : ∀ st, elemsA st a = some (sz', ys)) (h9 : okElems et ys = true) (h10 : (ys.isEmpty || Nat.beq sz' et.size) = true)
  (hroom : roomA et (xs.length + ys.length) = true) (hys : ys ≠ []) (k1 : ∀ t', SegY E ops N L K pol r (i + 1) ((d, accA t' sz (xs ++ ys)) :: l) X (Y.set kk (t', true)) k) :
  SegY E ops N L K pol ({ dst := some d, op := .call { callee := .builtin .append, args := #[s, x], argTypes := #[ts, tx] }, type := ty, pos := pos, after := after, guard := guard } :: r) i l X Y k := by
 subst h6
 refine .loud hw rfl hn rfl rfl (fun _ h => by cases h) fun tm st hF => ?_
 have h0 : Abs.loud E noCall (pol i) tm st { dst := some d, op := .call { callee := .builtin .append, args := #[s, x], argTypes := #[ts, tx] }, type := ty, pos := pos, after := after, guard := guard } = appendOpA E (pol i == 1) st ts tx (evalO tm s) (evalO tm x) := rfl
 have hp : (pol i == 1) = false := by
  have := Nat.ne_of_beq_eq_false hpol
  simpa using this
 have hkl := (List.getElem?_eq_some_iff.1 hK).1
 have hset : ∀ p, (Y ++ K).set kk p = Y.set kk p ++ K := fun p => List.set_append_left _ _ hkl
 have hK2 : (Y ++ K)[kk]? = some (t, !xs.isEmpty) := by rw [List.getElem?_append_left hkl]; exact hK
 rw [h0, hF.ev hs, hF.ev hx, hp, appendOp_key h1 h2 h3 h4 h5 h7 st (h8 st) h9 h10]
 cases ys with
 | nil => exact absurd rfl hys
 | cons y ys =>
  cases xs with
  | nil =>
   refine ⟨accA st.next et.size ([] ++ y :: ys), st.newTok.ttag st.next e, X, Y.set kk (st.next, true), ?_, ?_, k1 st.next⟩
   ·simp only [accA, appendA, List.nil_append]
    rw [if_pos (by simpa using hroom)]
    rfl
   ·have := (hF.tokNew (by simpa using hK2)).ttag st.next e
    rw [hset] at this
    exact this
  | cons x0 xs =>
   have hK' : (Y ++ K)[kk]? = some (t, true) := by simpa using hK2
   refine ⟨accA st.next et.size (x0 :: xs ++ y :: ys), tokOnA st t e, X, Y.set kk (st.next, true), ?_, ?_, k1 st.next⟩
   ·simp only [accA, appendA]
    rw [if_pos ⟨trivial, (hF.tok kk t hK').1, hroom⟩]
    rfl
   ·have hF' : Fa N l (X ++ L) ((Y ++ K).set kk (st.next, true)) tm (tokOnA st t e) := by
     unfold tokOnA
     split
     ·split
      ·exact (hF.tokDrop hK').ttag _ _
      ·exact hF.tokDrop hK'
     ·exact hF.tokDrop hK'
    rw [hset] at hF'
    exact hF'
theorem SegY.call {f : Operand} {args : Array Operand} {argTypes : Array TypeId} {g : FuncId} {first cap vs : List AV} {p : List AV -> St -> Option (AV × St)} {v : AV} (hw : wantS ops l { dst := some d, op := .call { callee := .value f, args := args, argTypes := argTypes }, type := ty, pos := pos, after := after, guard := guard } = some true) (hn : Nat.blt d N = true) (hf : evL l f = some (.fn g first cap)) (ha : evLs l args.toList = some vs) (hp : E.prim g = some p) (hr : ∀ st, p (first ++ vs ++ cap) st = some (v, st)) (hz : ∀ st, freezeA st v = some (v, st))
  (k1 : SegY E ops N L K pol r (i + 1) ((d, v) :: l) X Y k) : SegY E ops N L K pol ({ dst := some d, op := .call { callee := .value f, args := args, argTypes := argTypes }, type := ty, pos := pos, after := after, guard := guard } :: r) i l X Y k := by
 intro tm s0 pre hF hpre
 obtain ⟨n, tr, tm', s1, l', X', Y', h1, h2, h3, h4⟩ := k1 (tm.put d v) s0 pre (hF.put hn v) hpre
 have h1 := runOpsT_mono (callF_mono n (n + 1) (by omega)) _ _ _ _ h1
 refine ⟨n + 1, ⟨tm, s0, s0, v, true⟩ :: tr, tm', s1, l', X', Y', ?_, h2, h3, fun k t o' ht ho => ?_⟩
 ·have hl : Abs.loud E (callF E (n + 1)) (pol i) tm s0 { dst := some d, op := .call { callee := .value f, args := args, argTypes := argTypes }, type := ty, pos := pos, after := after, guard := guard } = some (v, s0) := by
   have : Abs.loud E (callF E (n + 1)) (pol i) tm s0 { dst := some d, op := .call { callee := .value f, args := args, argTypes := argTypes }, type := ty, pos := pos, after := after, guard := guard } = (match evalO tm f with | .fn g first cap => callF E (n + 1) g (first ++ args.toList.map (evalO tm) ++ cap) s0 | _ => none) := rfl
   rw [this, hF.ev hf, hF.evs ha]
   simp only [callF, hp]
   exact hr s0
  have hst : stepPre E (callF E (n + 1)) pre (pol i) i tm s0 { dst := some d, op := .call { callee := .value f, args := args, argTypes := argTypes }, type := ty, pos := pos, after := after, guard := guard } = some (v, s0) := by
   simp only [stepPre, stepOp, isLoud, if_true, hl, isFnCall, Bool.and_true, decide_eq_true_eq]
   split
   ·exact hz s0
   ·rfl
  simp only [runOpsT]
  rw [hF.want hw]
  dsimp only
  rw [hst]
  dsimp only [putO]
  rw [h1]
 ·cases k with
  | zero =>
   simp only [List.getElem?_cons_zero, Option.some.injEq] at ht ho
   subst ht; subst ho
   exact ⟨hF.baseY.s, hF.baseY.s, fun _ h => by simp [isLoud] at h⟩
  | succ k =>
   simp only [List.getElem?_cons_succ] at ht ho
   exact h4 k t o' ht ho
theorem dyn_stays {dy : List (Nat × Nat)} {m : Nat} {tr1 tr4 : List Tr} (hlA : (ops.toList.take m).length = m) (hl1 : tr1.length = (ops.toList.take m).length)
  (hc : (dy.all fun p => Nat.blt p.1 m && Nat.blt p.2 m && (match ops.toList[p.2]? with | some o => !isLoud o.op | none => false)) = true)
  (a4 : ∀ (k : Nat) (t : Tr) (o : Oper), tr1[k]? = some t -> (ops.toList.take m)[k]? = some o -> SFa L K t.was /\ SFa L K t.now /\ (t.did = true -> isLoud o.op = false -> ∀ s, SFa L K s -> Abs.quiet E t.tm s o = some t.v)) : dy.all (dynOk E ops (tr1 ++ tr4)) = true := by
 rw [List.all_eq_true] at hc ⊢
 intro p hp
 have hp' := hc p hp
 simp only [Bool.and_eq_true] at hp'
 obtain ⟨⟨p1, p2⟩, p4⟩ := hp'
 have p1 : p.1 < m := Eq.mp Nat.blt_eq p1
 have p2 : p.2 < m := Eq.mp Nat.blt_eq p2
 have g1 : (ops.toList.take m)[p.1]? = some ((ops.toList.take m)[p.1]'(by omega)) := List.getElem?_eq_getElem _
 have g2 : (ops.toList.take m)[p.2]? = some ((ops.toList.take m)[p.2]'(by omega)) := List.getElem?_eq_getElem _
 have g2' : ops.toList[p.2]? = some ((ops.toList.take m)[p.2]'(by omega)) := by
  rw [<- g2, List.getElem?_take, if_pos p2]
 rw [g2'] at p4
 obtain ⟨e1, e2, _⟩ := a4 p.1 (tr1[p.1]'(by omega)) _ (List.getElem?_eq_getElem (by omega)) g1
 obtain ⟨_, _, e4⟩ := a4 p.2 (tr1[p.2]'(by omega)) _ (List.getElem?_eq_getElem (by omega)) g2
 have t1 : (tr1 ++ tr4)[p.1]? = some (tr1[p.1]'(by omega)) := by rw [List.getElem?_append_left (by omega)]; exact List.getElem?_eq_getElem _
 have t2 : (tr1 ++ tr4)[p.2]? = some (tr1[p.2]'(by omega)) := by rw [List.getElem?_append_left (by omega)]; exact List.getElem?_eq_getElem _
 unfold dynOk
 rw [t1, t2, <- Array.getElem?_toList, g2']
 dsimp only
 by_cases hd2 : (tr1[p.2]'(by omega)).did = true
 ·have e4 := e4 hd2 (by simpa using p4)
  rw [e4 _ e1, e4 _ e2]
  simp [AV.beq_refl]
 ·simp [hd2]
theorem WS.drawY (m : Nat) (Y : List (Nat × Bool)) {id : Nat} {ops : Array Oper} {dy : List (Nat × Nat)} (hd : E.dyn fid id = dy) (ho : hasAlloc ops = false) (hm : Nat.ble m ops.toList.length = true)
  (hc : (dy.all fun p => Nat.blt p.1 m && Nat.blt p.2 m && (match ops.toList[p.2]? with | some o => !isLoud o.op | none => false)) = true)
  (h : SegY E ops N L K (E.pol fid id) (ops.toList.take m) 0 l [] Y fun l1 X Y => OS E false (E.pol fid id) ops (ops.toList.drop m) m N l1 (X ++ L) (Y ++ K) Q) (hk : E.mks fid id = false := by rfl) : WS E fid N (.region id ops true) l L (Y ++ K) Q := by
 intro tm st hF
 have hm2 := Nat.le_of_ble_eq_true hm
 have hlA : (ops.toList.take m).length = m := by rw [List.length_take]; omega
 have hF0 := hF.at (m := st.next + ops.size) (by omega)
 generalize hs0 : st.at (st.next + ops.size) = s0 at hF0
 obtain ⟨n1, tr1, tm1, s1, l1, X1, Y1, a1, a2, a3, a4⟩ := h tm s0 (some (st.next, false)) hF0 (fun b hb => by cases hb; rfl)
 obtain ⟨n5, tr4, tm4, st4, c1, _, c3⟩ := a3 (some (st.next, false)) tm1 _ a2 (fun b hb => ⟨ho, by cases hb; rfl⟩)
 have a1 := runOpsT_mono (callF_mono n1 (max n1 n5) (by omega)) _ _ _ _ a1
 have c1 := runOpsT_mono (callF_mono n5 (max n1 n5) (by omega)) _ _ _ _ c1
 have hl1 := runOpsT_len a1
 have hops : ops.toList = ops.toList.take m ++ ops.toList.drop m := (List.take_append_drop m _).symm
 have hrun : runOpsT E (callF E (max n1 n5)) (some (st.next, false)) (E.pol fid id) ops ops.toList 0 tm s0 = some (tr1 ++ tr4, tm4, st4) := by
  have := runOpsT_append _ _ _ _ _ a1 (by rw [Nat.zero_add, hlA]; exact c1)
  rw [<- hops] at this
  exact this
 refine ⟨max n1 n5 + 1, .normal, tm4, st4, ?_, c3⟩
 have hpre : preObjs E st.next ops.toList 0 st.objs = some st.objs := preObjs_none _ _ _ ho
 have h1' := runOpsT_mono (callF_mono (max n1 n5) (max n1 n5 + 1) (by omega)) _ _ _ _ hrun
 rw [<- hs0] at h1'
 unfold St.at at h1'
 simp only [exec, execReg, if_true, hpre, hd, hk]
 have hdyn := dyn_stays (tr4 := tr4) hlA hl1 hc a4
 cases dy with
 | nil =>
  dsimp only
  rw [(runOps_of_T _ _ _ _ h1').1]
 | cons p0 ps =>
  dsimp only
  rw [h1']
  dsimp only
  rw [if_pos hdyn]
theorem WS.drawA (m : Nat) {id : Nat} {ops : Array Oper} {dy : List (Nat × Nat)} {dA : Nat} {t : TypeId} {z : Operand} {y : Ty} {cs : List AV} {tyA tyS : TypeId} {posA posS : String} {afA afS : Array Edge} (hd : E.dyn fid id = dy) (hm : Nat.ble m ops.toList.length = true)
  (hc : (dy.all fun p => Nat.blt p.1 m && Nat.blt p.2 m && (match ops.toList[p.2]? with | some o => !isLoud o.op | none => false)) = true) (ht : E.ty t = some y) (hz0 : y.zeroV = .agg cs) (hn : Nat.blt dA N = true)
  (hdr : ops.toList.drop m = [{ dst := some dA, op := .alloc t, type := tyA, pos := posA, after := afA, guard := none }, { dst := none, op := .store t (.tmp dA) z, type := tyS, pos := posS, after := afS, guard := none }])
  (hpre : ∀ base acc, preObjs E base ops.toList 0 acc = some ((base + m, .row y.size [y.zeroV]) :: acc))
  (h : ∀ b, SegY E ops N ((b, .row y.size [y.zeroV]) :: L) K (E.pol fid id) (ops.toList.take m) 0 l [] [] fun l1 X Y => ∃ v, evL ((dA, .ptr b 0 0) :: l1) z = some v /\ v.ok = true /\ v.cells.length = y.size /\ Nat.ble v.cells.length cs.length = true /\
   QS N .normal ((dA, .ptr b 0 0) :: l1) (X ++ (b, .row y.size [.agg (v.cells ++ cs.drop v.cells.length)]) :: L) (Y ++ K) Q) (hk : E.mks fid id = false := by rfl) : WS E fid N (.region id ops true) l L K Q := by
 intro tm st hF
 have hm2 := Nat.le_of_ble_eq_true hm
 have hlA : (ops.toList.take m).length = m := by rw [List.length_take]; omega
 have hlo : ops.toList.length = m + 2 := by
  have := congrArg List.length hdr
  simp only [List.length_drop, List.length_cons, List.length_nil] at this
  omega
 have hsz : ops.size = m + 2 := by rw [<- hlo]; exact Array.length_toList.symm
 have hF1 := ((hF.at (m := st.next + m) (by omega)).new (.row y.size [y.zeroV])).at (m := st.next + ops.size) (by show st.next + m + 1 <= _; omega)
 generalize hs0 : ((st.at (st.next + m)).new (.row y.size [y.zeroV])).at (st.next + ops.size) = s0 at hF1
 obtain ⟨n1, tr1, tm1, s1, l1, X1, Y1, a1, a2, a3, a4⟩ := h (st.next + m) tm s0 (some (st.next, false)) hF1 (fun b hb => by cases hb; rfl)
 obtain ⟨v, v1, v2, v3, v4, v5⟩ := a3
 have hl1 := runOpsT_len a1
 have hF2 := a2.put (d := dA) hn (.ptr (st.next + m) 0 0)
 have hget : (X1 ++ (st.next + m, AObj.row y.size [y.zeroV]) :: L)[X1.length]? = some (st.next + m, .row y.size [y.zeroV]) := by
  rw [List.getElem?_append_right (Nat.le_refl _), Nat.sub_self]; rfl
 have hF3 := hF2.set hget (.row y.size [.agg (v.cells ++ cs.drop v.cells.length)])
 have hset : (X1 ++ (st.next + m, AObj.row y.size [y.zeroV]) :: L).set X1.length (st.next + m, .row y.size [.agg (v.cells ++ cs.drop v.cells.length)]) = X1 ++ (st.next + m, .row y.size [.agg (v.cells ++ cs.drop v.cells.length)]) :: L := by
  rw [List.set_append_right _ _ (Nat.le_refl _), Nat.sub_self]; rfl
 rw [hset] at hF3
 have hq := v5 _ _ hF3
 have hsA : stepPre E (callF E n1) (some (st.next, false)) (E.pol fid id m) m tm1 s1 { dst := some dA, op := .alloc t, type := tyA, pos := posA, after := afA, guard := none } = some (.ptr (st.next + m) 0 0, s1) := rfl
 have hsS : stepPre E (callF E n1) (some (st.next, false)) (E.pol fid id (m + 1)) (m + 1) (tm1.put dA (.ptr (st.next + m) 0 0)) s1 { dst := none, op := .store t (.tmp dA) z, type := tyS, pos := posS, after := afS, guard := none } = some (.junk, s1.put (st.next + m) (.row y.size [.agg (v.cells ++ cs.drop v.cells.length)])) := by
  have h0 : stepPre E (callF E n1) (some (st.next, false)) (E.pol fid id (m + 1)) (m + 1) (tm1.put dA (.ptr (st.next + m) 0 0)) s1 { dst := none, op := .store t (.tmp dA) z, type := tyS, pos := posS, after := afS, guard := none } = (match (match E.ty t with | some ty => if (evalO (tm1.put dA (.ptr (st.next + m) 0 0)) z).cells.length = ty.size then (storeA s1 (evalO (tm1.put dA (.ptr (st.next + m) 0 0)) (.tmp dA)) (evalO (tm1.put dA (.ptr (st.next + m) 0 0)) z)).map fun s => (.junk, s) else none | none => none) with | some (v, st') => if (decide (E.pol fid id (m + 1) = 2) && false) = true then freezeA st' v else some (v, st') | none => none) := rfl
  have hx : evalO (tm1.put dA (.ptr (st.next + m) 0 0)) (.tmp dA) = .ptr (st.next + m) 0 0 := hF2.ev (by simp [evL, lk])
  rw [h0, ht, hx, hF2.ev v1]
  dsimp only
  rw [if_pos v3]
  have hg := (hF2.obj X1.length _ _ hget).1
  simp only [storeA, hg, List.getElem?_cons_zero, hz0]
  rw [if_pos (show (v.ok && decide (0 + v.cells.length <= (AV.agg cs).cells.length)) = true by rw [v2, Bool.true_and, Nat.zero_add]; exact decide_eq_true (Nat.le_of_ble_eq_true v4))]
  simp
 have hc1 : runOpsT E (callF E n1) (some (st.next, false)) (E.pol fid id) ops (ops.toList.drop m) m tm1 s1 = some ([⟨tm1, s1, s1, .ptr (st.next + m) 0 0, true⟩, ⟨tm1.put dA (.ptr (st.next + m) 0 0), s1, s1.put (st.next + m) (.row y.size [.agg (v.cells ++ cs.drop v.cells.length)]), .junk, true⟩], tm1.put dA (.ptr (st.next + m) 0 0), s1.put (st.next + m) (.row y.size [.agg (v.cells ++ cs.drop v.cells.length)])) := by
  rw [hdr]
  simp only [runOpsT, wantedA, hsA, putO, hsS]
 have hops : ops.toList = ops.toList.take m ++ ops.toList.drop m := (List.take_append_drop m _).symm
 have hrun := runOpsT_append _ _ _ _ _ a1 (by rw [Nat.zero_add, hlA]; exact hc1)
 rw [<- hops] at hrun
 have hdyn := dyn_stays (tr4 := [⟨tm1, s1, s1, .ptr (st.next + m) 0 0, true⟩, ⟨tm1.put dA (.ptr (st.next + m) 0 0), s1, s1.put (st.next + m) (.row y.size [.agg (v.cells ++ cs.drop v.cells.length)]), .junk, true⟩]) hlA hl1 hc a4
 refine ⟨n1 + 1, .normal, _, _, ?_, hq⟩
 have h1' := runOpsT_mono (callF_mono n1 (n1 + 1) (by omega)) _ _ _ _ hrun
 rw [<- hs0] at h1'
 unfold St.at St.new at h1'
 simp only [exec, execReg, if_true, hpre, hd, hk]
 cases dy with
 | nil =>
  dsimp only
  rw [(runOps_of_T _ _ _ _ h1').1]
 | cons p0 ps =>
  dsimp only
  rw [h1']
  dsimp only
  rw [if_pos hdyn]
end
end Go.Abs
namespace Go.Abs
open Go.RowKit
section
variable {E : Env} {fid N : Nat} {l : List (Nat × AV)} {L X : List (Nat × AObj)} {K Y : List (Nat × Bool)} {Q : AExit -> TM -> St -> Prop}
variable {pol : Nat -> Nat} {ops : Array Oper} {o : Oper} {r : List Oper} {i : Nat} {d : Nat} {ty : TypeId} {pos : String} {after : Array Edge} {guard : Option (Nat × Bool)}
variable {k : List (Nat × AV) -> List (Nat × AObj) -> List (Nat × Bool) -> Prop}
theorem SegY.callW {D : Type} {f : Operand} {args : Array Operand} {argTypes : Array TypeId} {g : FuncId} {first cap vs : List AV} (p : D -> Prop) (vf : D -> AV) (Xf : D -> List (Nat × AObj)) (Yf : D -> List (Nat × Bool)) (hw : wantS ops l { dst := some d, op := .call { callee := .value f, args := args, argTypes := argTypes }, type := ty, pos := pos, after := after, guard := guard } = some true) (hn : Nat.blt d N = true) (hf : evL l f = some (.fn g first cap)) (ha : evLs l args.toList = some vs)
  (hr : ∀ st, SFa (X ++ L) (Y ++ K) st -> CW E g (first ++ vs ++ cap) st fun x st' => ∃ dd st2, p dd /\ (bif Nat.beq (pol i) 2 then freezeA st' x else some (x, st')) = some (vf dd, st2) /\ SFa (Xf dd ++ L) (Yf dd ++ K) st2)
  (k1 : ∀ dd, p dd -> SegY E ops N L K pol r (i + 1) ((d, vf dd) :: l) (Xf dd) (Yf dd) k) : SegY E ops N L K pol ({ dst := some d, op := .call { callee := .value f, args := args, argTypes := argTypes }, type := ty, pos := pos, after := after, guard := guard } :: r) i l X Y k := by
 intro tm s0 pre hF hpre
 obtain ⟨n1, x, st', hc, dd, st2, hx, hz, hS⟩ := hr s0 hF.s
 have hF2 : Fa N ((d, vf dd) :: l) (Xf dd ++ L) (Yf dd ++ K) (tm.put d (vf dd)) st2 := (hF.withS2 hS).put hn (vf dd)
 obtain ⟨n, tr, tm', s1, l', X', Y', h1, h2, h3, h4⟩ := k1 dd hx (tm.put d (vf dd)) st2 pre hF2 hpre
 have h1 := runOpsT_mono (callF_mono n (Nat.max n n1) (Nat.le_max_left _ _)) _ _ _ _ h1
 refine ⟨Nat.max n n1, ⟨tm, s0, st2, vf dd, true⟩ :: tr, tm', s1, l', X', Y', ?_, h2, h3, fun k t o' ht ho => ?_⟩
 ·have hl : Abs.loud E (callF E (Nat.max n n1)) (pol i) tm s0 { dst := some d, op := .call { callee := .value f, args := args, argTypes := argTypes }, type := ty, pos := pos, after := after, guard := guard } = some (x, st') := by
   have : Abs.loud E (callF E (Nat.max n n1)) (pol i) tm s0 { dst := some d, op := .call { callee := .value f, args := args, argTypes := argTypes }, type := ty, pos := pos, after := after, guard := guard } = (match evalO tm f with | .fn g first cap => callF E (Nat.max n n1) g (first ++ args.toList.map (evalO tm) ++ cap) s0 | _ => none) := rfl
   rw [this, hF.ev hf, hF.evs ha]
   exact callF_mono n1 (Nat.max n n1) (Nat.le_max_right _ _) _ _ _ _ hc
  have hst : stepPre E (callF E (Nat.max n n1)) pre (pol i) i tm s0 { dst := some d, op := .call { callee := .value f, args := args, argTypes := argTypes }, type := ty, pos := pos, after := after, guard := guard } = some (vf dd, st2) := by
   cases hb : Nat.beq (pol i) 2 with
   | true =>
    have hpi : pol i = 2 := Nat.eq_of_beq_eq_true hb
    rw [hb] at hz
    rw [hpi] at hl ⊢
    simp only [stepPre, stepOp, isLoud, if_true, hl, isFnCall, Bool.and_true, decide_true]
    exact hz
   | false =>
    have hpi : ¬ pol i = 2 := Nat.ne_of_beq_eq_false hb
    rw [hb] at hz
    simp only [cond_false, Option.some.injEq, Prod.mk.injEq] at hz
    obtain ⟨rfl, rfl⟩ := hz
    simp only [stepPre, stepOp, isLoud, if_true, hl, isFnCall, Bool.and_true, decide_eq_false hpi]
    rfl
  simp only [runOpsT]
  rw [hF.want hw]
  dsimp only
  rw [hst]
  dsimp only [putO]
  rw [h1]
 ·cases k with
  | zero =>
   simp only [List.getElem?_cons_zero, Option.some.injEq] at ht ho
   subst ht; subst ho
   exact ⟨hF.baseY.s, hF2.baseY.s, fun _ h => by simp [isLoud] at h⟩
  | succ k =>
   simp only [List.getElem?_cons_succ] at ht ho
   exact h4 k t o' ht ho
end
section
variable {E : Env} {N : Nat} {l : List (Nat × AV)} {L : List (Nat × AObj)} {K : List (Nat × Bool)} {Q : AExit -> TM -> St -> Prop}
variable {pol : Nat -> Nat} {ops : Array Oper} {r : List Oper} {i : Nat} {d : Nat} {ty : TypeId} {pos : String} {after : Array Edge} {guard : Option (Nat × Bool)}
theorem OD.appendO {ts tx e : TypeId} {s x : Operand} {sz sz' : Nat} {ys : List AV} {a : AV} {tys tyx et : Ty} (hn : Nat.blt d N = true) (hpol : Nat.beq (pol i) 1 = true) (hs : evL l s = some (.vs sz .full [])) (hx : evL l x = some a)
  (h1 : E.ty ts = some tys) (h2 : E.ty tx = some tyx) (h3 : tys.d = .slice e) (h4 : E.ty e = some et) (h5 : Nat.blt 0 et.size = true) (h6 : sz = et.size) (h7 : (tyx.d = .string /\ isStrA a = true) \/ ((∃ e', tyx.d = .slice e') /\ isStrA a = false)) (h8 : ∀ st, SFa L [] st -> elemsA st a = some (sz', ys)) (h9 : okElems et ys = true) (h10 : (ys.isEmpty || Nat.beq sz' et.size) = true)
  (hroom : roomA et ys.length = true) (k : ∀ b, OS E false pol ops r (i + 1) N ((d, .sl sz b 0 ys.length) :: l) ((b, .row sz ys) :: L) K Q) :
  OD E false pol ops { dst := some d, op := .call { callee := .builtin .append, args := #[s, x], argTypes := #[ts, tx] }, type := ty, pos := pos, after := after, guard := guard } r i N l L K Q := by
 subst h6
 refine .loud rfl rfl (fun _ h => by cases h) fun tm st hF => ?_
 have h0 : Abs.loud E noCall (pol i) tm st { dst := some d, op := .call { callee := .builtin .append, args := #[s, x], argTypes := #[ts, tx] }, type := ty, pos := pos, after := after, guard := guard } = appendOpA E (pol i == 1) st ts tx (evalO tm s) (evalO tm x) := rfl
 have hp : (pol i == 1) = true := by
  have := Nat.eq_of_beq_eq_true hpol
  simp [this]
 rw [h0, hF.ev hs, hF.ev hx, hp, appendOp_key h1 h2 h3 h4 h5 h7 st (h8 st hF.s.noK) h9 h10]
 refine ⟨.sl et.size st.next 0 ys.length, st.new (.row et.size ys), _, (st.next, .row et.size ys) :: L, K, ?_, (hF.new _).put hn _, k st.next⟩
 simp only [appendA]
 rw [if_pos ⟨trivial, by simpa using hroom⟩]
 rfl
end
theorem elems_row {st : St} {sz b n : Nat} {xs : List AV} (hg : st.get b = some (.row sz xs)) (hn : xs.length = n) : elemsA st (.sl sz b 0 n) = some (sz, xs) := by
 subst hn
 simp [elemsA, hg]
end Go.Abs
namespace Go.OptEnv
open Go Go.Proofs Go.Abs Go.RowKit Go.NetM
def GNet.nexts (n : GNet) : List Int := n.regs.xs.map (·.next)
def GNet.inits (n : GNet) : List UInt8 := n.regs.xs.map (·.init)
theorem gof_xs {α : Type} (l : List α) : (GSl.of l).xs = l := by cases l <;> rfl
theorem okG_of {n : GNet} {k : Nat} (hk : (k : Int) = n.first) (h : gatesOk n.first n.gates.xs = true) : okG k n.gates.xs := fun i hi => by
 have h1 := h
 rw [<- List.take_append_drop (i + 1) n.gates.xs] at h1
 have h2 := gatesOk_app _ _ _ h1
 rw [gatesOk_take hi] at h2
 simp only [Bool.and_eq_true, litOk, decide_eq_true_eq] at h2
 obtain ⟨_, ⟨a1, a2⟩, a3, a4⟩ := h2
 refine ⟨⟨a1, by omega⟩, a3, by omega⟩
end Go.OptEnv
namespace Go.OptEnv
open Go Go.Proofs Go.Abs Go.RowKit Go.NetM
set_option maxRecDepth 10000
theorem bare_valid {n : GNet} (hv : validM n = true) : validM (bareN (cloneG n.ins) (n.regs.xs.map zeroR)) = true := by
 have v := validM_iff.1 hv
 refine validM_iff.2 ⟨by simp [bareN, gof_xs], by simp only [bareN, clone_xs]; exact v.ins, ?_, ?_, ?_, ?_, ?_, ?_⟩
 ·simp only [bareN, gof_xs, List.map_map]
  exact v.regs
 ·simp only [bareN, gof_xs]; rfl
 ·simp only [bareN, gof_xs]; rfl
 ·have := v.inits
  simp only [bareN, gof_xs, List.all_map]
  exact this
 ·simp only [bareN, gof_xs, List.all_map, List.all_eq_true, Function.comp]
  intro x _
  exact decide_eq_true ⟨by simp [zeroR], by simp only [zeroR, GNet.nodes, GNet.first]; omega⟩
 ·simp only [bareN, gof_xs]; rfl
theorem bare_fits {n : GNet} (hn : FitsN n) : FitsN (bareN (cloneG n.ins) (n.regs.xs.map zeroR)) := by
 obtain ⟨f1, f2, f3, f4, m1, m2, m3, g1, g2, g3⟩ := hn
 refine ⟨by simp only [bareN, clone_xs]; exact f1, by simp only [bareN, gof_xs, List.length_map]; exact f2, by simp [bareN, gof_xs], by simp [bareN, gof_xs], by simp only [bareN, clone_xs]; exact m1, ?_, by simp [bareN, gof_xs], by simp [bareN, gof_xs], ?_, by simp [bareN, gof_xs]⟩
 ·simp only [bareN, gof_xs]
  intro r hr
  obtain ⟨x, hx, rfl⟩ := List.mem_map.1 hr
  exact m2 x hx
 ·simp only [bareN, gof_xs]
  intro r hr
  obtain ⟨x, hx, rfl⟩ := List.mem_map.1 hr
  exact ⟨by simp [zeroR], by simp [zeroR]⟩
attribute [local irreducible] WS QS OS OD Abs.Sub SubO SubK CW GSl.av accA growA
section
variable {pr : Prims}
theorem run138 (h1 : pr 138 = none) (s : GSl (Int × Int)) (hs : s.xs.length <= 1000000) (st : St) : CW (En pr) 138 [s.av 2 gateAV] st fun r _ => AV.free r = true /\ AV.plain r = (cloneG s).av 2 gateAV := by
 rcases clone_cases s 2 gateAV with ⟨hx, e1, e2⟩ | ⟨hx, e1, e2⟩ | ⟨e1, e2⟩
 ·rw [e1, e2]
  refine CW.start (N := 8) h1 rfl rfl ?_
  repeat' (first | (refine OS.do rfl ?_; first | refine OD.auto rfl rfl ?_) | refine OS.nil ?_ | refine WS.seq ?_ | refine QS.seqN ?_ | refine WS.region ?_ | refine WS.condT rfl ?_ | refine WS.ret ?_ | refine QS.seqR ?_)
  exact QS.retR (by rfl) fun _ => ⟨rfl, rfl⟩
 ·rw [e1, e2]
  refine CW.start (N := 8) h1 rfl rfl ?_
  repeat' (first | refine OS.newK (OS.do rfl (OD.appendG 0 (b := false) (t := 0) (sz := 2) (xs := []) (ys := []) (sz' := 0) rfl rfl (by unfold growA; rfl) rfl rfl rfl rfl rfl rfl rfl rfl (.inr ⟨⟨_, rfl⟩, rfl⟩) (fun _ => rfl) rfl rfl rfl fun t' => ?_)) | (refine OS.do rfl ?_; first | refine OD.auto rfl rfl ?_) | refine OS.nil ?_ | refine WS.seq ?_ | refine QS.seqN ?_ | refine WS.region ?_ | refine WS.condF rfl ?_ | refine WS.skip ?_ | refine WS.ret ?_)
  refine QS.retR (by rfl) fun _ => ?_
  unfold growA
  exact ⟨rfl, rfl⟩
 ·rw [e1, e2]
  refine CW.start (N := 8) h1 rfl rfl ?_
  repeat' (first | refine OS.newK (OS.do rfl (OD.appendG 0 (b := false) (t := 0) (sz := 2) (xs := []) (ys := s.xs.map gateAV) (sz' := 2) rfl rfl (by unfold growA; rfl) rfl rfl rfl rfl rfl rfl rfl rfl (.inr ⟨⟨_, rfl⟩, rfl⟩) (fun _ => rfl) (okElems_map (f := gateAV) (n := 2) rfl (fun _ => ⟨rfl, rfl⟩) _) (by cases s.xs <;> rfl) (roomB rfl (by simp; omega)) fun t' => ?_)) | (refine OS.do rfl ?_; first | refine OD.auto rfl rfl ?_) | refine OS.nil ?_ | refine WS.seq ?_ | refine QS.seqN ?_ | refine WS.region ?_ | refine WS.condF rfl ?_ | refine WS.skip ?_ | refine WS.ret ?_)
  refine QS.retR (by rfl) fun _ => ?_
  rw [List.nil_append]
  exact ⟨free_grow gate_free, by rw [plain_grow gate_plain]; unfold GSl.av GSl.some; rfl⟩
def Rel138 : Rel := RelF (fun s : GSl (Int × Int) => s.xs.length <= 1000000) (fun s => [s.av 2 gateAV]) fun s => (cloneG s).av 2 gateAV
theorem con138 (h1 : pr 138 = none) : Con2 (En pr) 138 Rel138 := con_of (fun d => by simp [AV.freeL, free_av gate_free]) fun d hd st => run138 h1 d hd st
end
section
variable {pr : Prims} {L : List (Nat × AObj)} {K : List (Nat × Bool)} {st : St}
theorem run80n (h1 : pr 80 = none) (hS : SFa L K st) : CW (En pr) 80 [.nilsl] st fun r st' => r = .nilsl /\ SFa L K st' := by
 refine CW.startS (N := 8) h1 rfl rfl hS ?_
 repeat' (first | (refine OS.do rfl ?_; first | refine OD.auto rfl rfl ?_) | refine OS.nil ?_ | refine WS.seq ?_ | refine QS.seqN ?_ | refine WS.region ?_ | refine WS.condT rfl ?_ | refine WS.ret ?_ | refine QS.seqR ?_)
 exact QS.retRS (by rfl) fun st hs => ⟨rfl, hs⟩
theorem run80o (h1 : pr 80 = none) {a : AV} {sz' : Nat} {xs : List GPin} (hnl : ∀ xo yo, binA (En pr) .eql 25 xo yo a .nilsl = some (.bool false)) (hstr : isStrA a = false) (hel : ∀ st, SFa L [] st -> elemsA st a = some (sz', xs.map pinAV)) (hsz : ((xs.map pinAV).isEmpty || Nat.beq sz' 2) = true) (hx : xs.length <= 1000000) (hS : SFa L K st) :
  CW (En pr) 80 [a] st fun r st' => ∃ b : Nat, True /\ r = .sl 2 b 0 xs.length /\ SFa ((b, .row 2 (xs.map pinAV)) :: L) K st' := by
 refine CW.startS (N := 8) h1 rfl rfl hS ?_
 repeat' (first | (refine OS.do rfl ?_; first | refine OD.bin rfl rfl rfl (hnl _ _) ?_ | refine OD.auto rfl rfl ?_ | refine OD.appendO rfl rfl rfl rfl rfl rfl rfl rfl rfl rfl (.inr ⟨⟨_, rfl⟩, hstr⟩) hel (okElems_map (f := pinAV) (n := 2) rfl (fun _ => ⟨rfl, rfl⟩) _) hsz (roomB rfl (by simp; omega)) (fun b => ?_)) | refine OS.nil ?_ | refine WS.seq ?_ | refine QS.seqN ?_ | refine WS.region ?_ | refine WS.condF rfl ?_ | refine WS.skip ?_ | refine WS.ret ?_)
 exact QS.retRS (by rfl) fun st hs => ⟨b, trivial, by rw [List.length_map]; rfl, hs⟩
theorem run137n (h1 : pr 137 = none) (hS : SFa L K st) : CW (En pr) 137 [.nilsl] st fun r st' => r = .nilsl /\ SFa L K st' := by
 refine CW.startS (N := 8) h1 rfl rfl hS ?_
 repeat' (first | (refine OS.do rfl ?_; first | refine OD.auto rfl rfl ?_) | refine OS.nil ?_ | refine WS.seq ?_ | refine QS.seqN ?_ | refine WS.region ?_ | refine WS.condT rfl ?_ | refine WS.ret ?_ | refine QS.seqR ?_)
 exact QS.retRS (by rfl) fun st hs => ⟨rfl, hs⟩
theorem run137o (h1 : pr 137 = none) {a : AV} {sz' : Nat} {xs : List GReg} (hnl : ∀ xo yo, binA (En pr) .eql 23 xo yo a .nilsl = some (.bool false)) (hstr : isStrA a = false) (hel : ∀ st, SFa L [] st -> elemsA st a = some (sz', xs.map regAV)) (hsz : ((xs.map regAV).isEmpty || Nat.beq sz' 3) = true) (hx : xs.length <= 1000000) (hS : SFa L K st) :
  CW (En pr) 137 [a] st fun r st' => ∃ b : Nat, True /\ r = .sl 3 b 0 xs.length /\ SFa ((b, .row 3 (xs.map regAV)) :: L) K st' := by
 refine CW.startS (N := 8) h1 rfl rfl hS ?_
 repeat' (first | (refine OS.do rfl ?_; first | refine OD.bin rfl rfl rfl (hnl _ _) ?_ | refine OD.auto rfl rfl ?_ | refine OD.appendO rfl rfl rfl rfl rfl rfl rfl rfl rfl rfl (.inr ⟨⟨_, rfl⟩, hstr⟩) hel (okElems_map (f := regAV) (n := 3) rfl (fun _ => ⟨rfl, rfl⟩) _) hsz (roomB rfl (by simp; omega)) (fun b => ?_)) | refine OS.nil ?_ | refine WS.seq ?_ | refine QS.seqN ?_ | refine WS.region ?_ | refine WS.condF rfl ?_ | refine WS.skip ?_ | refine WS.ret ?_)
 exact QS.retRS (by rfl) fun st hs => ⟨b, trivial, by rw [List.length_map]; rfl, hs⟩
end
end Go.OptEnv
namespace Go.Abs
open Go.RowKit
def slR (sz b : Nat) : List AV -> AV
 | [] => .nilsl
 | x :: xs => .sl sz b 0 (x :: xs).length
def slO (sz b : Nat) : List AV -> List (Nat × AObj)
 | [] => []
 | x :: xs => [(b, .row sz (x :: xs))]
theorem slR_cell {sz b : Nat} {xs : List AV} : (slR sz b xs).cellOk = true := by cases xs <;> rfl
theorem slR_long {sz b : Nat} {xs : List AV} (h : xs ≠ []) : slR sz b xs = .sl sz b 0 xs.length /\ slO sz b xs = [(b, .row sz xs)] := by
 cases xs with
 | nil => exact absurd rfl h
 | cons x xs => exact ⟨rfl, rfl⟩
theorem SubO.rot {L : List (Nat × AObj)} {p : Nat × AObj} : SubO (p :: L) (L ++ [p]) := by
 refine ⟨fun k => if k < L.length then k + 1 else 0, fun k q hk => ?_, fun k k' h1 h2 h => ?_⟩
 ·dsimp only
  by_cases c : k < L.length
  ·rw [if_pos c, List.getElem?_cons_succ]
   rw [List.getElem?_append_left c] at hk
   exact hk
  ·rw [if_neg c]
   have hl := (List.getElem?_eq_some_iff.1 hk).1
   simp only [List.length_append, List.length_singleton] at hl
   rw [List.getElem?_append_right (by omega), show k - L.length = 0 by omega] at hk
   exact hk
 ·simp only [List.length_append, List.length_singleton] at h1 h2
  dsimp only at h
  split at h <;> split at h <;> omega
theorem set_last {α : Type} {A : List α} {p q : α} : (A ++ [p]).set A.length q = A ++ [q] := by
 rw [List.set_append_right _ _ (Nat.le_refl _), Nat.sub_self]; rfl
theorem get_last {α : Type} {A : List α} {p : α} : (A ++ [p])[A.length]? = some p := by
 rw [List.getElem?_append_right (Nat.le_refl _), Nat.sub_self]; rfl
section
variable {E : Env} {N : Nat} {l : List (Nat × AV)} {L : List (Nat × AObj)} {K : List (Nat × Bool)} {Q : AExit -> TM -> St -> Prop}
variable {pol : Nat -> Nat} {ops : Array Oper} {r : List Oper} {i : Nat} {d : Nat} {ty : TypeId} {pos : String} {after : Array Edge} {guard : Option (Nat × Bool)}
theorem OD.storeB (kk : Nat) {t : TypeId} {x z : Operand} {y : Ty} {b sz j : Nat} {xs : List AV} {m v : Bool} (hx : evL l x = some (.ptr b j 0)) (hz : evL l z = some (.bool v)) (ht : E.ty t = some y) (h1 : y.size = 1) (hL : L[kk]? = some (b, .row sz xs)) (hj : xs[j]? = some (.bool m))
  (k : OS E false pol ops r (i + 1) N l (L.set kk (b, .row sz (xs.set j (.bool v)))) K Q) :
  OD E false pol ops { dst := none, op := .store t x z, type := ty, pos := pos, after := after, guard := guard } r i N l L K Q := by
 refine .loud rfl rfl (fun _ h => by cases h) fun tm st hF => ⟨.junk, st.put b (.row sz (xs.set j (.bool v))), _, _, _, ?_, hF.set hL _, k⟩
 have : Abs.loud E noCall (pol i) tm st { dst := none, op := .store t x z, type := ty, pos := pos, after := after, guard := guard } = (match E.ty t with | some ty => if (evalO tm z).cells.length = ty.size then (storeA st (evalO tm x) (evalO tm z)).map fun s => (.junk, s) else none | none => none) := rfl
 rw [this, ht, hF.ev hx, hF.ev hz]
 dsimp only
 rw [if_pos (by rw [h1]; rfl)]
 simp [storeA, (hF.obj kk b _ hL).1, hj, AV.ok, AV.cellOk, AV.cells]
theorem OD.appendR {ts tx e : TypeId} {s x : Operand} {sz sz' b : Nat} {xs : List AV} {y a : AV} {tys tyx et : Ty} (hn : Nat.blt d N = true) (hpol : Nat.beq (pol i) 1 = true) (hs : evL l s = some (slR sz b xs)) (hx : evL l x = some a)
  (h1 : E.ty ts = some tys) (h2 : E.ty tx = some tyx) (h3 : tys.d = .slice e) (h4 : E.ty e = some et) (h5 : Nat.blt 0 et.size = true) (h6 : sz = et.size) (h7 : (∃ e', tyx.d = .slice e') /\ isStrA a = false) (h8 : ∀ st, elemsA st a = some (sz', [y])) (h9 : okElems et [y] = true) (h10 : Nat.beq sz' et.size = true)
  (hroom : roomA et (xs.length + 1) = true) (k : ∀ b', OS E false pol ops r (i + 1) N ((d, slR sz b' (xs ++ [y])) :: l) (L ++ slO sz b' (xs ++ [y])) K Q) :
  OD E false pol ops { dst := some d, op := .call { callee := .builtin .append, args := #[s, x], argTypes := #[ts, tx] }, type := ty, pos := pos, after := after, guard := guard } r i N l (L ++ slO sz b xs) K Q := by
 subst h6
 refine .loud rfl rfl (fun _ h => by cases h) fun tm st hF => ?_
 have h0 : Abs.loud E noCall (pol i) tm st { dst := some d, op := .call { callee := .builtin .append, args := #[s, x], argTypes := #[ts, tx] }, type := ty, pos := pos, after := after, guard := guard } = appendOpA E (pol i == 1) st ts tx (evalO tm s) (evalO tm x) := rfl
 have hp : (pol i == 1) = true := by
  have := Nat.eq_of_beq_eq_true hpol
  simp [this]
 rw [h0, hF.ev hs, hF.ev hx, hp, appendOp_key h1 h2 h3 h4 h5 (.inr h7) st (h8 st) h9 (by simpa using h10)]
 cases xs with
 | nil =>
  rw [List.nil_append] at k
  refine ⟨.sl et.size st.next 0 1, st.new (.row et.size [y]), _, L ++ [(st.next, .row et.size [y])], K, ?_, ?_, k st.next⟩
  ·simp only [slR, appendA, List.length_singleton]
   rw [if_pos (by simpa using hroom)]
   rfl
  ·have hF0 : Fa N l L K tm st := by simpa [slO] using hF
   exact ((hF0.new _).sub (fun _ _ h => h) SubO.rot (.refl _)).put hn _
 | cons x0 xs =>
  have hg := (hF.obj L.length b (.row et.size (x0 :: xs)) (by simp only [slO]; exact get_last)).1
  refine ⟨.sl et.size st.next 0 ((x0 :: xs).length + 1), (st.drop b).new (.row et.size ((x0 :: xs) ++ [y])), (d, .sl et.size st.next 0 ((x0 :: xs).length + 1)) :: l, L ++ [(st.next, .row et.size ((x0 :: xs) ++ [y]))], K, ?_, ?_, ?_⟩
  ·simp only [slR, appendA, hg]
   rw [if_pos ⟨trivial, trivial, by omega, by simpa using hroom⟩]
   simp
  ·have hS := hF.s.swap (kk := L.length) (by simp only [slO]; exact get_last) (.row et.size ((x0 :: xs) ++ [y]))
   simp only [slO] at hS
   rw [set_last] at hS
   exact (hF.withS2 hS).put hn _
  ·have := k st.next
   rw [show slR et.size st.next (x0 :: xs ++ [y]) = .sl et.size st.next 0 ((x0 :: xs).length + 1) by simp [slR]] at this
   exact this
end
def litV (sz b : Nat) : List AV -> AV
 | x :: y :: xs => .sl sz b 0 (x :: y :: xs).length
 | xs => .vs sz .full xs
def litO (sz b : Nat) : List AV -> List (Nat × AObj)
 | x :: y :: xs => [(b, .row sz (x :: y :: xs))]
 | _ => []
theorem litV_long {sz b : Nat} {xs : List AV} (h : 2 <= xs.length) : litV sz b xs = .sl sz b 0 xs.length /\ litO sz b xs = [(b, .row sz xs)] := by
 match xs, h with
 | _ :: _ :: _, _ => exact ⟨rfl, rfl⟩
section
variable {E : Env} {N : Nat} {l : List (Nat × AV)} {L : List (Nat × AObj)} {K : List (Nat × Bool)} {Q : AExit -> TM -> St -> Prop}
variable {pol : Nat -> Nat} {ops : Array Oper} {r : List Oper} {i : Nat} {d : Nat} {ty : TypeId} {pos : String} {after : Array Edge} {guard : Option (Nat × Bool)}
theorem OD.appendW {ts tx e : TypeId} {s x : Operand} {sz sz' b : Nat} {xs : List AV} {y a : AV} {tys tyx et : Ty} (hn : Nat.blt d N = true) (hpol : Nat.beq (pol i) 1 = true) (hs : evL l s = some (litV sz b xs)) (hx : evL l x = some a) (hne : xs ≠ [])
  (h1 : E.ty ts = some tys) (h2 : E.ty tx = some tyx) (h3 : tys.d = .slice e) (h4 : E.ty e = some et) (h5 : Nat.blt 0 et.size = true) (h6 : sz = et.size) (h7 : (∃ e', tyx.d = .slice e') /\ isStrA a = false) (h8 : ∀ st, elemsA st a = some (sz', [y])) (h9 : okElems et [y] = true) (h10 : Nat.beq sz' et.size = true)
  (hroom : roomA et (xs.length + 1) = true) (k : ∀ b', OS E false pol ops r (i + 1) N ((d, .sl sz b' 0 (xs ++ [y]).length) :: l) (L ++ [(b', .row sz (xs ++ [y]))]) K Q) :
  OD E false pol ops { dst := some d, op := .call { callee := .builtin .append, args := #[s, x], argTypes := #[ts, tx] }, type := ty, pos := pos, after := after, guard := guard } r i N l (L ++ litO sz b xs) K Q := by
 subst h6
 refine .loud rfl rfl (fun _ h => by cases h) fun tm st hF => ?_
 have h0 : Abs.loud E noCall (pol i) tm st { dst := some d, op := .call { callee := .builtin .append, args := #[s, x], argTypes := #[ts, tx] }, type := ty, pos := pos, after := after, guard := guard } = appendOpA E (pol i == 1) st ts tx (evalO tm s) (evalO tm x) := rfl
 have hp : (pol i == 1) = true := by
  have := Nat.eq_of_beq_eq_true hpol
  simp [this]
 rw [h0, hF.ev hs, hF.ev hx, hp, appendOp_key h1 h2 h3 h4 h5 (.inr h7) st (h8 st) h9 (by simpa using h10)]
 match xs, hne with
 | [x0], _ =>
  refine ⟨.sl et.size st.next 0 2, st.new (.row et.size [x0, y]), (d, .sl et.size st.next 0 2) :: l, L ++ [(st.next, .row et.size ([x0] ++ [y]))], K, ?_, ?_, ?_⟩
  ·simp only [litV, appendA]
   rw [if_pos ⟨trivial, by simpa using hroom⟩]
   rfl
  ·have hF0 : Fa N l L K tm st := by simpa [litO] using hF
   exact ((hF0.new _).sub (fun _ _ h => h) SubO.rot (.refl _)).put hn _
  ·exact k st.next
 | x0 :: x1 :: xs, _ =>
  have hg := (hF.obj L.length b (.row et.size (x0 :: x1 :: xs)) (by simp only [litO]; exact get_last)).1
  refine ⟨.sl et.size st.next 0 ((x0 :: x1 :: xs).length + 1), (st.drop b).new (.row et.size ((x0 :: x1 :: xs) ++ [y])), (d, .sl et.size st.next 0 ((x0 :: x1 :: xs).length + 1)) :: l, L ++ [(st.next, .row et.size ((x0 :: x1 :: xs) ++ [y]))], K, ?_, ?_, ?_⟩
  ·simp only [litV, appendA, hg]
   rw [if_pos ⟨trivial, trivial, by omega, by simpa using hroom⟩]
   simp
  ·have hS := hF.s.swap (kk := L.length) (by simp only [litO]; exact get_last) (.row et.size ((x0 :: x1 :: xs) ++ [y]))
   simp only [litO] at hS
   rw [set_last] at hS
   exact (hF.withS2 hS).put hn _
  ·have := k st.next
   rw [show (x0 :: x1 :: xs ++ [y]).length = (x0 :: x1 :: xs).length + 1 by simp] at this
   exact this
end
end Go.Abs
namespace Go.OptEnv
open Go Go.Proofs Go.Abs Go.RowKit Go.NetM
set_option maxRecDepth 10000
theorem cloneG_of {α : Type} (l : List α) : cloneG (GSl.of l) = GSl.of l := by cases l <;> rfl
theorem cloneG_clone {α : Type} (s : GSl α) : cloneG (cloneG s) = cloneG s := by
 match hn : s.nil with
 | some true => unfold cloneG; rw [hn]; dsimp only; rw [hn]
 | some false => unfold cloneG; rw [hn]; rfl
 | none => unfold cloneG; rw [hn]; rfl
theorem ok4 {a b c d : AV} (ha : a.cellOk = true) (hb : b.cellOk = true) (hc : c.cellOk = true) (hd : d.cellOk = true) : (AV.agg [a, b, c, d]).ok = true := by simp [AV.ok, ha, hb, hc, hd]
theorem acc_nil {t sz : Nat} : accA t sz [] = .nilsl := rfl
theorem acc_vs {t sz : Nat} {xs : List AV} (h : xs ≠ []) : accA t sz xs = .vs sz (.tok t) xs := by
 cases xs with
 | nil => exact absurd rfl h
 | cons x xs => rfl
theorem acc_cell {t sz : Nat} {xs : List AV} : (accA t sz xs).cellOk = true := by cases xs <;> rfl
theorem cells_of {a : AV} (h : a.cellOk = true) : a.cells = [a] := by cases a <;> first | rfl | cases h
theorem ok_of {a : AV} (h : a.cellOk = true) : a.ok = true := by cases a <;> first | rfl | cases h
theorem bld4 {pr : Prims} {a b c d : AV} (ha : a.cellOk = true) (hb : b.cellOk = true) (hc : c.cellOk = true) (hd : d.cellOk = true) : buildA (En pr) 27 [(0, a), (1, b), (2, c), (3, d)] = some (.agg [a, b, c, d]) := by
 have e : buildA (En pr) 27 [(0, a), (1, b), (2, c), (3, d)] = (fillA (fieldPlaces (En pr) [(22, 0), (23, 1), (24, 2), (25, 3)]) [.nilsl, .nilsl, .nilsl, .nilsl] [(0, a), (1, b), (2, c), (3, d)]).map .agg := rfl
 have p0 : fieldPlaces (En pr) [(22, 0), (23, 1), (24, 2), (25, 3)] 0 = some (0, 1) := rfl
 have p1 : fieldPlaces (En pr) [(22, 0), (23, 1), (24, 2), (25, 3)] 1 = some (1, 1) := rfl
 have p2 : fieldPlaces (En pr) [(22, 0), (23, 1), (24, 2), (25, 3)] 2 = some (2, 1) := rfl
 have p3 : fieldPlaces (En pr) [(22, 0), (23, 1), (24, 2), (25, 3)] 3 = some (3, 1) := rfl
 rw [e]
 simp [fillA, p0, p1, p2, p3, cells_of ha, cells_of hb, cells_of hc, cells_of hd, ok_of ha, ok_of hb, ok_of hc, ok_of hd]
abbrev Quad := AV × AV × AV × AV
def qAV (q : Quad) : AV := .agg [q.1, q.2.1, q.2.2.1, q.2.2.2]
structure QOk (q : Quad) (N : GNet) : Prop where
 plain : AV.plain (qAV q) = netAV N
 free : AV.free (qAV q) = true
 ok : (qAV q).ok = true
theorem plain_list {α : Type} {f : α -> AV} (hf : ∀ a, AV.plain (f a) = f a) {sz t : Nat} {xs : List α} (hne : xs ≠ []) : AV.plain (.vs sz (.tok t) (xs.map f)) = (GSl.of xs).av sz f := by
 rw [<- acc_vs (by simpa using hne), plain_acc hf]
theorem freeze_q {L : List (Nat × AObj)} {st : St} {i g o : AV} {rb : Nat} {R : List GReg} (hi : AV.free i = true) (hg : AV.free g = true) (ho : AV.free o = true) (hS : SFa (slO 3 rb (R.map regAV) ++ L) [] st) :
  ∃ rv st2, (rv.cellOk = true /\ AV.plain rv = (GSl.of R).av 3 regAV /\ AV.free rv = true) /\ freezeA st (.tup [.agg [i, slR 3 rb (R.map regAV), g, o], .int .i64 0]) = some (.tup [.agg [i, rv, g, o], .int .i64 0], st2) /\ SFa L [] st2 := by
 by_cases hne : R.map regAV = []
 ·have hR : R = [] := by simpa using hne
  subst hR
  refine ⟨.nilsl, st, ⟨rfl, rfl, rfl⟩, ?_, hS⟩
  exact freeze_free (by simp [AV.free, AV.freeL, slR, hi, hg, ho])
 ·have hR : R ≠ [] := by simpa using hne
  rw [(slR_long hne).1]
  rw [(slR_long hne).2] at hS
  have hgt := (hS.obj 0 rb _ rfl).1
  have e : ∀ n, n = (R.map regAV).length -> freezeC st (.sl 3 rb 0 n) = some (.vs 3 (.tok st.next) (R.map regAV), (st.drop rb).newTok) := fun n hn => by
   subst hn
   simp only [freezeC, hgt]
   rw [if_pos ⟨trivial, by omega⟩, if_pos (by omega), List.drop_zero, List.take_of_length_le (Nat.le_refl _)]
  refine ⟨.vs 3 (.tok st.next) (R.map regAV), (st.drop rb).newTok, ⟨rfl, plain_list reg_plain hR, ?_⟩, ?_, hS.freeze⟩
  ·simp only [AV.free]; exact freeL_map reg_free R
  ·simp only [freezeA, freezeM, freezeB, freezeL, freezeC_free hi, e _ rfl, freezeC_free hg, freezeC_free ho]
   rfl
theorem qok_of {s : GSl ByteArray} {R : List GReg} {G : List (Int × Int)} {outs : GSl GPin} {rv v : AV} (h1 : rv.cellOk = true /\ AV.plain rv = (GSl.of R).av 3 regAV /\ AV.free rv = true) (h2 : v.cellOk = true /\ AV.plain v = outs.av 2 pinAV /\ AV.free v = true) : QOk (s.av 1 strAV, rv, (GSl.of G).av 2 gateAV, v) ⟨s, GSl.of R, GSl.of G, outs⟩ := by
 refine ⟨?_, ?_, ok4 (av_cellOk _ _ _) h1.1 (av_cellOk _ _ _) h2.1⟩
 ·simp only [qAV, netAV, AV.plain, AV.plainL, plain_av str_plain, plain_av gate_plain, h1.2.1, h2.2.1]
 ·simp only [qAV, AV.free, AV.freeL, free_av str_free, free_av gate_free, h1.2.2, h2.2.2, Bool.and_true]
theorem view_q {st : St} {i g o : AV} {rb : Nat} {R : List GReg} (hi : AV.free i = true) (hg : AV.free g = true) (ho : AV.free o = true) (hS : R ≠ [] -> st.get rb = some (.row 3 (R.map regAV))) :
  mapO (viewA st 9) [.agg [i, slR 3 rb (R.map regAV), g, o]] = some [.agg [AV.plain i, (GSl.of R).av 3 regAV, AV.plain g, AV.plain o]] := by
 by_cases hne : R.map regAV = []
 ·have hR : R = [] := by simpa using hne
  subst hR
  have hf : AV.free (.agg [i, .nilsl, g, o]) = true := by simp [AV.free, AV.freeL, hi, hg, ho]
  show mapO (viewA st 9) [.agg [i, .nilsl, g, o]] = _
  simp only [mapO, viewA_free 8 hf]
  rfl
 ·have hR : R ≠ [] := by simpa using hne
  have hgt := hS hR
  rw [(slR_long hne).1]
  have hf : AV.free (.agg [i, .sl 3 rb 0 (R.map regAV).length, g, o]) = false := by simp [AV.free, AV.freeL]
  have hf2 : AV.free (.sl 3 rb 0 (R.map regAV).length) = false := rfl
  have e1 : viewA st 8 (.sl 3 rb 0 (R.map regAV).length) = some ((GSl.of R).av 3 regAV) := by
   simp only [viewA, hf2, hgt, Bool.false_eq_true, if_false]
   rw [if_pos ⟨trivial, by omega⟩, List.drop_zero, List.take_of_length_le (Nat.le_refl _)]
   have : mapO (viewA st 7) (R.map regAV) = some (R.map regAV) := by
    have h := mapO_free (st := st) 6 (xs := R.map regAV) (freeL_map reg_free R)
    rw [plainL_map reg_plain] at h
    exact h
   simp only [viewA] at this
   rw [this]
   cases R with
   | nil => exact absurd rfl hR
   | cons r R => rfl
  have e0 : viewA st 9 (.agg [i, .sl 3 rb 0 (R.map regAV).length, g, o]) = (mapO (viewA st 8) [i, .sl 3 rb 0 (R.map regAV).length, g, o]).map .agg := by
   show (if AV.free _ then _ else _) = _
   rw [hf]; rfl
  simp only [mapO, e0, e1, viewA_free 7 hi, viewA_free 7 hg, viewA_free 7 ho]
  rfl
def nextR (R : List GReg) (next : List Int) : List GReg := List.zipWith (fun r l => ⟨r.name, r.init, l⟩) R next
def nextP (R : List GReg) (next : List Int) (i : Nat) : List GReg := nextR (R.take i) next ++ R.drop i
theorem nextR_len {R : List GReg} {next : List Int} (h : next.length = R.length) : (nextR R next).length = R.length := by simp [nextR, h]
theorem nextP_zero {R : List GReg} {next : List Int} : nextP R next 0 = R := by simp [nextP, nextR]
theorem nextP_all {R : List GReg} {next : List Int} : nextP R next R.length = nextR R next := by simp [nextP]
theorem nextP_get {R : List GReg} {next : List Int} {i : Nat} (h : next.length = R.length) (hi : i < R.length) : (nextP R next i)[i]? = some R[i] := by
 unfold nextP
 rw [List.getElem?_append_right (by simp only [nextR, List.length_zipWith, List.length_take]; omega)]
 rw [show i - (nextR (R.take i) next).length = 0 by simp only [nextR, List.length_zipWith, List.length_take]; omega, List.drop_eq_getElem_cons hi]; rfl
theorem nextP_succ {R : List GReg} {next : List Int} {i : Nat} (h : next.length = R.length) (hi : i < R.length) : nextP R next (i + 1) = (nextP R next i).set i ⟨R[i].name, R[i].init, next[i]⟩ := by
 unfold nextP
 have hl : (nextR (R.take i) next).length = i := by simp only [nextR, List.length_zipWith, List.length_take]; omega
 rw [List.set_append_right _ _ (by omega), hl, Nat.sub_self, List.drop_eq_getElem_cons hi, List.set_cons_zero]
 have : nextR (R.take (i + 1)) next = nextR (R.take i) next ++ [⟨R[i].name, R[i].init, next[i]⟩] := by
  apply List.ext_getElem?
  intro j
  simp only [nextR, List.getElem?_zipWith]
  by_cases c : j < i
  ·rw [List.getElem?_append_left (by simp only [List.length_zipWith, List.length_take]; omega)]
   simp only [List.getElem?_zipWith, List.getElem?_take]
   rw [if_pos (by omega), if_pos c]
  ·rw [List.getElem?_append_right (by simp only [List.length_zipWith, List.length_take]; omega)]
   simp only [List.length_zipWith, List.length_take, List.getElem?_take]
   by_cases c2 : j = i
   ·subst c2
    rw [if_pos (by omega), show j - min (min j R.length) next.length = 0 by omega, List.getElem?_eq_getElem hi, List.getElem?_eq_getElem (by omega)]; rfl
   ·rw [if_neg (by omega), (List.getElem?_eq_none (show 1 <= j - min (min i R.length) next.length by omega) : ([_] : List GReg)[j - min (min i R.length) next.length]? = none)]
 rw [this, List.append_assoc]; rfl
attribute [local irreducible] WS QS OS OD Abs.Sub SubO SubK CW GSl.av accA growA
section
variable {pr : Prims} {L : List (Nat × AObj)} {K : List (Nat × Bool)} {st : St}
theorem use138o (h : Has pr 138 Rel138) {t : Nat} {G : List (Int × Int)} (hs : G.length <= 1000000) (st : St) : primOf Rel138 [accA t 2 (G.map gateAV)] st = some ((GSl.of G).av 2 gateAV, st) :=
 h.use (r := (GSl.of G).av 2 gateAV) ⟨GSl.of G, by dsimp only; rw [gof_xs]; exact hs, by simp [AV.plainL, plain_acc gate_plain], by dsimp only; rw [cloneG_of]⟩ st
set_option maxHeartbeats 1000000 in
theorem run118 (h1 : pr 118 = none) (h112 : Has pr 112 Rel112) (h137 : pr 137 = none) (h138 : Has pr 138 Rel138) (h80 : pr 80 = none) {m : MkI} {tg : Nat} {G : List (Int × Int)} (hf : m.Fit) (hG : G.length <= 20000) (hS : SFa L [] st) :
  CW (En pr) 118 [.agg [m.ins.av 1 strAV, accA m.tr 3 (m.regs.map regAV), accA tg 2 (G.map gateAV), .nilsl]] st fun r st' => ∃ b : Nat, True /\ r = .agg [(cloneG m.ins).av 1 strAV, slR 3 b (m.regs.map regAV), (GSl.of G).av 2 gateAV, .nilsl] /\ SFa (slO 3 b (m.regs.map regAV) ++ L) [] st' := by
 obtain ⟨f1, f2⟩ := hf
 have u112 := use112 h112 (s := m.ins) (by omega)
 have z112 : ∀ st, freezeA st ((cloneG m.ins).av 1 strAV) = some ((cloneG m.ins).av 1 strAV, st) := fun st => freeze_free (free_av str_free)
 have u138 := use138o h138 (t := tg) (G := G) (by omega)
 have z138 : ∀ st, freezeA st ((GSl.of G).av 2 gateAV) = some ((GSl.of G).av 2 gateAV, st) := fun st => freeze_free (free_av gate_free)
 have hok : (AV.agg [m.ins.av 1 strAV, accA m.tr 3 (m.regs.map regAV), accA tg 2 (G.map gateAV), .nilsl]).ok = true := ok4 (av_cellOk _ _ _) acc_cell acc_cell rfl
 have hokR : ∀ b, (AV.agg [(cloneG m.ins).av 1 strAV, slR 3 b (m.regs.map regAV), (GSl.of G).av 2 gateAV, .nilsl]).ok = true := fun b => ok4 (av_cellOk _ _ _) slR_cell (av_cellOk _ _ _) rfl
 have c137 : ∀ (L' : List (Nat × AObj)) (st : St), SFa L' [] st -> CW (En pr) 137 [accA m.tr 3 (m.regs.map regAV)] st fun r st' => ∃ b : Nat, r = slR 3 b (m.regs.map regAV) /\ SFa (slO 3 b (m.regs.map regAV) ++ L') [] st' := fun L' st hS => by
  by_cases hne : m.regs.map regAV = []
  ·rw [hne, acc_nil]
   exact (run137n h137 hS).mono fun r st' ⟨e, hs⟩ => ⟨0, e, hs⟩
  ·rw [acc_vs hne]
   refine (run137o h137 (xs := m.regs) (sz' := 3) (fun _ _ => rfl) rfl (fun _ _ => rfl) (by simp [Nat.beq_refl]) (by omega) hS).mono fun r st' ⟨b, _, e, hs⟩ => ⟨b, ?_, ?_⟩
   ·rw [e, (slR_long hne).1, List.length_map]
   ·rw [(slR_long hne).2]; exact hs
 refine CW.startS (N := 16) h1 rfl rfl hS ?_
 repeat' (first | (refine OS.do rfl ?_; first | refine OD.box rfl rfl rfl rfl hok rfl (fun b1 => ?_) | refine OD.alloc rfl rfl rfl rfl (fun _ => ?_)) | refine OS.nil ?_ | refine WS.seq ?_ | refine QS.seqN ?_ | refine WS.region ?_)
 refine WS.drawY 12 [] (K := []) rfl rfl rfl rfl ?_; (repeat' (first | refine SegY.nil ?_ | refine SegY.auto rfl rfl rfl rfl ?_ | refine SegY.loadP 0 rfl rfl rfl rfl rfl rfl rfl ?_ | refine SegY.loadP 1 rfl rfl rfl rfl rfl rfl rfl ?_ | refine SegY.loadP 2 rfl rfl rfl rfl rfl rfl rfl ?_ | refine SegY.indexAddr rfl rfl rfl rfl rfl ?_ | refine SegY.call rfl rfl rfl rfl h112.eq u112 z112 ?_ | refine SegY.call rfl rfl rfl rfl h138.eq u138 z138 ?_ | refine SegY.callW (D := Nat) (fun _ => True) (fun b => slR 3 b (m.regs.map regAV)) (fun b => slO 3 b (m.regs.map regAV)) (fun _ => []) rfl rfl rfl rfl (fun st hS => (c137 _ st hS).mono fun r st' ⟨b, e, hs⟩ => ⟨b, st', trivial, by subst e; rfl, hs⟩) (fun b _ => ?_) | refine SegY.callW (D := Unit) (fun _ => True) (fun _ => .nilsl) (fun _ => _) (fun _ => _) rfl rfl rfl rfl (fun st hS => (run80n h80 hS).mono fun r st' ⟨e, hs⟩ => ⟨(), st', trivial, by subst e; rfl, hs⟩) (fun _ _ => ?_)))
 by_cases hne : m.regs.map regAV = []
 ·have e1 : ∀ b, slO 3 b (m.regs.map regAV) = [] := fun b => by rw [hne]; rfl
  have e2 : ∀ b, slR 3 b (m.regs.map regAV) = .nilsl := fun b => by rw [hne]; rfl
  simp only [e1, e2] at *
  dsimp only [RSt.at, List.cons_append, List.nil_append]
  repeat' (first | (refine OS.do rfl ?_; first | refine OD.build rfl rfl (bld4 (av_cellOk _ _ _) rfl (av_cellOk _ _ _) rfl) ?_ | refine OD.storeW 0 rfl rfl rfl rfl (hokR 0) rfl rfl rfl ?_) | refine OS.nil ?_ | refine QS.seqN ?_ | refine WS.ret ?_)
  exact QS.retO (ResO.cell 0 (by rfl) (by rfl) (by rfl) (by rfl) (by rfl) .nil) fun st hs => ⟨0, trivial, rfl, hs.subO (.drop (.drop (.refl _)))⟩
 ·have e1 : ∀ b, slO 3 b (m.regs.map regAV) = [(b, .row 3 (m.regs.map regAV))] := fun b => (slR_long hne).2
  have e2 : ∀ b, slR 3 b (m.regs.map regAV) = .sl 3 b 0 (m.regs.map regAV).length := fun b => (slR_long hne).1
  simp only [e1, e2] at *
  dsimp only [RSt.at, List.cons_append, List.nil_append]
  repeat' (first | (refine OS.do rfl ?_; first | refine OD.build rfl rfl (bld4 (av_cellOk _ _ _) rfl (av_cellOk _ _ _) rfl) ?_ | refine OD.storeW 1 rfl rfl rfl rfl (hokR b) rfl rfl rfl ?_) | refine OS.nil ?_ | refine QS.seqN ?_ | refine WS.ret ?_)
  exact QS.retO (ResO.cell 1 (by rfl) (by rfl) (by rfl) (by rfl) (by rfl) .nil) fun st hs => ⟨b, trivial, rfl, hs.subO (.keep (.drop (.drop (.refl _))))⟩
theorem st_out4 {sz : Nat} {a b c d v : AV} (h : v.cellOk = true) : AObj.row sz ([AV.agg [a, b, c, d]].set 0 (.agg ([a, b, c, d].take (0 + 3) ++ v.cells ++ [a, b, c, d].drop (0 + 3 + v.cells.length)))) = .row sz [.agg [a, b, c, v]] := by
 rw [cells_of h]; rfl
theorem run117n (h1 : pr 117 = none) (km : Nat) {mb tg : Nat} {m : MkI} {G : List (Int × Int)} (hm : L[km]? = some (mb, mkO m tg G)) (hS : SFa L K st) :
  CW (En pr) 117 [.ptr mb 0 0, .nilsl] st fun r st' => r = .int .i64 0 /\ SFa L K st' := by
 refine CW.startS (N := 31) h1 rfl rfl hS ?_
 repeat' (first | (refine OS.do rfl ?_; first | refine OD.loadP km rfl rfl hm rfl rfl rfl ?_ | refine OD.auto rfl rfl ?_ | refine OD.len rfl rfl (fun _ => rfl) ?_ | refine OD.nilCheckP rfl rfl ?_) | refine OS.nil ?_ | refine WS.seq ?_ | refine QS.seqN ?_ | refine WS.region ?_ | refine WS.condF rfl ?_ | refine WS.skip ?_ | refine WS.block ?_)
 refine WS.rangeX (A := Unit) (n := 0) ⟨18, _, fun _ => [], fun _ => L, fun _ => K, fun _ _ => True⟩ (()) [0, 16, 17] (trivial) ?_ ?_
 ·rintro i _ hi _
  exact absurd hi (Nat.not_lt_zero _)
 ·rintro _ _
  dsimp only [RSt.at, List.cons_append, List.nil_append]
  repeat' (first | (refine OS.do rfl ?_; first | refine OD.auto rfl rfl ?_) | refine OS.nil ?_ | refine WS.seq ?_ | refine QS.seqN ?_ | refine WS.region ?_ | refine WS.ret ?_)
  exact QS.retRS (by rfl) fun st hs => ⟨rfl, hs⟩
def netN (m : MkI) (next : List Int) (G : List (Int × Int)) (outs : GSl GPin) : GNet := ⟨cloneG m.ins, GSl.of (nextR m.regs next), GSl.of G, outs⟩
set_option maxHeartbeats 2000000 in
theorem run81 (h1 : pr 81 = none) (h117 : pr 117 = none) (h118 : pr 118 = none) (h112 : Has pr 112 Rel112) (h137 : pr 137 = none) (h138 : Has pr 138 Rel138) (h80 : pr 80 = none) (h57 : Has pr 57 Rel57) (km : Nat) {mb tg : Nat} {m : MkI} {G : List (Int × Int)} (hm : L[km]? = some (mb, mkO m tg G)) (hf : m.Fit) (hG : G.length <= 20000)
  {next : List Int} (hn : next.length = m.regs.length) {tn : Nat} {ox : AV} {outs : GSl GPin}
  (c80 : ∀ (X : List (Nat × AObj)) (st : St), SFa (X ++ L) [] st -> CW (En pr) 80 [ox] st fun r st' => ∃ (v : AV) (st2 : St), (v.cellOk = true /\ AV.plain v = outs.av 2 pinAV /\ AV.free v = true) /\ freezeA st' r = some (v, st2) /\ SFa (X ++ L) [] st2)
  (hF : FitsN (netN m next G outs)) (hV : validM (netN m next G outs) = true) (hS : SFa L [] st) :
  CW (En pr) 81 [.ptr mb 0 0, accA tn 1 (next.map intAV), ox] st fun r st' => ∃ (q : Quad) (st2 : St), QOk q (netN m next G outs) /\ freezeA st' r = some (.tup [qAV q, .int .i64 0], st2) /\ SFa L [] st2 := by
 have c117 := fun {L' : List (Nat × AObj)} (km : Nat) (hm : L'[km]? = some (mb, mkO m tg G)) (st : St) (hS : SFa L' [] st) => run117n h117 km hm hS
 have c118 := fun {L' : List (Nat × AObj)} (st : St) (hS : SFa L' [] st) => run118 h118 h112 h137 h138 h80 (tg := tg) hf hG hS
 have hf' := hf
 obtain ⟨f1, f2⟩ := hf'
 have hokR : ∀ b, (AV.agg [(cloneG m.ins).av 1 strAV, slR 3 b (m.regs.map regAV), (GSl.of G).av 2 gateAV, .nilsl]).ok = true := fun b => ok4 (av_cellOk _ _ _) slR_cell (av_cellOk _ _ _) rfl
 refine CW.startS (N := 55) h1 rfl rfl hS ?_
 repeat' (first | (refine OS.do rfl ?_; first | refine OD.loadP (km + 1) rfl rfl hm rfl rfl rfl ?_ | refine OD.storeW 0 rfl rfl rfl rfl (hokR _) rfl rfl rfl ?_ | refine OD.auto rfl rfl ?_ | refine OD.len rfl rfl (fun _ => lenTy_accm rfl rfl) ?_ | refine OD.alloc rfl rfl rfl rfl (fun _ => ?_) | refine OD.storeW 0 rfl rfl rfl rfl (by first | rfl | exact net_ok _) rfl rfl rfl ?_ | refine OD.nilCheckP rfl rfl ?_ | (refine OD.callP (fun r => r = .int .i64 0) rfl rfl rfl (c117 (km + 1) hm) (by rintro v st rfl; rfl) ?_; rintro v rfl) | (refine OD.callR (D := Nat) (fun _ => True) (fun b => .agg [(cloneG m.ins).av 1 strAV, slR 3 b (m.regs.map regAV), (GSl.of G).av 2 gateAV, .nilsl]) (fun b => slO 3 b (m.regs.map regAV) ++ _) (fun _ => []) rfl rfl rfl rfl c118 ?_; rintro rb _)) | refine OS.nil ?_ | refine WS.seq ?_ | refine QS.seqN ?_ | refine WS.region ?_ | refine WS.condF rfl ?_ | refine WS.skip ?_ | refine WS.ret ?_ | refine QS.seqR ?_ | refine WS.condNe rfl (fun _ => ?_) (fun _ => ?_))
 ·exfalso; omega
 rename_i b6 _ _ b9
 dsimp only [List.set_cons_zero]
 by_cases hne : m.regs = []
 ·have hnx : next = [] := by
   rw [hne] at hn
   exact List.length_eq_zero_iff.1 hn
  have e1 : slO 3 rb (m.regs.map regAV) = [] := by rw [hne]; rfl
  have e2 : slR 3 rb (m.regs.map regAV) = .nilsl := by rw [hne]; rfl
  rw [e1, e2]
  dsimp only [List.cons_append, List.nil_append]
  repeat' (first | (refine OS.do rfl ?_; first | refine OD.auto rfl rfl ?_ | refine OD.len rfl rfl (fun _ => lenTy_accm rfl rfl) ?_ | (refine OD.callZ (D := AV) (fun v => v.cellOk = true /\ AV.plain v = outs.av 2 pinAV /\ AV.free v = true) (fun v => v) (fun _ => [(b9, _), (b6, _)] ++ L) (fun _ => []) rfl rfl rfl rfl (fun st hS => (c80 [_, _] st hS).mono fun r st' ⟨v, st2, a, b, c⟩ => ⟨v, st2, a, b, c⟩) ?_; rintro v ⟨v1, v2, v3⟩) | (refine OD.storeG 0 rfl rfl rfl rfl rfl (ok_of v1) (by rw [cells_of v1]; rfl) (by rw [cells_of v1]; rfl) ?_; rw [st_out4 v1])) | refine OS.nil ?_ | refine WS.seq ?_ | refine QS.seqN ?_ | refine WS.region ?_ | refine WS.block ?_)
  dsimp only [List.cons_append, List.nil_append, List.set_cons_zero]
  have hview : ∀ st : St, mapO (viewA st 9) [.agg [(cloneG m.ins).av 1 strAV, .nilsl, (GSl.of G).av 2 gateAV, v]] = some [netAV (netN m next G outs)] := fun st => by
   have := view_q (st := st) (rb := rb) (R := []) (free_av str_free (s := cloneG m.ins) (sz := 1)) (free_av gate_free (s := GSl.of G) (sz := 2)) v3 (fun h => absurd rfl h)
   rw [v2, plain_av str_plain, plain_av gate_plain] at this
   unfold netN
   rw [show nextR m.regs next = [] by rw [hne]; rfl]
   exact this
  have u57 : ∀ st : St, primOf Rel57 [.agg [(cloneG m.ins).av 1 strAV, .nilsl, (GSl.of G).av 2 gateAV, v]] st = some (.bool true, st) := fun st => h57.view (hview st) ⟨_, hF, rfl, (congrArg AV.bool hV).symm⟩ rfl
  refine WS.rangeX (A := Unit) (n := next.length) ⟨38, _, fun _ => [], fun _ => (b9, .row ty27.size [.agg [(cloneG m.ins).av 1 strAV, .nilsl, (GSl.of G).av 2 gateAV, v]]) :: (b6, .row ty27.size [ty27.zeroV]) :: L, fun _ => [], fun _ _ => True⟩ (()) [6, 9, 36, 37] (trivial) ?_ ?_
  ·rintro i _ hi _
   rw [hnx] at hi
   exact absurd hi (Nat.not_lt_zero _)
  ·rintro _ _
   dsimp only [RSt.at, List.cons_append, List.nil_append]
   repeat' (first | (refine OS.do rfl ?_; first | refine OD.storeW 1 rfl rfl rfl rfl (ok4 (av_cellOk _ _ _) rfl (av_cellOk _ _ _) v1) rfl rfl rfl ?_ | refine OD.loadP 0 rfl rfl rfl rfl rfl rfl ?_ | refine OD.auto rfl rfl ?_ | refine OD.call rfl rfl rfl h57.eq u57 (fun _ => rfl) ?_) | refine OS.nil ?_ | refine WS.seq ?_ | refine QS.seqN ?_ | refine WS.region ?_ | refine WS.condF rfl ?_ | refine WS.skip ?_ | refine WS.ret ?_)
   refine QS.retO (ResO.cell 1 (by rfl) (by rfl) (by rfl) (by rfl) (by rfl) (.tmp (by rfl) .nil)) fun st hs => ?_
   obtain ⟨rv, st2, q1, q2, q3⟩ := freeze_q (st := st) (rb := rb) (R := []) (free_av str_free (s := cloneG m.ins) (sz := 1)) (free_av gate_free (s := GSl.of G) (sz := 2)) v3 (L := L) (hs.subO (.drop (.drop (.refl _))))
   refine ⟨((cloneG m.ins).av 1 strAV, rv, (GSl.of G).av 2 gateAV, v), st2, ?_, q2, q3⟩
   have := qok_of (s := cloneG m.ins) (G := G) q1 ⟨v1, v2, v3⟩
   unfold netN
   rw [show nextR m.regs next = [] by rw [hne]; rfl]
   exact this
 ·have hne' : m.regs.map regAV ≠ [] := by simpa using hne
  have e1 : slO 3 rb (m.regs.map regAV) = [(rb, .row 3 (m.regs.map regAV))] := (slR_long hne').2
  have e2 : slR 3 rb (m.regs.map regAV) = .sl 3 rb 0 m.regs.length := by rw [(slR_long hne').1, List.length_map]
  rw [e1, e2]
  dsimp only [List.cons_append, List.nil_append]
  repeat' (first | (refine OS.do rfl ?_; first | refine OD.auto rfl rfl ?_ | refine OD.len rfl rfl (fun _ => lenTy_accm rfl rfl) ?_ | (refine OD.callZ (D := AV) (fun v => v.cellOk = true /\ AV.plain v = outs.av 2 pinAV /\ AV.free v = true) (fun v => v) (fun _ => [(b9, _), (rb, _), (b6, _)] ++ L) (fun _ => []) rfl rfl rfl rfl (fun st hS => (c80 [_, _, _] st hS).mono fun r st' ⟨v, st2, a, b, c⟩ => ⟨v, st2, a, b, c⟩) ?_; rintro v ⟨v1, v2, v3⟩) | (refine OD.storeG 0 rfl rfl rfl rfl rfl (ok_of v1) (by rw [cells_of v1]; rfl) (by rw [cells_of v1]; rfl) ?_; rw [st_out4 v1])) | refine OS.nil ?_ | refine WS.seq ?_ | refine QS.seqN ?_ | refine WS.region ?_ | refine WS.block ?_)
  dsimp only [List.cons_append, List.nil_append, List.set_cons_zero]
  refine WS.rangeX (A := List GReg) (n := next.length) ⟨38, _, fun _ => [], fun R => (b9, .row ty27.size [.agg [(cloneG m.ins).av 1 strAV, .sl 3 rb 0 m.regs.length, (GSl.of G).av 2 gateAV, v]]) :: (rb, .row 3 (R.map regAV)) :: (b6, .row ty27.size [ty27.zeroV]) :: L, fun _ => [], fun i R => R = nextP m.regs next i⟩ (m.regs) [6, 9, 36, 37] (nextP_zero.symm) ?_ ?_
  ·rintro i R hi hR
   try dsimp only at hR
   have hir : i < m.regs.length := by omega
   have hbr : (R.map regAV)[i]? = some (regAV m.regs[i]) := by rw [List.getElem?_map, hR, nextP_get hn hir]; rfl
   have hmr : (R.map regAV).set i (.agg [.str m.regs[i].name, .int .u8 m.regs[i].init.toNat, .int .i64 next[i]]) = (R.set i ⟨m.regs[i].name, m.regs[i].init, next[i]⟩).map regAV := by rw [List.map_set]; rfl
   dsimp only [RSt.at, List.cons_append, List.nil_append]
   repeat' (first | (refine OS.do rfl ?_; first | refine OD.loadP 0 rfl rfl rfl rfl rfl rfl ?_ | refine OD.auto rfl rfl ?_ | refine OD.indexAddr rfl rfl rfl (indexAddrA_accn rfl rfl rfl rfl (by first | assumption | exact List.getElem?_eq_getElem (by omega))) ?_ | refine OD.indexAddr rfl rfl rfl (indexAddrA_sl rfl rfl rfl rfl (by omega)) ?_ | refine OD.storeG 1 rfl rfl rfl rfl hbr rfl rfl rfl ?_) | refine OS.nil ?_ | refine WS.seq ?_ | refine QS.seqN ?_ | refine WS.region ?_)
   exact QS.rangeX (R.set i ⟨m.regs[i].name, m.regs[i].init, next[i]⟩) (by (try dsimp only) <;> exact (by rw [nextP_succ hn hir, hR])) (hL := by (try dsimp only); rw [<- hmr]; exact SubO.refl _)
  ·rintro R hR
   try dsimp only at hR
   rw [hn, nextP_all] at hR
   subst hR
   have hnl : (nextR m.regs next).length = m.regs.length := nextR_len hn
   have hne2 : (nextR m.regs next).map regAV ≠ [] := by
    intro h
    have : (nextR m.regs next).length = 0 := by rw [List.map_eq_nil_iff.1 h]; rfl
    exact hne (List.length_eq_zero_iff.1 (by omega))
   have e3 : slR 3 rb ((nextR m.regs next).map regAV) = .sl 3 rb 0 m.regs.length := by rw [(slR_long hne2).1, List.length_map, hnl]
   have hview : ∀ st : St, st.get rb = some (.row 3 ((nextR m.regs next).map regAV)) -> mapO (viewA st 9) [.agg [(cloneG m.ins).av 1 strAV, .sl 3 rb 0 m.regs.length, (GSl.of G).av 2 gateAV, v]] = some [netAV (netN m next G outs)] := fun st hg => by
    have := view_q (st := st) (rb := rb) (R := nextR m.regs next) (free_av str_free (s := cloneG m.ins) (sz := 1)) (free_av gate_free (s := GSl.of G) (sz := 2)) v3 (fun _ => hg)
    rw [v2, plain_av str_plain, plain_av gate_plain, e3] at this
    exact this
   have u57 : ∀ st : St, SFa ((b9, .row ty27.size [.agg [(cloneG m.ins).av 1 strAV, .sl 3 rb 0 m.regs.length, (GSl.of G).av 2 gateAV, v]]) :: (rb, .row 3 ((nextR m.regs next).map regAV)) :: (b6, .row ty27.size [ty27.zeroV]) :: L) [] st -> primOf Rel57 [.agg [(cloneG m.ins).av 1 strAV, .sl 3 rb 0 m.regs.length, (GSl.of G).av 2 gateAV, v]] st = some (.bool true, st) := fun st hS => h57.view (hview st (hS.obj 1 rb _ rfl).1) ⟨_, hF, rfl, (congrArg AV.bool hV).symm⟩ rfl
   dsimp only [RSt.at, List.cons_append, List.nil_append]
   repeat' (first | (refine OS.do rfl ?_; first | refine OD.storeW 2 rfl rfl rfl rfl (ok4 (av_cellOk _ _ _) rfl (av_cellOk _ _ _) v1) rfl rfl rfl ?_ | refine OD.loadP 0 rfl rfl rfl rfl rfl rfl ?_ | refine OD.auto rfl rfl ?_ | refine OD.callV rfl rfl rfl h57.eq u57 (fun _ => rfl) ?_) | refine OS.nil ?_ | refine WS.seq ?_ | refine QS.seqN ?_ | refine WS.region ?_ | refine WS.condF rfl ?_ | refine WS.skip ?_ | refine WS.ret ?_)
   refine QS.retO (ResO.cell 2 (by rfl) (by rfl) (by rfl) (by rfl) (by rfl) (.tmp (by rfl) .nil)) fun st hs => ?_
   obtain ⟨rv, st2, q1, q2, q3⟩ := freeze_q (st := st) (rb := rb) (R := nextR m.regs next) (free_av str_free (s := cloneG m.ins) (sz := 1)) (free_av gate_free (s := GSl.of G) (sz := 2)) v3 (L := L) (by rw [(slR_long hne2).2]; exact hs.subO (.drop (.keep (.drop (.refl _)))))
   rw [e3] at q2
   exact ⟨_, st2, qok_of (s := cloneG m.ins) (G := G) q1 ⟨v1, v2, v3⟩, q2, q3⟩
end
end Go.OptEnv
namespace Go.OptEnv
open Go Go.Proofs Go.Abs Go.RowKit Go.NetM
set_option maxRecDepth 10000
def mapC {α β : Type} (s : GSl α) (f : α -> β) : GSl β := match s.nil with
 | some true => GSl.of []
 | _ => GSl.some (s.xs.map f)
theorem mapC_xs {α β : Type} (s : GSl α) (f : α -> β) : (mapC s f).xs = s.xs.map f := by
 unfold mapC
 split
 ·rename_i h; rw [s.h (by rw [h]; simp)]; rfl
 ·rfl
def withLit (lits : List Int) (p : GPin) : GPin := ⟨p.name, atL lits p.lit⟩
def pinP (lits : List Int) (P : List GPin) (i : Nat) : List GPin := (P.take i).map (withLit lits) ++ P.drop i
theorem pinP_get {lits : List Int} {P : List GPin} {i : Nat} (h : i < P.length) : (pinP lits P i)[i]? = some P[i] := by
 unfold pinP
 rw [List.getElem?_append_right (by simp only [List.length_map, List.length_take]; omega)]
 rw [show i - ((P.take i).map (withLit lits)).length = 0 by simp only [List.length_map, List.length_take]; omega, List.drop_eq_getElem_cons h]; rfl
theorem pinP_succ {lits : List Int} {P : List GPin} {i : Nat} (h : i < P.length) : pinP lits P (i + 1) = (pinP lits P i).set i (withLit lits P[i]) := by
 unfold pinP
 rw [map_take_succ h, List.set_append_right _ _ (by simp only [List.length_map, List.length_take]; omega)]
 rw [show i - ((P.take i).map (withLit lits)).length = 0 by simp only [List.length_map, List.length_take]; omega, List.drop_eq_getElem_cons h]
 simp only [List.append_assoc, List.cons_append, List.nil_append, List.set_cons_zero]
theorem pinP_zero {lits : List Int} {P : List GPin} : pinP lits P 0 = P := by simp [pinP]
theorem pinP_all {lits : List Int} {P : List GPin} : pinP lits P P.length = P.map (withLit lits) := by simp [pinP]
structure LitsOk (lits : List Int) : Prop where
 range : ∀ j, 0 <= lits.getD j 0 /\ lits.getD j 0 < 4611686018427387904
 len : lits.length <= 1000000
theorem get_at {α : Type} {A B : List α} {p : α} : (A ++ p :: B)[A.length]? = some p := by
 rw [List.getElem?_append_right (Nat.le_refl _), Nat.sub_self]; rfl
theorem SFa.behind {X L : List (Nat × AObj)} {p : Nat × AObj} {st : St} (h : SFa (X ++ p :: L) [] st) : st.get p.1 = some p.2 := (h.obj X.length p.1 p.2 get_at).1
theorem freeze_sl {L : List (Nat × AObj)} {st : St} {sz b n : Nat} {xs : List AV} (hn : n = xs.length) (h : SFa ((b, .row sz xs) :: L) [] st) : freezeA st (.sl sz b 0 n) = some (.vs sz (.tok st.next) xs, (st.drop b).newTok) /\ SFa L [] ((st.drop b).newTok) := by
 subst hn
 refine ⟨?_, h.freeze⟩
 show freezeC st (.sl sz b 0 xs.length) = _
 simp only [freezeC, (h.obj 0 b _ rfl).1]
 rw [if_pos ⟨trivial, by omega⟩, if_pos (by omega), List.drop_zero, List.take_of_length_le (Nat.le_refl _)]
theorem plain_some {α : Type} {f : α -> AV} (hf : ∀ a, AV.plain (f a) = f a) {sz : Nat} {o : Own} {xs : List α} : AV.plain (.vs sz o (xs.map f)) = (GSl.some xs).av sz f := by
 simp only [AV.plain, plainL_map hf]; rfl
attribute [local irreducible] WS QS OS OD Abs.Sub SubO SubK CW GSl.av accA growA
section
variable {pr : Prims} {L : List (Nat × AObj)} {K : List (Nat × Bool)} {st : St}
theorem run125g (h1 : pr 125 = none) (k5 : Nat) {b5 : Nat} {lits : List Int} {b : Bool} {t : Nat} (hx : L[k5]? = some (b5, .row 1 [growA b t 1 (lits.map intAV)])) (ho : LitsOk lits) {l : Int} (hl : 0 <= l /\ l < 2 * (lits.length : Int)) (hS : SFa L K st) :
  CW (En pr) 125 [.int .i64 l, .ptr b5 0 0] st fun r st' => r = .int .i64 (atL lits l) /\ SFa L K st' := by
 obtain ⟨hv, hn⟩ := ho
 have hw : IntKind.i64.wrap (l.tdiv 2) = l / 2 := by
  rw [Int.tdiv_eq_ediv_of_nonneg hl.1]
  exact wrap64 (by omega) (by omega)
 have hg : lits[(l / 2).toNat]? = some (lits.getD (l / 2).toNat 0) := by
  rw [List.getD_eq_getElem?_getD, List.getElem?_eq_getElem (by omega)]; rfl
 refine CW.startS (N := 12) h1 rfl rfl hS ?_
 repeat' (first | (refine OS.do rfl ?_; first | refine OD.loadP (v := growA b t 1 (lits.map intAV)) k5 rfl rfl hx rfl (by unfold growA; rfl) (by unfold growA; rfl) ?_ | refine OD.indexAddr rfl rfl rfl (indexAddrA_grow rfl rfl rfl rfl (by rw [hw]; omega) (by rw [hw]; exact hg)) ?_ | refine OD.auto rfl rfl ?_) | refine OS.nil ?_ | refine WS.seq ?_ | refine QS.seqN ?_ | refine WS.region ?_ | refine WS.ret ?_)
 exact QS.retRS (by rfl) fun st hs => ⟨by rw [and1 hl.1, xor_flip (hv _) (by omega)]; rfl, hs⟩
theorem run125s (h1 : pr 125 = none) (k5 kl : Nat) {b5 lb : Nat} {lits : List Int} (hx : L[k5]? = some (b5, .row 1 [.sl 1 lb 0 lits.length])) (hL : L[kl]? = some (lb, .row 1 (lits.map intAV))) (ho : LitsOk lits) {l : Int} (hl : 0 <= l /\ l < 2 * (lits.length : Int)) (hS : SFa L K st) :
  CW (En pr) 125 [.int .i64 l, .ptr b5 0 0] st fun r st' => r = .int .i64 (atL lits l) /\ SFa L K st' := by
 obtain ⟨hv, hn⟩ := ho
 have hw : IntKind.i64.wrap (l.tdiv 2) = l / 2 := by
  rw [Int.tdiv_eq_ediv_of_nonneg hl.1]
  exact wrap64 (by omega) (by omega)
 have hidx : indexAddrA (En pr) 38 (.sl 1 lb 0 lits.length) (.int .i64 (IntKind.i64.wrap (l.tdiv 2))) = some (.ptr lb (l / 2).toNat 0) := by
  rw [hw, show l / 2 = (((l / 2).toNat : Nat) : Int) by omega]
  exact indexAddrA_sl rfl rfl rfl rfl (by omega)
 have hg : (lits.map intAV)[(l / 2).toNat]? = some (intAV (lits.getD (l / 2).toNat 0)) := by
  rw [List.getElem?_map, List.getD_eq_getElem?_getD, List.getElem?_eq_getElem (by omega)]; rfl
 refine CW.startS (N := 12) h1 rfl rfl hS ?_
 repeat' (first | (refine OS.do rfl ?_; first | refine OD.loadP k5 rfl rfl hx rfl rfl rfl ?_ | refine OD.indexAddr rfl rfl rfl hidx ?_ | refine OD.loadP kl rfl rfl hL hg rfl rfl ?_ | refine OD.auto rfl rfl ?_) | refine OS.nil ?_ | refine WS.seq ?_ | refine QS.seqN ?_ | refine WS.region ?_ | refine WS.ret ?_)
 exact QS.retRS (by rfl) fun st hs => ⟨by rw [and1 hl.1, xor_flip (hv _) (by omega)]; rfl, hs⟩
set_option maxHeartbeats 2000000 in
theorem run96 (h1 : pr 96 = none) (h81 : pr 81 = none) (h117 : pr 117 = none) (h118 : pr 118 = none) (h112 : Has pr 112 Rel112) (h137 : pr 137 = none) (h138 : Has pr 138 Rel138) (h80 : pr 80 = none) (h57 : Has pr 57 Rel57) (km : Nat) {mb tg : Nat} {m : MkI} {G : List (Int × Int)} (hm : L[km]? = some (mb, mkO m tg G)) (hf : m.Fit) (hG : G.length <= 20000)
  (n : GNet) (hnr : n.regs.xs.length = m.regs.length) (hno : n.outs.xs.length <= 1000) {x : AV} (hxc : x.cellOk = true) {lits : List Int} (hnx : ∀ r ∈ n.regs.xs, 0 <= r.next /\ r.next < 2 * (lits.length : Int)) (hox : ∀ p ∈ n.outs.xs, 0 <= p.lit /\ p.lit < 2 * (lits.length : Int))
  (cto : ∀ (X : List (Nat × AObj)) (k5 b5 : Nat) (l : Int) (K' : List (Nat × Bool)) (st : St), X[k5]? = some (b5, .row 1 [x]) -> (0 <= l /\ l < 2 * (lits.length : Int)) -> SFa (X ++ L) K' st -> CW (En pr) 125 [.int .i64 l, .ptr b5 0 0] st fun r st' => r = .int .i64 (atL lits l) /\ SFa (X ++ L) K' st')
  (hF : FitsN (netN m (n.regs.xs.map fun r => atL lits r.next) G (mapC n.outs (withLit lits)))) (hV : validM (netN m (n.regs.xs.map fun r => atL lits r.next) G (mapC n.outs (withLit lits))) = true) (hS : SFa L [] st) :
  CW (En pr) 96 [.ptr mb 0 0, netAV n, x] st fun r st' => ∃ q : Quad, QOk q (netN m (n.regs.xs.map fun r => atL lits r.next) G (mapC n.outs (withLit lits))) /\ r = .tup [qAV q, .int .i64 0] /\ SFa L [] st' := by
 have hf' := hf
 obtain ⟨f1, f2⟩ := hf'
 refine CW.startS (N := 56) h1 rfl rfl hS ?_
 repeat' (first | (refine OS.do rfl ?_; first | refine OD.box rfl rfl rfl rfl (net_ok _) rfl (fun b4 => ?_) | refine OD.box rfl rfl rfl rfl (ok_of hxc) (by rw [cells_of hxc]; rfl) (fun b5 => ?_) | refine OD.auto rfl rfl ?_ | refine OD.len rfl rfl (fun _ => lenTy_av rfl rfl) ?_ | refine OD.loadP 2 rfl rfl rfl rfl rfl rfl ?_ | refine OD.alloc rfl rfl rfl rfl (fun _ => ?_)) | refine OS.nil ?_ | refine WS.seq ?_ | refine QS.seqN ?_ | refine WS.region ?_ | refine WS.block ?_)
 rename_i b6
 refine WS.newK ?_
 refine WS.rangeX (A := Nat × List Int) (n := n.regs.xs.length) ⟨18, _, fun a => [(9, accA a.1 1 (a.2.map intAV))], fun _ => (b6, .row ty27.size [ty27.zeroV]) :: (b5, .row ty38.size [x]) :: (b4, .row ty27.size [netAV n]) :: L, fun a => [(a.1, !a.2.isEmpty)], fun i a => a.2 = (n.regs.xs.take i).map (fun r => atL lits r.next)⟩ ((0, [])) [0, 4, 6, 8, 16, 17] (rfl) ?_ ?_ (hm := by (try dsimp only); repeat' (first | exact Sub.nil _ | refine Sub.cons (congrArg some acc_nil.symm) ?_ | refine Sub.cons (congrArg (fun z => some (AV.int .i64 z)) (wrap_succ (by omega))) ?_ | refine Sub.cons rfl ?_))
 ·rintro i ⟨t, R⟩ hi hR
  try dsimp only at hR
  have hRl : R.length = i := by rw [hR, List.length_map, List.length_take]; omega
  have hrn := hnx _ (List.getElem_mem hi)
  have hgm : R.map intAV ++ [.int .i64 (atL lits n.regs.xs[i].next)] = (R ++ [atL lits n.regs.xs[i].next]).map intAV := by rw [List.map_append]; rfl
  dsimp only [RSt.at, List.cons_append, List.nil_append]
  repeat' (first | (refine OS.do rfl ?_; first | refine OD.loadP 0 rfl rfl rfl rfl rfl rfl ?_ | refine OD.auto rfl rfl ?_ | refine OD.indexAddr rfl rfl rfl (indexAddrA_nat rfl rfl rfl rfl (by first | assumption | exact List.getElem?_eq_getElem (by omega))) ?_ | refine OD.alloc rfl rfl rfl rfl (fun _ => ?_) | refine OD.storeW 0 rfl rfl rfl rfl (by first | rfl | exact net_ok _) rfl rfl rfl ?_ | (refine OD.callP (fun v => v = .int .i64 (atL lits n.regs.xs[i].next)) rfl rfl rfl (fun st hS => cto [_, _, _, _] 2 b5 n.regs.xs[i].next _ st rfl hrn hS) (by rintro v st rfl; rfl) ?_; rintro v rfl) | refine OD.append 0 (xs := R.map intAV) (ys := [.int .i64 (atL lits n.regs.xs[i].next)]) rfl rfl rfl rfl (by rw [List.isEmpty_map]; rfl) rfl rfl rfl rfl rfl rfl (.inr ⟨⟨_, rfl⟩, rfl⟩) (fun _ => rfl) rfl rfl (roomB rfl (by simp only [List.length_map, List.length_singleton]; omega)) (fun t' => ?_)) | refine OS.nil ?_ | refine WS.seq ?_ | refine QS.seqN ?_ | refine WS.region ?_)
  rw [hgm, List.isEmpty_map]
  exact QS.rangeX ((t', R ++ [atL lits n.regs.xs[i].next])) (by (try dsimp only) <;> exact (by rw [map_take_succ hi, <- hR])) (hL := by (try dsimp only); exact SubO.drop (SubO.refl _))
 ·rintro ⟨t, R⟩ hR
  try dsimp only at hR
  rw [List.take_of_length_le (Nat.le_refl _)] at hR
  subst hR
  by_cases hnl : n.outs.nil = some true
  ·have ea : n.outs.av 2 pinAV = .nilsl := by unfold GSl.av; rw [hnl]
   have exs : n.outs.xs = [] := n.outs.h (by rw [hnl]; simp)
   have eo : (mapC n.outs (withLit lits)).av 2 pinAV = .nilsl := by unfold mapC; rw [hnl]; unfold GSl.av; rfl
   have c80a := fun {L' : List (Nat × AObj)} {K' : List (Nat × Bool)} (st : St) (hS : SFa L' K' st) => (show CW (En pr) 80 [n.outs.av 2 pinAV] st fun r st' => ∃ _ : Unit, True /\ r = .nilsl /\ SFa L' K' st' by rw [ea]; exact (run80n h80 hS).mono fun r st' ⟨e, hs⟩ => ⟨(), trivial, e, hs⟩)
   have c80' : ∀ {L' : List (Nat × AObj)} (X : List (Nat × AObj)) (st : St), SFa (X ++ L') [] st -> CW (En pr) 80 [.nilsl] st fun r st' => ∃ (v : AV) (st2 : St), (v.cellOk = true /\ AV.plain v = (mapC n.outs (withLit lits)).av 2 pinAV /\ AV.free v = true) /\ freezeA st' r = some (v, st2) /\ SFa (X ++ L') [] st2 := fun X st hS => (run80n h80 hS).mono fun r st' ⟨e, hs⟩ => ⟨.nilsl, st', ⟨rfl, eo.symm, rfl⟩, by subst e; rfl, hs⟩
   dsimp only [RSt.at, List.cons_append, List.nil_append]
   repeat' (first | (refine OS.do rfl ?_; first | refine OD.auto rfl rfl ?_ | refine OD.len rfl rfl (fun _ => rfl) ?_ | refine OD.loadP 2 rfl rfl rfl rfl rfl rfl ?_ | (refine OD.callR (D := Unit) (fun _ => True) (fun _ => .nilsl) (fun _ => _) (fun _ => _) rfl rfl rfl rfl c80a ?_; rintro _ _)) | refine OS.nil ?_ | refine WS.seq ?_ | refine QS.seqN ?_ | refine WS.region ?_ | refine WS.block ?_)
   refine WS.rangeX (A := Unit) (n := 0) ⟨35, _, fun _ => [], fun _ => (b6, .row ty27.size [ty27.zeroV]) :: (b5, .row ty38.size [x]) :: (b4, .row ty27.size [netAV n]) :: L, fun _ => [], fun _ _ => True⟩ (()) [0, 6, 8, 9, 12, 34] (trivial) ?_ ?_
   ·rintro i _ hi _
    exact absurd hi (Nat.not_lt_zero _)
   rintro _ _
   dsimp only [RSt.at, List.cons_append, List.nil_append]
   repeat' (first | (refine OS.do rfl ?_; first | refine OD.storeW 0 rfl rfl rfl rfl hq.ok rfl rfl rfl ?_ | refine OD.auto rfl rfl ?_ | (refine OD.callZ (D := Quad) (fun q => QOk q (netN m (n.regs.xs.map fun r => atL lits r.next) G (mapC n.outs (withLit lits)))) (fun q => .tup [qAV q, .int .i64 0]) (fun _ => _) (fun _ => []) rfl rfl rfl rfl (fun st hS => run81 h81 h117 h118 h112 h137 h138 h80 h57 (km + 3) hm hf hG (by rw [List.length_map, hnr]) c80' hF hV hS) ?_; rintro q hq)) | refine OS.nil ?_ | refine WS.seq ?_ | refine QS.seqN ?_ | refine WS.region ?_ | refine WS.ret ?_)
   refine QS.retO (ResO.cell 0 (by rfl) (by rfl) (by rfl) (by rfl) (by rfl) (.tmp (by rfl) .nil)) fun st hs => ⟨q, hq, rfl, hs.subO (.drop (.drop (.drop (.refl _))))⟩
  ·have hca : n.outs.av 2 pinAV = .es \/ n.outs.av 2 pinAV = .vs 2 .any (n.outs.xs.map pinAV) := by
    unfold GSl.av
    match hm : n.outs.nil with
    | some true => exact absurd hm hnl
    | some false => exact .inl rfl
    | none => exact .inr rfl
   have hnl0 : ∀ xo yo, binA (En pr) .eql 25 xo yo (n.outs.av 2 pinAV) .nilsl = some (.bool false) := fun xo yo => by rcases hca with h | h <;> rw [h] <;> rfl
   have eo : (mapC n.outs (withLit lits)) = GSl.some (n.outs.xs.map (withLit lits)) := by
    unfold mapC
    match hm : n.outs.nil with
    | some true => exact absurd hm hnl
    | some false => rfl
    | none => rfl
   have c80a := fun {L' : List (Nat × AObj)} {K' : List (Nat × Bool)} (st : St) (hS : SFa L' K' st) => run80o h80 (xs := n.outs.xs) hnl0 isStr_gsl (fun st _ => elemsA_gsl st) szOf_ok (by omega) hS
   dsimp only [RSt.at, List.cons_append, List.nil_append]
   repeat' (first | (refine OS.do rfl ?_; first | refine OD.auto rfl rfl ?_ | refine OD.len rfl rfl (fun _ => rfl) ?_ | refine OD.loadP 2 rfl rfl rfl rfl rfl rfl ?_ | (refine OD.callR (D := Nat) (fun _ => True) (fun b => .sl 2 b 0 n.outs.xs.length) (fun b => (b, .row 2 (n.outs.xs.map pinAV)) :: _) (fun _ => _) rfl rfl rfl rfl c80a ?_; rintro ob _)) | refine OS.nil ?_ | refine WS.seq ?_ | refine QS.seqN ?_ | refine WS.region ?_ | refine WS.block ?_)
   refine WS.rangeX (A := List GPin) (n := n.outs.xs.length) ⟨35, _, fun _ => [], fun P => (ob, .row 2 (P.map pinAV)) :: (b6, .row ty27.size [ty27.zeroV]) :: (b5, .row ty38.size [x]) :: (b4, .row ty27.size [netAV n]) :: L, fun _ => [], fun i P => P = pinP lits n.outs.xs i⟩ (n.outs.xs) [0, 6, 8, 9, 12, 34] (pinP_zero.symm) ?_ ?_
   ·rintro i P hi hP
    try dsimp only at hP
    have hlit := hox _ (List.getElem_mem hi)
    have hbr : (P.map pinAV)[i]? = some (pinAV n.outs.xs[i]) := by rw [List.getElem?_map, hP, pinP_get hi]; rfl
    have hmr : (P.map pinAV).set i (.agg [.str n.outs.xs[i].name, .int .i64 (atL lits n.outs.xs[i].lit)]) = (P.set i (withLit lits n.outs.xs[i])).map pinAV := by rw [List.map_set]; rfl
    dsimp only [RSt.at, List.cons_append, List.nil_append]
    repeat' (first | (refine OS.do rfl ?_; first | refine OD.loadP 0 rfl rfl rfl hbr rfl rfl ?_ | refine OD.auto rfl rfl ?_ | refine OD.indexAddr rfl rfl rfl (indexAddrA_sl rfl rfl rfl rfl (by omega)) ?_ | (refine OD.callP (fun v => v = .int .i64 (atL lits n.outs.xs[i].lit)) rfl rfl rfl (fun st hS => cto [_, _, _, _] 2 b5 n.outs.xs[i].lit _ st rfl hlit hS) (by rintro v st rfl; rfl) ?_; rintro v rfl) | refine OD.storeG 0 rfl rfl rfl rfl hbr rfl rfl rfl ?_) | refine OS.nil ?_ | refine WS.seq ?_ | refine QS.seqN ?_ | refine WS.region ?_)
    exact QS.rangeX (P.set i (withLit lits n.outs.xs[i])) (by (try dsimp only) <;> exact (by rw [pinP_succ hi, hP])) (hL := by (try dsimp only); rw [<- hmr]; exact SubO.refl _)
   rintro P hP
   try dsimp only at hP
   rw [pinP_all] at hP
   have hPl : P.length = n.outs.xs.length := by rw [hP, List.length_map]
   have c80' : ∀ {L' : List (Nat × AObj)} (X : List (Nat × AObj)) (st : St), SFa (X ++ (ob, .row 2 (P.map pinAV)) :: L') [] st -> CW (En pr) 80 [.sl 2 ob 0 n.outs.xs.length] st fun r st' => ∃ (v : AV) (st2 : St), (v.cellOk = true /\ AV.plain v = (mapC n.outs (withLit lits)).av 2 pinAV /\ AV.free v = true) /\ freezeA st' r = some (v, st2) /\ SFa (X ++ (ob, .row 2 (P.map pinAV)) :: L') [] st2 := fun X st hS =>
    (run80o h80 (xs := P) (sz' := 2) (fun _ _ => rfl) rfl (fun st hS => elems_row (SFa.behind hS) (by rw [List.length_map, hPl])) (by simp [Nat.beq_refl]) (by omega) hS).mono fun r st' ⟨b, _, e, hs⟩ => by
     obtain ⟨z1, z2⟩ := freeze_sl (n := P.length) (by rw [List.length_map]) hs
     refine ⟨_, _, ⟨rfl, ?_, ?_⟩, by rw [e]; exact z1, z2⟩
     ·rw [plain_some pin_plain, eo, hP]
     ·simp only [AV.free]; exact freeL_map pin_free P
   dsimp only [RSt.at, List.cons_append, List.nil_append]
   repeat' (first | (refine OS.do rfl ?_; first | refine OD.storeW 1 rfl rfl rfl rfl hq.ok rfl rfl rfl ?_ | refine OD.auto rfl rfl ?_ | (refine OD.callZ (D := Quad) (fun q => QOk q (netN m (n.regs.xs.map fun r => atL lits r.next) G (mapC n.outs (withLit lits)))) (fun q => .tup [qAV q, .int .i64 0]) (fun _ => _) (fun _ => []) rfl rfl rfl rfl (fun st hS => run81 h81 h117 h118 h112 h137 h138 h80 h57 (km + 4) hm hf hG (by rw [List.length_map, hnr]) c80' hF hV hS) ?_; rintro q hq)) | refine OS.nil ?_ | refine WS.seq ?_ | refine QS.seqN ?_ | refine WS.region ?_ | refine WS.ret ?_)
   refine QS.retO (ResO.cell 1 (by rfl) (by rfl) (by rfl) (by rfl) (by rfl) (.tmp (by rfl) .nil)) fun st hs => ⟨q, hq, rfl, hs.subO (.drop (.drop (.drop (.drop (.refl _)))))⟩
end
end Go.OptEnv
namespace Go.OptEnv
open Go Go.Proofs Go.Abs Go.RowKit Go.NetM
set_option maxRecDepth 10000
theorem idxOf_at : ∀ {l : List UInt8} {i : Nat} {a : UInt8}, l[i]? = some a -> a ∉ l.take i -> l.idxOf a = i
 | b :: l, 0, a, h, _ => by
  simp only [List.getElem?_cons_zero, Option.some.injEq] at h
  subst h; simp
 | b :: l, i + 1, a, h, hn => by
  simp only [List.getElem?_cons_succ] at h
  simp only [List.take_succ_cons, List.mem_cons, not_or] at hn
  rw [List.idxOf_cons, show (b == a) = false by simpa using fun e : b = a => hn.1 e.symm, cond_false, idxOf_at h hn.2]
def natAV (k : Nat) : AV := .int .i64 (k : Int)
theorem b8_ne {a b : UInt8} (h : (a.toNat : Int) ≠ b.toNat) : a ≠ b := fun e => h (by rw [e])
theorem b8_eq {a b : UInt8} (h : (a.toNat : Int) = b.toNat) : a = b := by
 apply UInt8.toNat_inj.1; omega
attribute [local irreducible] WS QS OS OD Abs.Sub SubO SubK CW GSl.av accA growA
section
variable {pr : Prims} {L : List (Nat × AObj)} {K : List (Nat × Bool)} {st : St}
theorem run65 (h1 : pr 65 = none) (kk : Nat) {b : Nat} {x r : GReg} (hL : L[kk]? = some (b, .row 3 [regAV r])) (hS : SFa L K st) : CW (En pr) 65 [regAV x, .ptr b 0 0] st fun v st' => v = .bool ((x.init.toNat : Int) == r.init.toNat) /\ SFa L K st' := by
 refine CW.startS (N := 9) h1 rfl rfl hS ?_
 repeat' (first | (refine OS.do rfl ?_; first | refine OD.loadP (kk + 1) rfl rfl hL rfl rfl rfl ?_ | refine OD.loadP 0 rfl rfl rfl rfl rfl rfl ?_ | refine OD.auto rfl rfl ?_ | refine OD.box rfl rfl rfl rfl (by first | rfl | exact net_ok _) rfl (fun _ => ?_)) | refine OS.nil ?_ | refine WS.seq ?_ | refine QS.seqN ?_ | refine WS.region ?_ | refine WS.ret ?_)
 exact QS.retRS (by rfl) fun st hs => ⟨rfl, hs.tail⟩
set_option maxHeartbeats 1000000 in
theorem run64 (h1 : pr 64 = none) (h65 : pr 65 = none) (kk : Nat) {b : Nat} {r : GReg} (s : GSl GReg) (hs : s.xs.length <= 1000) (hr : r.init ∈ s.xs.map (·.init)) (hL : L[kk]? = some (b, .row 3 [regAV r])) (hS : SFa L K st) : CW (En pr) 64 [s.av 3 regAV, .fn 65 [] [.ptr b 0 0]] st fun v st' => v = natAV ((s.xs.map (·.init)).idxOf r.init) /\ SFa L K st' := by
 have c65 : ∀ (x : GReg) st, SFa L K st -> CW (En pr) 65 [regAV x, .ptr b 0 0] st fun v st' => v = .bool ((x.init.toNat : Int) == r.init.toNat) /\ SFa L K st' := fun x st hs => run65 h65 kk hL hs
 refine CW.startS (N := 19) h1 rfl rfl hS ?_
 repeat' (first | (refine OS.do rfl ?_; first | refine OD.auto rfl rfl ?_ | refine OD.len rfl rfl (fun _ => lenTy_av rfl rfl) ?_) | refine OS.nil ?_ | refine WS.seq ?_ | refine QS.seqN ?_ | refine WS.region ?_ | refine WS.block ?_)
 refine WS.rangeX (A := Unit) (n := s.xs.length) ⟨8, _, fun _ => [], fun _ => L, fun _ => K, fun i _ => r.init ∉ (s.xs.map (·.init)).take i⟩ (()) [0, 1, 7] (by simp) ?_ ?_
 ·rintro i _ hi hn
  try dsimp only at hn
  have hx : (s.xs.map (·.init))[i]? = some s.xs[i].init := by rw [List.getElem?_map, List.getElem?_eq_getElem hi]; rfl
  dsimp only [RSt.at, List.cons_append, List.nil_append]
  repeat' (first | (refine OS.do rfl ?_; first | refine OD.auto rfl rfl ?_ | refine OD.indexAddr rfl rfl rfl (indexAddrA_nat rfl rfl rfl rfl (by first | assumption | exact List.getElem?_eq_getElem (by omega))) ?_ | (refine OD.callP (fun v => v = .bool ((s.xs[i].init.toNat : Int) == r.init.toNat)) rfl rfl rfl (c65 s.xs[i]) (by rintro v st rfl; rfl) ?_; rintro v rfl)) | refine OS.nil ?_ | refine WS.seq ?_ | refine QS.seqN ?_ | refine WS.region ?_ | refine WS.condE rfl (fun _ => ?_) (fun _ => ?_) | refine WS.skip ?_ | refine WS.ret ?_ | refine QS.seqR ?_ | refine QS.rangeR ?_)
  ·rename_i hc
   refine QS.retRS (by rfl) fun st hs => ⟨?_, hs⟩
   have e := b8_eq hc
   rw [e] at hx
   rw [idxOf_at hx hn]; rfl
  ·rename_i hc
   exact QS.rangeX (()) (by (try dsimp only) <;> exact (by rw [List.take_succ_eq_append_getElem (by simpa using hi)]; simp only [List.getElem_map, List.mem_append, List.mem_singleton, not_or]; exact ⟨hn, fun e => b8_ne hc e.symm⟩))
 ·rintro _ hn
  exfalso
  try dsimp only at hn
  rw [List.take_of_length_le (by simp)] at hn
  exact hn hr
set_option maxHeartbeats 1000000 in
theorem run68 (h1 : pr 68 = none) (k1 k2 : Nat) {b1 b2 : Nat} {c1 c2 : List Nat} (hl : c1.length = c2.length) (hn : c1.length <= 1000) (hL1 : L[k1]? = some (b1, .row 1 (c1.map natAV))) (hL2 : L[k2]? = some (b2, .row 1 (c2.map natAV))) (hS : SFa L K st) : CW (En pr) 68 [.sl 1 b1 0 c1.length, .sl 1 b2 0 c2.length] st fun v st' => v = .bool (decide (c1 = c2)) /\ SFa L K st' := by
 refine CW.startS (N := 26) h1 rfl rfl hS ?_
 repeat' (first | (refine OS.do rfl ?_; first | refine OD.auto rfl rfl ?_ | refine OD.len rfl rfl (fun _ => rfl) ?_) | refine OS.nil ?_ | refine WS.seq ?_ | refine QS.seqN ?_ | refine WS.region ?_ | refine WS.skip ?_ | refine WS.block ?_ | refine WS.ret ?_ | refine QS.seqR ?_ | refine WS.condNe rfl (fun _ => ?_) (fun _ => ?_))
 ·exfalso; rename_i h; omega
 refine WS.rangeX (A := Unit) (n := c1.length) ⟨13, _, fun _ => [], fun _ => L, fun _ => K, fun i _ => c1.take i = c2.take i⟩ (()) [0, 1, 12] (rfl) ?_ ?_
 ·rintro i _ hi hq
  try dsimp only at hq
  have e1 : (c1.map natAV)[i]? = some (natAV c1[i]) := by rw [List.getElem?_map, List.getElem?_eq_getElem hi]; rfl
  have e2 : (c2.map natAV)[i]? = some (natAV (c2[i]'(by omega))) := by rw [List.getElem?_map, List.getElem?_eq_getElem (by omega)]; rfl
  dsimp only [RSt.at, List.cons_append, List.nil_append]
  repeat' (first | (refine OS.do rfl ?_; first | refine OD.loadP k1 rfl rfl hL1 e1 rfl rfl ?_ | refine OD.loadP k2 rfl rfl hL2 e2 rfl rfl ?_ | refine OD.auto rfl rfl ?_ | refine OD.indexAddr rfl rfl rfl (indexAddrA_sl rfl rfl rfl rfl (by omega)) ?_) | refine OS.nil ?_ | refine WS.seq ?_ | refine QS.seqN ?_ | refine WS.region ?_ | refine WS.skip ?_ | refine WS.ret ?_ | refine QS.seqR ?_ | refine WS.draw rfl rfl ?_ | refine QS.rangeR ?_ | refine WS.condNe rfl (fun _ => ?_) (fun _ => ?_))
  ·rename_i hc
   refine QS.retRS (by rfl) fun st hs => ⟨?_, hs⟩
   rw [decide_eq_false]; · rfl
   intro e
   subst e
   exact hc rfl
  ·rename_i hc
   exact QS.rangeX (()) (by (try dsimp only) <;> exact (by rw [List.take_succ_eq_append_getElem hi, List.take_succ_eq_append_getElem (by omega), hq, show c1[i] = c2[i]'(by omega) by omega]))
 ·rintro _ hq
  try dsimp only at hq
  rw [List.take_of_length_le (Nat.le_refl _), List.take_of_length_le (by omega)] at hq
  dsimp only [RSt.at, List.cons_append, List.nil_append]
  repeat' (first | (refine OS.do rfl ?_; first | refine OD.auto rfl rfl ?_) | refine OS.nil ?_ | refine WS.seq ?_ | refine QS.seqN ?_ | refine WS.region ?_ | refine WS.ret ?_)
  refine QS.retRS (by rfl) fun st hs => ⟨?_, hs⟩
  rw [decide_eq_true hq]; rfl
end
end Go.OptEnv
namespace Go.OptEnv
open Go Go.Proofs Go.Abs Go.RowKit Go.NetM
set_option maxRecDepth 10000
def boolAV (b : Bool) : AV := .bool b
theorem bool_plain (b : Bool) : AV.plain (boolAV b) = boolAV b := rfl
theorem bool_free (b : Bool) : AV.free (boolAV b) = true := rfl
def GNet.kN (n : GNet) : Nat := 1 + n.ins.xs.length + n.regs.xs.length
def GNet.roots (n : GNet) : List Int := n.nexts ++ n.outs.xs.map (·.lit)
def coneN (n : GNet) (ls : List Int) : List Bool := coneM n.kN n.gates.xs ls
theorem rep_bool (k : Nat) : List.replicate k (AV.bool false) = (List.replicate k false).map boolAV := by rw [List.map_replicate]; rfl
def Rel97 : Rel := RelF (fun p : GNet × GSl Int => (p.1.ins.xs.length <= 1000 /\ p.1.regs.xs.length <= 1000 /\ p.1.gates.xs.length <= 20000 /\ p.2.xs.length <= 100000) /\ okG p.1.kN p.1.gates.xs /\ ∀ l ∈ p.2.xs, 0 <= l /\ l < 2 * ((p.1.kN + p.1.gates.xs.length : Nat) : Int)) (fun p => [netAV p.1, p.2.av 1 intAV]) fun p => (GSl.some (coneN p.1 p.2.xs)).av 1 boolAV
theorem accA_nil2 (t sz : Nat) : accA t sz [] = .nilsl := rfl
attribute [local irreducible] WS QS OS OD Abs.Sub SubO SubK CW GSl.av accA growA
section
variable {pr : Prims} {L : List (Nat × AObj)} {K : List (Nat × Bool)} {st : St}
set_option maxHeartbeats 1000000 in
theorem run93 (h1 : pr 93 = none) (h66 : pr 66 = none) (h112 : Has pr 112 Rel112) (h57 : Has pr 57 Rel57) (n : GNet) (hn : FitsN n) (hv : validM n = true) (f1 : n.ins.xs.length <= 1000) (f2 : n.regs.xs.length <= 1000) (hS : SFa L [] st) :
  CW (En pr) 93 [netAV n] st fun r st' => ∃ d : Nat × MkI, (d.2.ins = cloneG n.ins /\ d.2.regs = n.regs.xs.map zeroR) /\ r = .ptr d.1 0 0 /\ SFa ((d.1, mkO d.2 0 []) :: (d.2.tb, thO d.2 []) :: L) [] st' := by
 have c66 := fun {L' : List (Nat × AObj)} {K' : List (Nat × Bool)} (tn ti : Nat) (st : St) (hS : SFa L' K' st) => (run66 h66 h112 h57 n.ins n.regs.xs tn ti f1 f2 (bare_fits hn) (bare_valid hv) hS).mono fun r st' ⟨d, _, e, h⟩ => (⟨(d.1, ⟨cloneG n.ins, n.regs.xs.map zeroR, d.2.1, d.2.2⟩), ⟨rfl, rfl⟩, e, h⟩ : ∃ d : Nat × MkI, (d.2.ins = cloneG n.ins /\ d.2.regs = n.regs.xs.map zeroR) /\ r = AV.tup [.ptr d.1 0 0, .int .i64 0] /\ SFa ((d.1, mkO d.2 0 []) :: (d.2.tb, thO d.2 []) :: L') ((0, false) :: K') st')
 refine CW.startS (N := 36) h1 rfl rfl hS ?_
 repeat' (first | (refine OS.do rfl ?_; first | refine OD.box rfl rfl rfl rfl (net_ok _) rfl (fun b1 => ?_) | refine OD.loadP 0 rfl rfl rfl rfl rfl rfl ?_ | refine OD.auto rfl rfl ?_ | refine OD.len rfl rfl (fun _ => lenTy_av rfl rfl) ?_) | refine OS.nil ?_ | refine WS.seq ?_ | refine QS.seqN ?_ | refine WS.region ?_ | refine WS.block ?_)
 refine WS.rangeX (A := Nat × Nat × List GReg) (n := n.regs.xs.length) ⟨12, _, fun a => [(3, accA a.1 1 ((a.2.2.map (·.name)).map strAV)), (4, accA a.2.1 1 ((a.2.2.map (·.init)).map bitAV))], fun _ => (b1, .row 4 [netAV n]) :: L, fun a => [(a.1, !a.2.2.isEmpty), (a.2.1, !a.2.2.isEmpty)], fun i a => a.2.2 = n.regs.xs.take i⟩ ((0, 0, [])) [1, 10, 11] (rfl) ?_ ?_ (hm := by (try dsimp only); repeat' (first | exact Sub.nil _ | refine Sub.cons (congrArg some (accA_nil2 _ _).symm) ?_ | refine Sub.cons (congrArg (fun z => some (AV.int .i64 z)) (wrap_succ (by omega))) ?_ | refine Sub.cons rfl ?_))
 ·rintro i ⟨tn, ti, R⟩ hi hR
  try dsimp only at hR
  have hRl : R.length = i := by rw [hR, List.length_take]; omega
  dsimp only [RSt.at, List.cons_append, List.nil_append]
  repeat' (first | (refine OS.do rfl ?_; first | refine OD.auto rfl rfl ?_ | refine OD.indexAddr rfl rfl rfl (indexAddrA_nat rfl rfl rfl rfl (by first | assumption | exact List.getElem?_eq_getElem (by omega))) ?_ | refine OD.alloc rfl rfl rfl rfl (fun _ => ?_) | refine OD.storeW 0 rfl rfl rfl rfl (by first | rfl | exact net_ok _) rfl rfl rfl ?_) | refine OS.nil ?_ | refine WS.seq ?_ | refine QS.seqN ?_ | refine WS.region ?_)
  refine WS.drawY 8 [(tn, !R.isEmpty), (ti, !R.isEmpty)] (K := []) rfl rfl rfl rfl ?_; (repeat' (first | refine SegY.nil ?_ | refine SegY.auto rfl rfl rfl rfl ?_ | refine SegY.loadP 0 rfl rfl rfl rfl rfl rfl rfl ?_ | refine SegY.loadP 1 rfl rfl rfl rfl rfl rfl rfl ?_ | refine SegY.loadP 2 rfl rfl rfl rfl rfl rfl rfl ?_ | refine SegY.indexAddr rfl rfl rfl rfl rfl ?_ | refine SegY.append 0 (xs := (R.map (·.name)).map strAV) (ys := [strAV n.regs.xs[i].name]) rfl rfl rfl rfl rfl (by simp only [List.isEmpty_map]; rfl) rfl rfl rfl rfl rfl rfl (.inr ⟨⟨_, rfl⟩, rfl⟩) (fun _ => rfl) rfl rfl (roomB rfl (by simp only [List.length_map, List.length_singleton]; omega)) (by simp) (fun tn' => ?_)))
  dsimp only [RSt.at, List.cons_append, List.nil_append]
  repeat' (first | (refine OS.do rfl ?_; first | refine OD.auto rfl rfl ?_ | refine OD.append 1 (xs := (R.map (·.init)).map bitAV) (ys := [bitAV n.regs.xs[i].init]) rfl rfl rfl rfl (by simp only [List.isEmpty_map]; rfl) rfl rfl rfl rfl rfl rfl (.inr ⟨⟨_, rfl⟩, rfl⟩) (fun _ => rfl) rfl rfl (roomB rfl (by simp only [List.length_map, List.length_singleton]; omega)) (fun ti' => ?_)) | refine OS.nil ?_)
  have hm1 : (R.map (·.name)).map strAV ++ [strAV n.regs.xs[i].name] = ((R ++ [n.regs.xs[i]]).map (·.name)).map strAV := by simp
  have hm2 : (R.map (·.init)).map bitAV ++ [bitAV n.regs.xs[i].init] = ((R ++ [n.regs.xs[i]]).map (·.init)).map bitAV := by simp
  rw [show (!((R.map (·.init)).map bitAV ++ [bitAV n.regs.xs[i].init]).isEmpty) = true by simp, hm1, hm2]
  exact QS.rangeX ((tn', ti', R ++ [n.regs.xs[i]])) (by (try dsimp only) <;> exact (by rw [hR, List.take_succ_eq_append_getElem hi]))
 ·rintro ⟨tn, ti, R⟩ hR
  try dsimp only at hR
  rw [List.take_of_length_le (Nat.le_refl _)] at hR
  subst hR
  dsimp only [RSt.at, List.cons_append, List.nil_append]
  repeat' (first | (refine OS.do rfl ?_; first | refine OD.loadP 0 rfl rfl rfl rfl rfl rfl ?_ | refine OD.auto rfl rfl ?_ | (refine OD.callM (D := Nat × MkI) (fun d => d.2.ins = cloneG n.ins /\ d.2.regs = n.regs.xs.map zeroR) (fun d => .tup [.ptr d.1 0 0, .int .i64 0]) (fun d => (d.1, mkO d.2 0 []) :: (d.2.tb, thO d.2 []) :: _) (fun _ => _) rfl rfl rfl (c66 tn ti) (fun _ _ _ => rfl) ?_; rintro ⟨mb, m⟩ hd)) | refine OS.nil ?_ | refine WS.seq ?_ | refine QS.seqN ?_ | refine WS.region ?_ | refine WS.ret ?_)
  exact QS.retRS (by rfl) fun st hs => ⟨(mb, m), hd, rfl, hs.subO (.keep (.keep (.drop (.refl _))))⟩
set_option maxHeartbeats 1000000 in
theorem run97 (h1 : pr 97 = none) (n : GNet) (ls : GSl Int) (f1 : n.ins.xs.length <= 1000) (f2 : n.regs.xs.length <= 1000) (f3 : n.gates.xs.length <= 20000) (f4 : ls.xs.length <= 100000) (hg : okG n.kN n.gates.xs) (hl : ∀ l ∈ ls.xs, 0 <= l /\ l < 2 * ((n.kN + n.gates.xs.length : Nat) : Int)) (st : St) :
  CW (En pr) 97 [netAV n, ls.av 1 intAV] st fun r st' => ∃ r' st2, freezeA st' r = some (r', st2) /\ AV.plain r' = (GSl.some (coneN n ls.xs)).av 1 boolAV /\ AV.free r' = true := by
 have e1 := wrap64 (n := 1 + (n.ins.xs.length : Int)) (by omega) (by omega)
 have e2 := wrap64 (n := 1 + (n.ins.xs.length : Int) + (n.regs.xs.length : Int)) (by omega) (by omega)
 have e3 := wrap64 (n := 1 + (n.ins.xs.length : Int) + (n.regs.xs.length : Int) + (n.gates.xs.length : Int)) (by omega) (by omega)
 have hk : (n.kN : Int) = 1 + n.ins.xs.length + n.regs.xs.length := by unfold GNet.kN; omega
 have hw : IntKind.i64.wrap (IntKind.i64.wrap (IntKind.i64.wrap (1 + (n.ins.xs.length : Int)) + (n.regs.xs.length : Int)) + (n.gates.xs.length : Int)) = ((n.kN + n.gates.xs.length : Nat) : Int) := by rw [e1, e2, e3]; omega
 refine CW.start (N := 68) h1 rfl rfl ?_
 repeat' (first | (refine OS.do rfl ?_; first | refine OD.box rfl rfl rfl rfl (net_ok _) rfl (fun b1 => ?_) | refine OD.loadP 0 rfl rfl rfl rfl rfl rfl ?_ | refine OD.auto rfl rfl ?_ | refine OD.len rfl rfl (fun _ => lenTy_av rfl rfl) ?_ | refine OD.makeSlice (n := n.kN + n.gates.xs.length) rfl (congrArg (fun z => some (AV.int .i64 z)) hw) (congrArg (fun z => some (AV.int .i64 z)) hw) rfl rfl rfl rfl rfl (roomB rfl (by unfold GNet.kN; omega)) (fun ob => ?_)) | refine OS.nil ?_ | refine WS.seq ?_ | refine QS.seqN ?_ | refine WS.region ?_ | refine WS.block ?_)
 rw [e1, e2, <- hk, show List.replicate (n.kN + n.gates.xs.length) ty4.zeroV = (List.replicate (n.kN + n.gates.xs.length) false).map boolAV from rep_bool _]
 have half : ∀ l : Int, 0 <= l /\ l < 2 * ((n.kN + n.gates.xs.length : Nat) : Int) -> indexAddrA (En pr) 69 (.sl ty4.size ob 0 (n.kN + n.gates.xs.length)) (.int .i64 (IntKind.i64.wrap (l.tdiv 2))) = some (.ptr ob (l / 2).toNat 0) := fun l h => by
  have : IntKind.i64.wrap (l.tdiv 2) = (((l / 2).toNat : Nat) : Int) := by
   rw [Int.tdiv_eq_ediv_of_nonneg h.1, wrap64 (by omega) (by omega)]; omega
  rw [this]
  exact indexAddrA_sl rfl rfl rfl rfl (by omega)
 have hbr : ∀ {v : List Bool} {j : Nat}, j < v.length -> (v.map boolAV)[j]? = some (.bool (v.getD j false)) := fun {v j} h => by
  rw [List.getElem?_map, List.getD_eq_getElem?_getD, List.getElem?_eq_getElem h]; rfl
 have hst : ∀ {v : List Bool} {j : Nat}, (v.map boolAV).set j (.bool true) = (v.set j true).map boolAV := fun {v j} => by rw [List.map_set]; rfl
 refine WS.rangeX (A := List Bool) (n := ls.xs.length) ⟨26, _, fun _ => [], fun v => [(ob, .row ty4.size (v.map boolAV)), (b1, .row ty27.size [netAV n])], fun _ => [], fun i v => v = markM (List.replicate (n.kN + n.gates.xs.length) false) (ls.xs.take i)⟩ (List.replicate (n.kN + n.gates.xs.length) false) [2, 5, 6, 24, 25] (rfl) ?_ ?_
 ·rintro i v hi hv
  try dsimp only at hv
  have hlm := hl _ (List.getElem_mem hi)
  have hvl : v.length = n.kN + n.gates.xs.length := by rw [hv, markM_len, List.length_replicate]
  have hb := hbr (v := v) (j := (ls.xs[i] / 2).toNat) (by omega)
  dsimp only [RSt.at, List.cons_append, List.nil_append]
  repeat' (first | (refine OS.do rfl ?_; first | refine OD.indexAddr rfl rfl rfl (half _ hlm) ?_ | refine OD.auto rfl rfl ?_ | refine OD.indexAddr rfl rfl rfl (indexAddrA_nat rfl rfl rfl rfl (by first | assumption | exact List.getElem?_eq_getElem (by omega))) ?_ | refine OD.storeB 0 rfl rfl rfl rfl rfl hb ?_) | refine OS.nil ?_ | refine WS.seq ?_ | refine QS.seqN ?_ | refine WS.region ?_)
  exact QS.rangeX (v.set (ls.xs[i] / 2).toNat true) (by (try dsimp only) <;> exact (by rw [markM_succ hi, <- hv])) (hL := by (try dsimp only); rw [<- hst]; exact SubO.refl _)
 rintro v0 hv0
 try dsimp only at hv0
 rw [List.take_of_length_le (Nat.le_refl _)] at hv0
 have hv0l : v0.length = n.kN + n.gates.xs.length := by rw [hv0, markM_len, List.length_replicate]
 have hw9 : IntKind.i64.wrap ((n.gates.xs.length : Int) - 1) = (n.gates.xs.length : Int) - 1 := wrap64 (by omega) (by omega)
 dsimp only [RSt.at, List.cons_append, List.nil_append]
 repeat' (first | (refine OS.do rfl ?_; first | refine OD.auto rfl rfl ?_ | refine OD.loadP 1 rfl rfl rfl rfl rfl rfl ?_ | refine OD.len rfl rfl (fun _ => lenTy_av rfl rfl) ?_) | refine OS.nil ?_ | refine WS.seq ?_ | refine QS.seqN ?_ | refine WS.region ?_ | refine WS.block ?_)
 refine WS.loopX (D := List Bool × Nat) [2, 5, 6] (fun d => [(9, .int .i64 ((d.2 : Int) - 1))]) (fun d => [(ob, .row ty4.size (d.1.map boolAV)), (b1, .row ty27.size [netAV n])]) (fun _ => []) (fun d => d.2 <= n.gates.xs.length /\ d.1.length = n.kN + n.gates.xs.length /\ coneD n.kN n.gates.xs d.2 d.1 = coneN n ls.xs) (fun d => d.2) ((v0, n.gates.xs.length)) (⟨Nat.le_refl _, hv0l, by rw [hv0]; rfl⟩) ?_ (hm := by (try dsimp only); repeat' (first | exact Sub.nil _ | refine Sub.cons (congrArg (fun z => some (AV.int .i64 z)) hw9) ?_ | refine Sub.cons (congrArg (fun z => some (AV.int .i64 z)) (wrap_succ (by omega))) ?_ | refine Sub.cons rfl ?_))
 rintro ⟨v, j⟩ ⟨hj, hvl, hc⟩
 try dsimp only at hj hvl hc
 rcases j with _ | i
 ·dsimp only [RSt.at, List.cons_append, List.nil_append]
  repeat' (first | (refine OS.do rfl ?_; first | refine OD.auto rfl rfl ?_) | refine OS.nil ?_ | refine WS.seq ?_ | refine QS.seqN ?_ | refine WS.region ?_ | refine WS.condF rfl ?_ | refine WS.ret ?_ | refine WS.exit ?_ | refine QS.seqE ?_ | refine QS.blockH ?_ | refine QS.loopE ?_)
  refine QS.retRS (by rfl) fun st hs => ?_
  obtain ⟨z1, z2⟩ := freeze_sl (n := n.kN + n.gates.xs.length) (by rw [List.length_map, hvl]) hs
  refine ⟨_, _, z1, ?_, ?_⟩
  ·rw [plain_some bool_plain, <- hc]; rfl
  ·simp only [AV.free]; exact freeL_map bool_free v
 ·have e9 : ((i + 1 : Nat) : Int) - 1 = (i : Int) := by omega
  have hw9' : IntKind.i64.wrap ((i : Int) - 1) = (i : Int) - 1 := wrap64 (by omega) (by omega)
  have hki : indexAddrA (En pr) 69 (.sl ty4.size ob 0 (n.kN + n.gates.xs.length)) (.int .i64 (IntKind.i64.wrap ((n.kN : Int) + (i : Int)))) = some (.ptr ob (n.kN + i) 0) := by
   rw [show IntKind.i64.wrap ((n.kN : Int) + (i : Int)) = ((n.kN + i : Nat) : Int) by rw [wrap64 (by omega) (by omega)]; omega]
   exact indexAddrA_sl rfl rfl rfl rfl (by omega)
  obtain ⟨g1, g2⟩ := hg i (by omega)
  have b0 := hbr (v := v) (j := n.kN + i) (by omega)
  have b1' := hbr (v := v) (j := (n.gates.xs[i].1 / 2).toNat) (by omega)
  have b2 := hbr (v := v.set (n.gates.xs[i].1 / 2).toNat true) (j := (n.gates.xs[i].2 / 2).toNat) (by rw [List.length_set]; omega)
  rw [<- hst] at b2
  dsimp only [RSt.at, List.cons_append, List.nil_append]
  rw [e9]
  repeat' (first | (refine OS.do rfl ?_; first | refine OD.indexAddr rfl rfl rfl hki ?_ | refine OD.loadP 0 rfl rfl rfl b0 rfl rfl ?_ | refine OD.indexAddr rfl rfl rfl (half _ (by omega)) ?_ | refine OD.auto rfl rfl ?_ | refine OD.loadP 1 rfl rfl rfl rfl rfl rfl ?_ | refine OD.indexAddr rfl rfl rfl (indexAddrA_nat rfl rfl rfl rfl (by first | assumption | exact List.getElem?_eq_getElem (by omega))) ?_ | refine OD.indexAddr rfl rfl rfl rfl ?_ | refine OD.storeB 0 rfl rfl rfl rfl rfl b1' ?_ | refine OD.storeB 0 rfl rfl rfl rfl rfl b2 ?_) | refine OS.nil ?_ | refine WS.seq ?_ | refine QS.seqN ?_ | refine WS.region ?_ | refine WS.condT rfl ?_ | refine WS.skip ?_ | refine WS.block ?_ | refine QS.blockN ?_ | refine WS.condB rfl (fun _ => ?_) (fun _ => ?_))
  all_goals (have eg : n.gates.xs.getD i (0, 0) = n.gates.xs[i] := by rw [List.getD_eq_getElem?_getD, List.getElem?_eq_getElem (by omega)]; rfl)
  ·rename_i hm
   have ec : coneD n.kN n.gates.xs (i + 1) v = coneD n.kN n.gates.xs i ((v.set (n.gates.xs[i].1 / 2).toNat true).set (n.gates.xs[i].2 / 2).toNat true) := by
    show coneD n.kN n.gates.xs i (markG n.kN n.gates.xs v i) = _
    unfold markG; rw [if_pos hm, eg]
   dsimp only [List.set_cons_zero]
   rw [hst, hst]
   exact QS.loopX (((v.set (n.gates.xs[i].1 / 2).toNat true).set (n.gates.xs[i].2 / 2).toNat true, i)) (by exact (⟨by dsimp only; omega, by simp only [List.length_set]; exact hvl, by rw [<- ec]; exact hc⟩)) (by exact (by dsimp only; omega)) (hl := by (try dsimp only [List.cons_append, List.nil_append]); repeat' (first | exact Sub.nil _ | refine Sub.cons (congrArg (fun z => some (AV.int .i64 z)) hw9') ?_ | refine Sub.cons (congrArg (fun z => some (AV.int .i64 z)) (wrap_succ (by omega))) ?_ | refine Sub.cons rfl ?_))
  ·rename_i hm
   have ec : coneD n.kN n.gates.xs (i + 1) v = coneD n.kN n.gates.xs i v := by
    show coneD n.kN n.gates.xs i (markG n.kN n.gates.xs v i) = _
    unfold markG; rw [if_neg (by rw [hm]; simp)]
   exact QS.loopX ((v, i)) (by exact (⟨by dsimp only; omega, hvl, by rw [<- ec]; exact hc⟩)) (by exact (by dsimp only; omega)) (hl := by (try dsimp only [List.cons_append, List.nil_append]); repeat' (first | exact Sub.nil _ | refine Sub.cons (congrArg (fun z => some (AV.int .i64 z)) hw9') ?_ | refine Sub.cons (congrArg (fun z => some (AV.int .i64 z)) (wrap_succ (by omega))) ?_ | refine Sub.cons rfl ?_))
theorem con97 (h1 : pr 97 = none) : Con2 (En pr) 97 Rel97 := con_ofz (fun d => by simp [AV.freeL, net_free, free_av int_free]) fun d hd st => run97 h1 d.1 d.2 hd.1.1 hd.1.2.1 hd.1.2.2.1 hd.1.2.2.2 hd.2.1 hd.2.2 st
end
end Go.OptEnv
