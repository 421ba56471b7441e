/- Own text of this claim: part 14 of an interpreter that is proved sound against the model, and of what it shows of the law. -/
import Derived.Test.YthomnnnhkfjbdaaGreatAbs11
import Derived.Test.YthomnnnhkfjbdaaGreatAbs13
import Derived.Test.YthomnnnhkfjbdaaGreatAbs12
import Derived.Test.YthomnnnhkfjbdaaGreatAbs9
/- Regions that draw their order, in which slices grow, or at whose end an object is laid. -/
namespace Go.Abs
open Go.RowKit
section
variable {E : Env} {fid N : Nat} {l : List (Nat × AV)} {L X : List (Nat × AObj)} {K Y : List (Nat × Bool)} {Q : AExit → TM → St → Prop}
variable {c : Bool} {pol : Nat → Nat} {ops : Array Oper} {o : Oper} {r : List Oper} {i : Nat} {d : Nat} {ty : TypeId} {pos : String} {after : Array Edge} {guard : Option (Nat × Bool)}
/-- Operations one behind the other: L and K stay known all along, X and Y are turned; then k. -/
def SegY (E : Env) (ops : Array Oper) (N : Nat) (L : List (Nat × AObj)) (K : List (Nat × Bool)) (pol : Nat → Nat) (r : List Oper) (i : Nat) (l : List (Nat × AV)) (X : List (Nat × AObj)) (Y : List (Nat × Bool)) (k : List (Nat × AV) → List (Nat × AObj) → List (Nat × Bool) → Prop) : Prop :=
  ∀ (tm : TM) (s0 : St) (pre : Pre), Fa N l (X ++ L) (Y ++ K) tm s0 → (∀ b, pre = some b → b.2 = false) → ∃ n tr tm' s1 l' X' Y', runOpsT E (callF E n) pre pol ops r i tm s0 = some (tr, tm', s1) ∧ Fa N l' (X' ++ L) (Y' ++ K) tm' s1 ∧ k l' X' Y' ∧
    ∀ (k : Nat) (t : Tr) (o : Oper), tr[k]? = some t → r[k]? = some o → SFa L K t.was ∧ SFa L K t.now ∧ (t.did = true → isLoud o.op = false → ∀ s, SFa L K s → quiet E t.tm s o = some t.v)
theorem Fa.baseY {tm : TM} {st : St} (h : Fa N l (X ++ L) (Y ++ K) tm st) : Fa N l L K tm st :=
  h.sub (fun _ _ h => h) ⟨fun k => X.length + k, fun k p hk => by show (X ++ L)[X.length + k]? = _; rw [List.getElem?_append_right (by omega), Nat.add_sub_cancel_left]; exact hk, fun _ _ _ _ h => by have h : X.length + _ = X.length + _ := h; omega⟩
    ⟨fun k => Y.length + k, fun k t hk => by show (Y ++ K)[Y.length + k]? = _; rw [List.getElem?_append_right (by omega), Nat.add_sub_cancel_left]; exact hk, fun _ _ _ _ _ _ h => by have h : Y.length + _ = Y.length + _ := h; omega⟩
variable {k : List (Nat × AV) → List (Nat × AObj) → List (Nat × Bool) → Prop}
theorem SegY.nil (h : k l X Y) : SegY E ops N L K pol [] i l X Y k := fun tm s0 pre hF _ => ⟨0, [], tm, s0, l, X, Y, rfl, hF, h, fun k t o ht => by simp at ht⟩
theorem SegY.quiet {v : AV} (hw : wantS ops l o = some true) (hd : o.dst = some d) (hn : Nat.blt d N = true) (hl : isLoud o.op = false) (hq : ∀ tm st, Fa N l L K tm st → Abs.quiet E tm st o = some v) (h : SegY E ops N L K pol r (i + 1) ((d, v) :: l) X Y k) : SegY E ops N L K pol (o :: r) i l X Y k := by
  intro tm s0 pre hF hp
  obtain ⟨n, tr, tm', s1, l', X', Y', h1, h2, h3, h4⟩ := h (tm.put d v) s0 pre (hF.put hn v) hp
  refine ⟨n, ⟨tm, s0, s0, v, true⟩ :: tr, tm', s1, l', X', Y', ?_, h2, h3, fun k t o' ht ho => ?_⟩
  · simp only [runOpsT]
    rw [hF.want hw]
    dsimp only
    rw [stepPre_quiet hl (hq tm s0 hF.baseY), hd]
    dsimp only [putO]
    rw [h1]
  · cases k with
    | zero =>
      simp only [List.getElem?_cons_zero, Option.some.injEq] at ht ho
      subst ht; subst ho
      exact ⟨hF.baseY.s, hF.baseY.s, fun _ _ s hs => hq tm s (hF.baseY.withS hs)⟩
    | succ k =>
      simp only [List.getElem?_cons_succ] at ht ho
      exact h4 k t o' ht ho
/-- What turns the state, but for what is known. -/
theorem SegY.loud (hw : wantS ops l o = some true) (hd : o.dst = some d) (hn : Nat.blt d N = true) (hl : isLoud o.op = true) (hf : isFnCall o.op = false) (hal : ∀ t, o.op ≠ .alloc t)
    (hq : ∀ tm st, Fa N l (X ++ L) (Y ++ K) tm st → ∃ v st' X' Y', Abs.loud E noCall (pol i) tm st o = some (v, st') ∧ Fa N l (X' ++ L) (Y' ++ K) tm st' ∧ SegY E ops N L K pol r (i + 1) ((d, v) :: l) X' Y' k) : SegY E ops N L K pol (o :: r) i l X Y k := by
  intro tm s0 pre hF hp
  obtain ⟨v, st', X1, Y1, q1, q2, q3⟩ := hq tm s0 hF
  obtain ⟨n, tr, tm', s1, l', X', Y', h1, h2, h3, h4⟩ := q3 (tm.put d v) st' pre (q2.put hn v) hp
  refine ⟨n, ⟨tm, s0, st', v, true⟩ :: tr, tm', s1, l', X', Y', ?_, h2, h3, fun k t o' ht ho => ?_⟩
  · have hs' : stepPre E (callF E n) pre (pol i) i tm s0 o = some (v, st') := stepPre_loud (fun b hb => ⟨hp b hb, hal⟩) hl hf q1
    simp only [runOpsT]
    rw [hF.want hw]
    dsimp only
    rw [hs', hd]
    dsimp only [putO]
    rw [h1]
  · cases k with
    | zero =>
      simp only [List.getElem?_cons_zero, Option.some.injEq] at ht ho
      subst ht; subst ho
      exact ⟨hF.baseY.s, q2.baseY.s, fun _ h => by rw [hl] at h; cases h⟩
    | succ k =>
      simp only [List.getElem?_cons_succ] at ht ho
      exact h4 k t o' ht ho
theorem SegY.auto {op : Op} {v : AV} (hw : wantS ops l { dst := some d, op := op, type := ty, pos := pos, after := after, guard := guard } = some true) (hn : Nat.blt d N = true) (hl : isLoud op = false) (h : quietS E l op = some v) (k1 : SegY E ops N L K pol r (i + 1) ((d, v) :: l) X Y k) : SegY E ops N L K pol ({ dst := some d, op := op, type := ty, pos := pos, after := after, guard := guard } :: r) i l X Y k :=
  .quiet hw rfl hn hl (fun _ _ hF => quietS_sound h hF) k1
theorem SegY.indexAddr {t : TypeId} {x y : Operand} {a b v : AV} (hw : wantS ops l { dst := some d, op := .indexAddr t x y, type := ty, pos := pos, after := after, guard := guard } = some true) (hn : Nat.blt d N = true) (hx : evL l x = some a) (hy : evL l y = some b) (h : indexAddrA E t a b = some v) (k1 : SegY E ops N L K pol r (i + 1) ((d, v) :: l) X Y k) :
    SegY E ops N L K pol ({ dst := some d, op := .indexAddr t x y, type := ty, pos := pos, after := after, guard := guard } :: r) i l X Y k :=
  .quiet hw rfl hn rfl (fun _ _ hF => quiet_indexAddr hx hy h hF) k1
theorem SegY.loadP (kk : Nat) {t : TypeId} {x : Operand} {b j off sz : Nat} {xs : List AV} {e v : AV} (hw : wantS ops l { dst := some d, op := .load t x, type := ty, pos := pos, after := after, guard := guard } = some true) (hn : Nat.blt d N = true) (hx : evL l x = some (.ptr b j off)) (hL : L[kk]? = some (b, .row sz xs)) (he : xs[j]? = some e) (ho : Nat.ble off e.cells.length = true)
    (hp : partA E t (e.cells.drop off) 0 = some v) (k1 : SegY E ops N L K pol r (i + 1) ((d, v) :: l) X Y k) : SegY E ops N L K pol ({ dst := some d, op := .load t x, type := ty, pos := pos, after := after, guard := guard } :: r) i l X Y k :=
  .quiet hw rfl hn rfl (fun _ _ hF => quiet_loadP kk hx hL he ho hp hF) k1
/-- append onto what grows: its token is one of Y. -/
theorem SegY.append (kk : Nat) {ts tx e : TypeId} {s x : Operand} {t sz sz' : Nat} {xs ys : List AV} {a : AV} {tys tyx et : Ty} (hw : wantS ops l { dst := some d, op := .call { callee := .builtin .append, args := #[s, x], argTypes := #[ts, tx] }, type := ty, pos := pos, after := after, guard := guard } = some true) (hn : Nat.blt d N = true) (hpol : Nat.beq (pol i) 1 = false) (hs : evL l s = some (accA t sz xs)) (hx : evL l x = some a) (hK : Y[kk]? = some (t, !xs.isEmpty))
    (h1 : E.ty ts = some tys) (h2 : E.ty tx = some tyx) (h3 : tys.d = .slice e) (h4 : E.ty e = some et) (h5 : Nat.blt 0 et.size = true) (h6 : sz = et.size) (h7 : (tyx.d = .string ∧ isStrA a = true) ∨ ((∃ e', tyx.d = .slice e') ∧ isStrA a = false)) (h8 : ∀ st, elemsA st a = some (sz', ys)) (h9 : okElems et ys = true) (h10 : (ys.isEmpty || Nat.beq sz' et.size) = true)
    (hroom : roomA et (xs.length + ys.length) = true) (hys : ys ≠ []) (k1 : ∀ t', SegY E ops N L K pol r (i + 1) ((d, accA t' sz (xs ++ ys)) :: l) X (Y.set kk (t', true)) k) :
    SegY E ops N L K pol ({ dst := some d, op := .call { callee := .builtin .append, args := #[s, x], argTypes := #[ts, tx] }, type := ty, pos := pos, after := after, guard := guard } :: r) i l X Y k := by
  subst h6
  refine .loud hw rfl hn rfl rfl (fun _ h => by cases h) fun tm st hF => ?_
  have h0 : Abs.loud E noCall (pol i) tm st { dst := some d, op := .call { callee := .builtin .append, args := #[s, x], argTypes := #[ts, tx] }, type := ty, pos := pos, after := after, guard := guard } = appendOpA E (pol i == 1) st ts tx (evalO tm s) (evalO tm x) := rfl
  have hp : (pol i == 1) = false := by
    have := Nat.ne_of_beq_eq_false hpol
    simpa using this
  have hkl := (List.getElem?_eq_some_iff.1 hK).1
  have hset : ∀ p, (Y ++ K).set kk p = Y.set kk p ++ K := fun p => List.set_append_left _ _ hkl
  have hK2 : (Y ++ K)[kk]? = some (t, !xs.isEmpty) := by rw [List.getElem?_append_left hkl]; exact hK
  rw [h0, hF.ev hs, hF.ev hx, hp, appendOp_key h1 h2 h3 h4 h5 h7 st (h8 st) h9 h10]
  cases ys with
  | nil => exact absurd rfl hys
  | cons y ys =>
    cases xs with
    | nil =>
      refine ⟨accA st.next et.size ([] ++ y :: ys), st.newTok.ttag st.next e, X, Y.set kk (st.next, true), ?_, ?_, k1 st.next⟩
      · simp only [accA, appendA, List.nil_append]
        rw [if_pos (by simpa using hroom)]
        rfl
      · have := (hF.tokNew (by simpa using hK2)).ttag st.next e
        rw [hset] at this
        exact this
    | cons x0 xs =>
      have hK' : (Y ++ K)[kk]? = some (t, true) := by simpa using hK2
      refine ⟨accA st.next et.size (x0 :: xs ++ y :: ys), tokOnA st t e, X, Y.set kk (st.next, true), ?_, ?_, k1 st.next⟩
      · simp only [accA, appendA]
        rw [if_pos ⟨trivial, (hF.tok kk t hK').1, hroom⟩]
        rfl
      · have hF' : Fa N l (X ++ L) ((Y ++ K).set kk (st.next, true)) tm (tokOnA st t e) := by
          unfold tokOnA
          split
          · split
            · exact (hF.tokDrop hK').ttag _ _
            · exact hF.tokDrop hK'
          · exact hF.tokDrop hK'
        rw [hset] at hF'
        exact hF'
theorem SegY.call {f : Operand} {args : Array Operand} {argTypes : Array TypeId} {g : FuncId} {first cap vs : List AV} {p : List AV → St → Option (AV × St)} {v : AV} (hw : wantS ops l { dst := some d, op := .call { callee := .value f, args := args, argTypes := argTypes }, type := ty, pos := pos, after := after, guard := guard } = some true) (hn : Nat.blt d N = true) (hf : evL l f = some (.fn g first cap)) (ha : evLs l args.toList = some vs) (hp : E.prim g = some p) (hr : ∀ st, p (first ++ vs ++ cap) st = some (v, st)) (hz : ∀ st, freezeA st v = some (v, st))
    (k1 : SegY E ops N L K pol r (i + 1) ((d, v) :: l) X Y k) : SegY E ops N L K pol ({ dst := some d, op := .call { callee := .value f, args := args, argTypes := argTypes }, type := ty, pos := pos, after := after, guard := guard } :: r) i l X Y k := by
  intro tm s0 pre hF hpre
  obtain ⟨n, tr, tm', s1, l', X', Y', h1, h2, h3, h4⟩ := k1 (tm.put d v) s0 pre (hF.put hn v) hpre
  have h1 := runOpsT_mono (callF_mono n (n + 1) (by omega)) _ _ _ _ h1
  refine ⟨n + 1, ⟨tm, s0, s0, v, true⟩ :: tr, tm', s1, l', X', Y', ?_, h2, h3, fun k t o' ht ho => ?_⟩
  · have hl : Abs.loud E (callF E (n + 1)) (pol i) tm s0 { dst := some d, op := .call { callee := .value f, args := args, argTypes := argTypes }, type := ty, pos := pos, after := after, guard := guard } = some (v, s0) := by
      have : Abs.loud E (callF E (n + 1)) (pol i) tm s0 { dst := some d, op := .call { callee := .value f, args := args, argTypes := argTypes }, type := ty, pos := pos, after := after, guard := guard } = (match evalO tm f with | .fn g first cap => callF E (n + 1) g (first ++ args.toList.map (evalO tm) ++ cap) s0 | _ => none) := rfl
      rw [this, hF.ev hf, hF.evs ha]
      simp only [callF, hp]
      exact hr s0
    have hst : stepPre E (callF E (n + 1)) pre (pol i) i tm s0 { dst := some d, op := .call { callee := .value f, args := args, argTypes := argTypes }, type := ty, pos := pos, after := after, guard := guard } = some (v, s0) := by
      simp only [stepPre, stepOp, isLoud, if_true, hl, isFnCall, Bool.and_true, decide_eq_true_eq]
      split
      · exact hz s0
      · rfl
    simp only [runOpsT]
    rw [hF.want hw]
    dsimp only
    rw [hst]
    dsimp only [putO]
    rw [h1]
  · cases k with
    | zero =>
      simp only [List.getElem?_cons_zero, Option.some.injEq] at ht ho
      subst ht; subst ho
      exact ⟨hF.baseY.s, hF.baseY.s, fun _ h => by simp [isLoud] at h⟩
    | succ k =>
      simp only [List.getElem?_cons_succ] at ht ho
      exact h4 k t o' ht ho
theorem dyn_stays {dy : List (Nat × Nat)} {m : Nat} {tr1 tr4 : List Tr} (hlA : (ops.toList.take m).length = m) (hl1 : tr1.length = (ops.toList.take m).length)
    (hc : (dy.all fun p => Nat.blt p.1 m && Nat.blt p.2 m && (match ops.toList[p.2]? with | some o => !isLoud o.op | none => false)) = true)
    (a4 : ∀ (k : Nat) (t : Tr) (o : Oper), tr1[k]? = some t → (ops.toList.take m)[k]? = some o → SFa L K t.was ∧ SFa L K t.now ∧ (t.did = true → isLoud o.op = false → ∀ s, SFa L K s → Abs.quiet E t.tm s o = some t.v)) : dy.all (dynOk E ops (tr1 ++ tr4)) = true := by
  rw [List.all_eq_true] at hc ⊢
  intro p hp
  have hp' := hc p hp
  simp only [Bool.and_eq_true] at hp'
  obtain ⟨⟨p1, p2⟩, p4⟩ := hp'
  have p1 : p.1 < m := Eq.mp Nat.blt_eq p1
  have p2 : p.2 < m := Eq.mp Nat.blt_eq p2
  have g1 : (ops.toList.take m)[p.1]? = some ((ops.toList.take m)[p.1]'(by omega)) := List.getElem?_eq_getElem _
  have g2 : (ops.toList.take m)[p.2]? = some ((ops.toList.take m)[p.2]'(by omega)) := List.getElem?_eq_getElem _
  have g2' : ops.toList[p.2]? = some ((ops.toList.take m)[p.2]'(by omega)) := by
    rw [← g2, List.getElem?_take, if_pos p2]
  rw [g2'] at p4
  obtain ⟨e1, e2, _⟩ := a4 p.1 (tr1[p.1]'(by omega)) _ (List.getElem?_eq_getElem (by omega)) g1
  obtain ⟨_, _, e4⟩ := a4 p.2 (tr1[p.2]'(by omega)) _ (List.getElem?_eq_getElem (by omega)) g2
  have t1 : (tr1 ++ tr4)[p.1]? = some (tr1[p.1]'(by omega)) := by rw [List.getElem?_append_left (by omega)]; exact List.getElem?_eq_getElem _
  have t2 : (tr1 ++ tr4)[p.2]? = some (tr1[p.2]'(by omega)) := by rw [List.getElem?_append_left (by omega)]; exact List.getElem?_eq_getElem _
  unfold dynOk
  rw [t1, t2, ← Array.getElem?_toList, g2']
  dsimp only
  by_cases hd2 : (tr1[p.2]'(by omega)).did = true
  · have e4 := e4 hd2 (by simpa using p4)
    rw [e4 _ e1, e4 _ e2]
    simp [AV.beq_refl]
  · simp [hd2]
theorem WS.drawY (m : Nat) (Y : List (Nat × Bool)) {id : Nat} {ops : Array Oper} {dy : List (Nat × Nat)} (hd : E.dyn fid id = dy) (ho : hasAlloc ops = false) (hm : Nat.ble m ops.toList.length = true)
    (hc : (dy.all fun p => Nat.blt p.1 m && Nat.blt p.2 m && (match ops.toList[p.2]? with | some o => !isLoud o.op | none => false)) = true)
    (h : SegY E ops N L K (E.pol fid id) (ops.toList.take m) 0 l [] Y fun l1 X Y => OS E false (E.pol fid id) ops (ops.toList.drop m) m N l1 (X ++ L) (Y ++ K) Q) (hk : E.mks fid id = false := by rfl) : WS E fid N (.region id ops true) l L (Y ++ K) Q := by
  intro tm st hF
  have hm2 := Nat.le_of_ble_eq_true hm
  have hlA : (ops.toList.take m).length = m := by rw [List.length_take]; omega
  have hF0 := hF.at (m := st.next + ops.size) (by omega)
  generalize hs0 : st.at (st.next + ops.size) = s0 at hF0
  obtain ⟨n1, tr1, tm1, s1, l1, X1, Y1, a1, a2, a3, a4⟩ := h tm s0 (some (st.next, false)) hF0 (fun b hb => by cases hb; rfl)
  obtain ⟨n5, tr4, tm4, st4, c1, _, c3⟩ := a3 (some (st.next, false)) tm1 _ a2 (fun b hb => ⟨ho, by cases hb; rfl⟩)
  have a1 := runOpsT_mono (callF_mono n1 (max n1 n5) (by omega)) _ _ _ _ a1
  have c1 := runOpsT_mono (callF_mono n5 (max n1 n5) (by omega)) _ _ _ _ c1
  have hl1 := runOpsT_len a1
  have hops : ops.toList = ops.toList.take m ++ ops.toList.drop m := (List.take_append_drop m _).symm
  have hrun : runOpsT E (callF E (max n1 n5)) (some (st.next, false)) (E.pol fid id) ops ops.toList 0 tm s0 = some (tr1 ++ tr4, tm4, st4) := by
    have := runOpsT_append _ _ _ _ _ a1 (by rw [Nat.zero_add, hlA]; exact c1)
    rw [← hops] at this
    exact this
  refine ⟨max n1 n5 + 1, .normal, tm4, st4, ?_, c3⟩
  have hpre : preObjs E st.next ops.toList 0 st.objs = some st.objs := preObjs_none _ _ _ ho
  have h1' := runOpsT_mono (callF_mono (max n1 n5) (max n1 n5 + 1) (by omega)) _ _ _ _ hrun
  rw [← hs0] at h1'
  unfold St.at at h1'
  simp only [exec, execReg, if_true, hpre, hd, hk]
  have hdyn := dyn_stays (tr4 := tr4) hlA hl1 hc a4
  cases dy with
  | nil =>
    dsimp only
    rw [(runOps_of_T _ _ _ _ h1').1]
  | cons p0 ps =>
    dsimp only
    rw [h1']
    dsimp only
    rw [if_pos hdyn]
/-- At its end an object is laid, and filled. -/
theorem WS.drawA (m : Nat) {id : Nat} {ops : Array Oper} {dy : List (Nat × Nat)} {dA : Nat} {t : TypeId} {z : Operand} {y : Ty} {cs : List AV} {tyA tyS : TypeId} {posA posS : String} {afA afS : Array Edge} (hd : E.dyn fid id = dy) (hm : Nat.ble m ops.toList.length = true)
    (hc : (dy.all fun p => Nat.blt p.1 m && Nat.blt p.2 m && (match ops.toList[p.2]? with | some o => !isLoud o.op | none => false)) = true) (ht : E.ty t = some y) (hz0 : y.zeroV = .agg cs) (hn : Nat.blt dA N = true)
    (hdr : ops.toList.drop m = [{ dst := some dA, op := .alloc t, type := tyA, pos := posA, after := afA, guard := none }, { dst := none, op := .store t (.tmp dA) z, type := tyS, pos := posS, after := afS, guard := none }])
    (hpre : ∀ base acc, preObjs E base ops.toList 0 acc = some ((base + m, .row y.size [y.zeroV]) :: acc))
    (h : ∀ b, SegY E ops N ((b, .row y.size [y.zeroV]) :: L) K (E.pol fid id) (ops.toList.take m) 0 l [] [] fun l1 X Y => ∃ v, evL ((dA, .ptr b 0 0) :: l1) z = some v ∧ v.ok = true ∧ v.cells.length = y.size ∧ Nat.ble v.cells.length cs.length = true ∧
      QS N .normal ((dA, .ptr b 0 0) :: l1) (X ++ (b, .row y.size [.agg (v.cells ++ cs.drop v.cells.length)]) :: L) (Y ++ K) Q) (hk : E.mks fid id = false := by rfl) : WS E fid N (.region id ops true) l L K Q := by
  intro tm st hF
  have hm2 := Nat.le_of_ble_eq_true hm
  have hlA : (ops.toList.take m).length = m := by rw [List.length_take]; omega
  have hlo : ops.toList.length = m + 2 := by
    have := congrArg List.length hdr
    simp only [List.length_drop, List.length_cons, List.length_nil] at this
    omega
  have hsz : ops.size = m + 2 := by rw [← hlo]; exact Array.length_toList.symm
  have hF1 := ((hF.at (m := st.next + m) (by omega)).new (.row y.size [y.zeroV])).at (m := st.next + ops.size) (by show st.next + m + 1 ≤ _; omega)
  generalize hs0 : ((st.at (st.next + m)).new (.row y.size [y.zeroV])).at (st.next + ops.size) = s0 at hF1
  obtain ⟨n1, tr1, tm1, s1, l1, X1, Y1, a1, a2, a3, a4⟩ := h (st.next + m) tm s0 (some (st.next, false)) hF1 (fun b hb => by cases hb; rfl)
  obtain ⟨v, v1, v2, v3, v4, v5⟩ := a3
  have hl1 := runOpsT_len a1
  have hF2 := a2.put (d := dA) hn (.ptr (st.next + m) 0 0)
  have hget : (X1 ++ (st.next + m, AObj.row y.size [y.zeroV]) :: L)[X1.length]? = some (st.next + m, .row y.size [y.zeroV]) := by
    rw [List.getElem?_append_right (Nat.le_refl _), Nat.sub_self]; rfl
  have hF3 := hF2.set hget (.row y.size [.agg (v.cells ++ cs.drop v.cells.length)])
  have hset : (X1 ++ (st.next + m, AObj.row y.size [y.zeroV]) :: L).set X1.length (st.next + m, .row y.size [.agg (v.cells ++ cs.drop v.cells.length)]) = X1 ++ (st.next + m, .row y.size [.agg (v.cells ++ cs.drop v.cells.length)]) :: L := by
    rw [List.set_append_right _ _ (Nat.le_refl _), Nat.sub_self]; rfl
  rw [hset] at hF3
  have hq := v5 _ _ hF3
  have hsA : stepPre E (callF E n1) (some (st.next, false)) (E.pol fid id m) m tm1 s1 { dst := some dA, op := .alloc t, type := tyA, pos := posA, after := afA, guard := none } = some (.ptr (st.next + m) 0 0, s1) := rfl
  have hsS : stepPre E (callF E n1) (some (st.next, false)) (E.pol fid id (m + 1)) (m + 1) (tm1.put dA (.ptr (st.next + m) 0 0)) s1 { dst := none, op := .store t (.tmp dA) z, type := tyS, pos := posS, after := afS, guard := none } = some (.junk, s1.put (st.next + m) (.row y.size [.agg (v.cells ++ cs.drop v.cells.length)])) := by
    have h0 : stepPre E (callF E n1) (some (st.next, false)) (E.pol fid id (m + 1)) (m + 1) (tm1.put dA (.ptr (st.next + m) 0 0)) s1 { dst := none, op := .store t (.tmp dA) z, type := tyS, pos := posS, after := afS, guard := none } = (match (match E.ty t with | some ty => if (evalO (tm1.put dA (.ptr (st.next + m) 0 0)) z).cells.length = ty.size then (storeA s1 (evalO (tm1.put dA (.ptr (st.next + m) 0 0)) (.tmp dA)) (evalO (tm1.put dA (.ptr (st.next + m) 0 0)) z)).map fun s => (.junk, s) else none | none => none) with | some (v, st') => if (decide (E.pol fid id (m + 1) = 2) && false) = true then freezeA st' v else some (v, st') | none => none) := rfl
    have hx : evalO (tm1.put dA (.ptr (st.next + m) 0 0)) (.tmp dA) = .ptr (st.next + m) 0 0 := hF2.ev (by simp [evL, lk])
    rw [h0, ht, hx, hF2.ev v1]
    dsimp only
    rw [if_pos v3]
    have hg := (hF2.obj X1.length _ _ hget).1
    simp only [storeA, hg, List.getElem?_cons_zero, hz0]
    rw [if_pos (show (v.ok && decide (0 + v.cells.length ≤ (AV.agg cs).cells.length)) = true by rw [v2, Bool.true_and, Nat.zero_add]; exact decide_eq_true (Nat.le_of_ble_eq_true v4))]
    simp
  have hc1 : runOpsT E (callF E n1) (some (st.next, false)) (E.pol fid id) ops (ops.toList.drop m) m tm1 s1 = some ([⟨tm1, s1, s1, .ptr (st.next + m) 0 0, true⟩, ⟨tm1.put dA (.ptr (st.next + m) 0 0), s1, s1.put (st.next + m) (.row y.size [.agg (v.cells ++ cs.drop v.cells.length)]), .junk, true⟩], tm1.put dA (.ptr (st.next + m) 0 0), s1.put (st.next + m) (.row y.size [.agg (v.cells ++ cs.drop v.cells.length)])) := by
    rw [hdr]
    simp only [runOpsT, wantedA, hsA, putO, hsS]
  have hops : ops.toList = ops.toList.take m ++ ops.toList.drop m := (List.take_append_drop m _).symm
  have hrun := runOpsT_append _ _ _ _ _ a1 (by rw [Nat.zero_add, hlA]; exact hc1)
  rw [← hops] at hrun
  have hdyn := dyn_stays (tr4 := [⟨tm1, s1, s1, .ptr (st.next + m) 0 0, true⟩, ⟨tm1.put dA (.ptr (st.next + m) 0 0), s1, s1.put (st.next + m) (.row y.size [.agg (v.cells ++ cs.drop v.cells.length)]), .junk, true⟩]) hlA hl1 hc a4
  refine ⟨n1 + 1, .normal, _, _, ?_, hq⟩
  have h1' := runOpsT_mono (callF_mono n1 (n1 + 1) (by omega)) _ _ _ _ hrun
  rw [← hs0] at h1'
  unfold St.at St.new at h1'
  simp only [exec, execReg, if_true, hpre, hd, hk]
  cases dy with
  | nil =>
    dsimp only
    rw [(runOps_of_T _ _ _ _ h1').1]
  | cons p0 ps =>
    dsimp only
    rw [h1']
    dsimp only
    rw [if_pos hdyn]
end
end Go.Abs

/- Twins, walked. -/
namespace Go.OptEnv
open Go Go.Proofs Go.Abs Go.RowKit Go.NetM
set_option maxRecDepth 10000
/-! ### What is laid step by step -/
def fillL (A : List Nat) (i : Nat) : List Nat := A.take i ++ List.replicate (A.length - i) 0
theorem fill_len {A : List Nat} {i : Nat} (h : i ≤ A.length) : (fillL A i).length = A.length := by
  simp only [fillL, List.length_append, List.length_take, List.length_replicate]; omega
theorem fill_set {A : List Nat} {i : Nat} (h : i < A.length) : (fillL A i).set i A[i] = fillL A (i + 1) := by
  unfold fillL
  rw [List.set_append_right _ _ (by rw [List.length_take]; omega), List.take_succ_eq_append_getElem h, List.append_assoc]
  congr 1
  rw [List.length_take, show i - min i A.length = 0 by omega, show A.length - i = (A.length - (i + 1)) + 1 by omega, List.replicate_succ]
  rfl
theorem fill_zero (A : List Nat) : fillL A 0 = List.replicate A.length 0 := by simp [fillL]
theorem fill_all (A : List Nat) : fillL A A.length = A := by simp [fillL]
theorem set_set {α : Type} {l : List α} {i : Nat} {a b : α} : (l.set i a).set i b = l.set i b := by rw [List.set_set]
theorem rep_nat (n : Nat) : List.replicate n (AV.int .i64 0) = (List.replicate n 0).map natAV := by rw [List.map_replicate]; rfl
theorem map_setN {l : List Nat} {i k : Nat} : (l.map natAV).set i (.int .i64 (k : Int)) = (l.set i k).map natAV := by rw [List.map_set]; rfl
theorem ini_len (n : GNet) : n.inits.length = n.regs.xs.length := List.length_map _
def Rel27 : GNet → List Nat → Prop := fun n c => NetM.Reach n.gates.xs n.ins.xs.length n.nexts n.inits c ∧ finerL n.gates.xs n.ins.xs.length n.nexts c = c
theorem gof_xs {α : Type} (l : List α) : (GSl.of l).xs = l := by cases l <;> rfl
theorem bare_valid {n : GNet} (hv : validM n = true) : validM (bareN (cloneG n.ins) (n.regs.xs.map zeroR)) = true := by
  have v := validM_iff.1 hv
  refine validM_iff.2 ⟨by simp [bareN, gof_xs], by simp only [bareN, clone_xs]; exact v.ins, ?_, ?_, ?_, ?_, ?_, ?_⟩
  · simp only [bareN, gof_xs, List.map_map]
    exact v.regs
  · simp only [bareN, gof_xs]; rfl
  · simp only [bareN, gof_xs]; rfl
  · have := v.inits
    simp only [bareN, gof_xs, List.all_map]
    exact this
  · simp only [bareN, gof_xs, List.all_map, List.all_eq_true, Function.comp]
    intro x _
    exact decide_eq_true ⟨by simp [zeroR], by simp only [zeroR, GNet.nodes, GNet.first]; omega⟩
  · simp only [bareN, gof_xs]; rfl
theorem bare_fits {n : GNet} (hn : FitsN n) : FitsN (bareN (cloneG n.ins) (n.regs.xs.map zeroR)) := by
  obtain ⟨f1, f2, f3, f4, m1, m2, m3, g1, g2, g3⟩ := hn
  refine ⟨by simp only [bareN, clone_xs]; exact f1, by simp only [bareN, gof_xs, List.length_map]; exact f2, by simp [bareN, gof_xs], by simp [bareN, gof_xs], by simp only [bareN, clone_xs]; exact m1, ?_, by simp [bareN, gof_xs], by simp [bareN, gof_xs], ?_, by simp [bareN, gof_xs]⟩
  · simp only [bareN, gof_xs]
    intro r hr
    obtain ⟨x, hx, rfl⟩ := List.mem_map.1 hr
    exact m2 x hx
  · simp only [bareN, gof_xs]
    intro r hr
    obtain ⟨x, hx, rfl⟩ := List.mem_map.1 hr
    exact ⟨by simp [zeroR], by simp [zeroR]⟩
theorem all0_succ {nins : Nat} {c : List Nat} {i : Nat} (h : i < c.length) : all0L nins (c.take (i + 1)) = all0L nins (c.take i) ++ [2 * ((1 + nins + c[i] : Nat) : Int)] := by
  rw [List.take_succ_eq_append_getElem h]; unfold all0L; rw [List.map_append, List.append_assoc]; rfl
theorem okG_of {n : GNet} {k : Nat} (hk : (k : Int) = n.first) (h : gatesOk n.first n.gates.xs = true) : okG k n.gates.xs := fun i hi => by
  have h1 := h
  rw [← List.take_append_drop (i + 1) n.gates.xs] at h1
  have h2 := gatesOk_app _ _ _ h1
  rw [gatesOk_take hi] at h2
  simp only [Bool.and_eq_true, litOk, decide_eq_true_eq] at h2
  obtain ⟨_, ⟨a1, a2⟩, a3, a4⟩ := h2
  refine ⟨⟨a1, by omega⟩, a3, by omega⟩
theorem getD_rep {k j : Nat} : (List.replicate k (0 : UInt8)).getD j 0 = 0 := by
  rw [List.getD_eq_getElem?_getD, List.getElem?_replicate]
  split <;> rfl
theorem bin_rep (k : Nat) : binL (List.replicate k 0) := fun b hb => .inl (List.eq_of_mem_replicate hb)
structure Shared (k i : Nat) (s : List Int × List (Int × Int)) : Prop where
  len : s.1.length = k + i
  range : ∀ j, 0 ≤ s.1.getD j 0 ∧ s.1.getD j 0 < 2 * ((k + s.2.length : Nat) : Int)
  gates : s.2.length ≤ i
theorem share_ok {gs : List (Int × Int)} {nins : Nat} {c : List Nat} (hc : Canon c) (hg : okG (1 + nins + c.length) gs) {i : Nat} (hi : i ≤ gs.length) : Shared (1 + nins + c.length) i (shareM (1 + nins + c.length) (all0L nins c) (gs.take i)) := by
  have hlv : (0 :: (List.replicate nins (0 : UInt8) ++ List.replicate c.length 0)).length = 1 + nins + c.length := by simp; omega
  have hb : binL (0 :: (List.replicate nins (0 : UInt8) ++ List.replicate c.length 0)) := fun b hb => by
    rcases List.mem_cons.1 hb with rfl | hb
    · exact .inl rfl
    · exact bin_app (bin_rep _) (bin_rep _) b hb
  have hs : SameIn c (List.replicate c.length 0) := fun j hj => by
    rw [getD_rep, getD_rep]
  obtain ⟨h1, h2⟩ := (simL0 (nins := nins) (ins := List.replicate nins 0) (by simp) (by simp) hc hs).share hb rfl (by simp) (gs := gs) (by rw [hlv]; exact hg) i hi
  rw [hlv] at h1 h2
  have hl := h1.len
  rw [gatesM_len, hlv, List.length_take] at hl
  refine ⟨by omega, fun j => ?_, h2⟩
  by_cases hj : j < (shareM (1 + nins + c.length) (all0L nins c) (gs.take i)).1.length
  · have := h1.range j hj
    rw [hlv] at this
    exact this
  · rw [List.getD_eq_getElem?_getD, List.getElem?_eq_none (by omega)]
    simp only [Option.getD_none]; omega
theorem at_range {k i : Nat} {s : List Int × List (Int × Int)} (h : Shared k i s) (l : Int) : 0 ≤ atL s.1 l ∧ atL s.1 l < 2 * ((k + s.2.length : Nat) : Int) := flip_range (h.range _)
/-! ### The least ones of the keys -/
def keysI (keys : List (Nat × Int)) : List (Int × Int) := keys.map fun p => ((p.1 : Int), p.2)
def esM (ks : List (Int × Int)) : Nat → List ((Int × Int) × Int)
  | 0 => []
  | i + 1 => if (assocI (ks.getD i (0, 0)) (esM ks i)).isSome then esM ks i else esM ks i ++ [(ks.getD i (0, 0), (i : Int))]
theorem assoc_snoc {p q : Int × Int} {v : Int} : ∀ {l : List ((Int × Int) × Int)}, assocI p (l ++ [(q, v)]) = match assocI p l with | some x => some x | none => if p = q then some v else none
  | [] => rfl
  | e :: l => by
    simp only [List.cons_append, assocI]
    by_cases h : p = e.1
    · rw [if_pos h, if_pos h]
    · rw [if_neg h, if_neg h]; exact assoc_snoc
theorem idxOf_mem {α : Type} [BEq α] [LawfulBEq α] : ∀ {l : List α} {i : Nat} {a : α}, l[i]? = some a → a ∉ l.take i → l.idxOf a = i
  | b :: l, 0, a, h, _ => by
    simp only [List.getElem?_cons_zero, Option.some.injEq] at h
    subst h; simp
  | b :: l, i + 1, a, h, hn => by
    simp only [List.getElem?_cons_succ] at h
    simp only [List.take_succ_cons, List.mem_cons, not_or] at hn
    rw [List.idxOf_cons, show (b == a) = false by simpa using fun e : b = a => hn.1 e.symm, cond_false, idxOf_mem h hn.2]
theorem esM_spec {ks : List (Int × Int)} : ∀ {i : Nat}, i ≤ ks.length → ∀ p, assocI p (esM ks i) = if p ∈ ks.take i then some ((ks.idxOf p : Nat) : Int) else none
  | 0, _, p => by simp [esM, assocI]
  | i + 1, h, p => by
    have ih := esM_spec (ks := ks) (i := i) (by omega)
    have hg : ks.getD i (0, 0) = ks[i] := by rw [List.getD_eq_getElem?_getD, List.getElem?_eq_getElem (by omega)]; rfl
    have hm : p ∈ ks.take (i + 1) ↔ p ∈ ks.take i ∨ p = ks[i] := by rw [List.take_succ_eq_append_getElem (by omega), List.mem_append, List.mem_singleton]
    unfold esM
    rw [hg]
    by_cases hk : ks[i] ∈ ks.take i
    · rw [if_pos (by rw [ih, if_pos hk]; rfl), ih]
      by_cases hp : p ∈ ks.take i
      · rw [if_pos hp, if_pos (hm.2 (.inl hp))]
      · rw [if_neg hp, if_neg (fun h => by rcases hm.1 h with h | h; · exact hp h
                                           · exact hp (h ▸ hk))]
    · rw [if_neg (by rw [ih, if_neg hk]; simp), assoc_snoc, ih]
      by_cases hp : p ∈ ks.take i
      · rw [if_pos hp, if_pos (hm.2 (.inl hp))]
      · rw [if_neg hp]
        dsimp only
        by_cases e : p = ks[i]
        · rw [if_pos e, if_pos (hm.2 (.inr e)), e, idxOf_mem (List.getElem?_eq_getElem (by omega)) hk]
        · rw [if_neg e, if_neg (fun h => by rcases hm.1 h with h | h; · exact hp h
                                            · exact e h)]
theorem idxOf_keysI (a : Nat × Int) : ∀ (keys : List (Nat × Int)), (keysI keys).idxOf ((a.1 : Int), a.2) = keys.idxOf a
  | [] => rfl
  | b :: keys => by
    simp only [keysI, List.map_cons, List.idxOf_cons]
    have e : (((b.1 : Int), b.2) == ((a.1 : Int), a.2)) = (b == a) := by
      rw [Bool.eq_iff_iff, beq_iff_eq, beq_iff_eq, Prod.mk.injEq, Prod.ext_iff]
      constructor
      · rintro ⟨h1, h2⟩; exact ⟨by omega, h2⟩
      · rintro ⟨h1, h2⟩; exact ⟨by omega, h2⟩
    rw [e]
    cases (b == a) with
    | true => rfl
    | false =>
      have := idxOf_keysI a keys
      simp only [cond_false]
      rw [show (keys.map fun p => ((p.1 : Int), p.2)) = keysI keys from rfl, this]
theorem es_least {keys : List (Nat × Int)} {i : Nat} (h : i < keys.length) : (assocI ((keysI keys).getD i (0, 0)) (esM (keysI keys) (i + 1))).getD 0 = (((leastOf keys)[i]'(by rw [leastOf_len]; exact h) : Nat) : Int) := by
  have hl : (keysI keys).length = keys.length := List.length_map _
  have hg : (keysI keys).getD i (0, 0) = ((keys[i].1 : Int), keys[i].2) := by
    rw [List.getD_eq_getElem?_getD, List.getElem?_eq_getElem (by omega)]
    simp [keysI]
  have hgi : (keysI keys)[i]'(by omega) = ((keys[i].1 : Int), keys[i].2) := by simp [keysI]
  rw [hg, esM_spec (by omega), if_pos (by rw [List.take_succ_eq_append_getElem (by omega), List.mem_append, hgi]; exact .inr (List.mem_singleton.2 rfl)), idxOf_keysI]
  simp [leastOf]
theorem none_of {α : Type} {o : Option α} (h : o.isSome = false) : o = none := by cases o with | none => rfl | some _ => cases h
theorem es_yes {ks : List (Int × Int)} {i : Nat} {es : List ((Int × Int) × Int)} (he : es = esM ks i) (h : (assocI (ks.getD i (0, 0)) es).isSome = true) : es = esM ks (i + 1) := by
  rw [he] at h ⊢
  show _ = esM ks (i + 1)
  unfold esM
  rw [if_pos h]
  cases i <;> rfl
theorem es_no {ks : List (Int × Int)} {i : Nat} {es : List ((Int × Int) × Int)} (he : es = esM ks i) (h : (assocI (ks.getD i (0, 0)) es).isSome = false) : es ++ [(ks.getD i (0, 0), (i : Int))] = esM ks (i + 1) := by
  rw [he] at h ⊢
  conv => rhs; unfold esM
  rw [if_neg (by rw [h]; simp)]
theorem grow_one {x : Int} : AV.vs 1 .full [AV.int .i64 x] = growA false 0 1 ([x].map intAV) := rfl
attribute [local irreducible] WS QS OS OD Abs.Sub SubO SubK CW GSl.av accA growA
section
variable {pr : Prims} {L : List (Nat × AObj)} {K : List (Nat × Bool)} {st : St}
theorem run66' (h66 : pr 66 = none) (h112 : Has pr 112 Rel112) (h57 : Has pr 57 Rel57) (n : GNet) (hn : FitsN n) (hv : validM n = true) (f1 : n.ins.xs.length ≤ 120) (f2 : n.regs.xs.length ≤ 120) (tn ti : Nat) (hS : SFa L K st) :
    CW (En pr) 66 [n.ins.av 1 strAV, accA tn 1 ((n.regs.xs.map (·.name)).map strAV), accA ti 1 ((n.regs.xs.map (·.init)).map bitAV)] st fun r st' => ∃ d : Nat × MkI, (d.2.k = 1 + n.ins.xs.length + n.regs.xs.length ∧ d.2.Fit) ∧ r = .tup [.ptr d.1 0 0, .int .i64 0] ∧ SFa ((d.1, mkO d.2 0 []) :: (d.2.tb, thO d.2 []) :: L) ((0, false) :: K) st' :=
  (run66 h66 h112 h57 n.ins n.regs.xs tn ti (by omega) (by omega) (bare_fits hn) (bare_valid hv) hS).mono fun r st' ⟨d, _, e, h⟩ => ⟨(d.1, ⟨cloneG n.ins, n.regs.xs.map zeroR, d.2.1, d.2.2⟩), ⟨by simp [MkI.k, clone_xs], ⟨by simp only [clone_xs]; omega, by simp only [List.length_map]; omega⟩⟩, e, h⟩
set_option maxHeartbeats 4000000 in
theorem run27 (h1 : pr 27 = none) (h57 : Has pr 57 Rel57) (h64 : pr 64 = none) (h65 : pr 65 = none) (h66 : pr 66 = none) (h112 : Has pr 112 Rel112) (h67 : Has pr 67 Rel67) (h62 : pr 62 = none) (h95 : pr 95 = none) (h117 : pr 117 = none) (h94 : pr 94 = none) (h68 : pr 68 = none)
    (n : GNet) (hn : FitsN n) (hv : validM n = true) (f1 : n.ins.xs.length ≤ 120) (f2 : n.regs.xs.length ≤ 120) (f3 : n.gates.xs.length ≤ 300) (hS : SFa L [] st) :
    CW (En pr) 27 [netAV n] st fun r st' => ∃ d : List Nat × Nat, Rel27 n d.1 ∧ r = .tup [.sl 1 d.2 0 n.regs.xs.length, .int .i64 0] ∧ SFa ((d.2, .row 1 (d.1.map natAV)) :: L) [] st' := by
  have u57 := use57 h57 hn
  rw [hv] at u57
  have hc0 : (class0 n.inits).length = n.regs.xs.length := by rw [class0_len, ini_len]
  refine CW.startS (N := 180) h1 rfl rfl hS ?_
  repeat' (first | (refine OS.do rfl ?_; first | refine OD.box rfl rfl rfl rfl (net_ok _) rfl (fun b1 => ?_) | refine OD.loadP 0 rfl rfl rfl rfl rfl rfl ?_ | refine OD.auto rfl rfl ?_ | refine OD.loadP 1 rfl rfl rfl rfl rfl rfl ?_ | refine OD.len rfl rfl (fun _ => lenTy_av rfl rfl) ?_ | refine OD.call rfl rfl rfl h57.eq u57 (fun _ => rfl) ?_ | refine OD.makeSlice rfl rfl rfl rfl rfl rfl rfl rfl (roomB rfl (by omega)) (fun cb => ?_)) | refine OS.nil ?_ | refine WS.seq ?_ | refine QS.seqN ?_ | refine WS.region ?_ | refine WS.condF rfl ?_ | refine WS.skip ?_ | refine WS.block ?_)
  have e0 : List.replicate n.regs.xs.length ty3.zeroV = (fillL (class0 n.inits) 0).map natAV := by rw [fill_zero, hc0]; exact rep_nat _
  rw [e0]
  refine WS.range (A := List Nat) (n := n.regs.xs.length) ⟨35, _, fun _ => [], fun c => (cb, .row 1 (c.map natAV)) :: (b1, .row 4 [netAV n]) :: L, fun _ => [], fun i c => c = fillL (class0 n.inits) i⟩ (fillL (class0 n.inits) 0) [1, 4, 33, 34] (by rfl) (by omega) (rfl) (by rfl) (by (try dsimp only); repeat' (first | exact Sub.nil _ | refine Sub.cons (congrArg (fun z => some (AV.int .i64 z)) (wrap_succ (by omega))) ?_ | refine Sub.cons rfl ?_)) (by (try dsimp only); repeat' (first | exact SubO.nil _ | exact SubO.refl _ | refine SubO.keep ?_ | refine SubO.drop ?_)) (by (try dsimp only); repeat' (first | exact SubK.nil _ | exact SubK.refl _ | refine SubK.keep (by simp) ?_ | refine SubK.new ?_ | refine SubK.drop ?_)) (by rfl) (by rfl) (by rfl) (by rfl) (by rfl) (by rfl) (fun _ _ => by rfl) (fun _ => by rfl) (fun _ _ => by rfl) (fun _ _ => by rfl) ?_ ?_
  · rintro i c hi hc
    try dsimp only at hc
    subst hc
    have hx := List.getElem?_eq_getElem (l := n.regs.xs) hi
    have hini : n.inits[i]'(by rw [ini_len]; exact hi) = n.regs.xs[i].init := by simp [GNet.inits]
    have hmem : n.regs.xs[i].init ∈ n.regs.xs.map (·.init) := List.mem_map_of_mem (List.getElem_mem hi)
    have hfl : (fillL (class0 n.inits) i).length = n.regs.xs.length := by rw [fill_len (by omega), hc0]
    have hj : ((fillL (class0 n.inits) i).map natAV)[i]? = some (natAV (fillL (class0 n.inits) i)[i]) := by rw [List.getElem?_map, List.getElem?_eq_getElem (by omega)]; rfl
    have hj2 : (((fillL (class0 n.inits) i).map natAV).set i (.int .i64 (i : Int)))[i]? = some (natAV i) := by rw [List.getElem?_set, if_pos rfl, if_pos (by simp; omega)]; rfl
    have c64 := fun {L' : List (Nat × AObj)} {b : Nat} (kk : Nat) (hL : L'[kk]? = some (b, .row 3 [regAV n.regs.xs[i]])) (st : St) (hS : SFa L' [] st) => run64 h64 h65 kk n.regs (by omega) hmem hL hS
    dsimp only [RSt.at, List.cons_append, List.nil_append]
    repeat' (first | (refine OS.do rfl ?_; first | refine OD.storeW 0 rfl rfl rfl rfl rfl rfl rfl rfl ?_ | refine OD.loadP 0 rfl rfl rfl rfl rfl rfl ?_ | refine OD.auto rfl rfl ?_ | refine OD.indexAddr rfl rfl rfl (indexAddrA_nat rfl rfl rfl rfl (by first | assumption | exact List.getElem?_eq_getElem (by omega))) ?_ | refine OD.loadP 2 rfl rfl rfl rfl rfl rfl ?_ | refine OD.alloc rfl rfl rfl rfl (fun _ => ?_) | refine OD.indexAddr rfl rfl rfl (indexAddrA_sl rfl rfl rfl rfl (by omega)) ?_ | refine OD.storeI 1 rfl rfl rfl rfl rfl hj ?_ | refine OD.storeI 1 rfl rfl rfl rfl rfl hj2 ?_ | (refine OD.callP (fun v => v = natAV ((n.regs.xs.map (·.init)).idxOf n.regs.xs[i].init)) rfl rfl rfl (c64 0 rfl) (by rintro v st rfl; rfl) ?_; rintro v rfl)) | refine OS.nil ?_ | refine WS.seq ?_ | refine QS.seqN ?_ | refine WS.region ?_ | refine WS.skip ?_ | refine WS.condNe rfl (fun _ => ?_) (fun _ => ?_))
    · rename_i h2
      have hne : n.inits.getD i 0 ≠ 2 := by rw [getD_get (by rw [ini_len]; exact hi), hini]; exact u8_ne h2
      have ei : (n.regs.xs.map (·.init)).idxOf n.regs.xs[i].init = (class0 n.inits)[i]'(by omega) := by
        have := class0_get (inits := n.inits) (i := i) (by rw [ini_len]; exact hi)
        rw [if_neg hne, getD_get (by rw [ini_len]; exact hi), hini, List.getD_eq_getElem?_getD, List.getElem?_eq_getElem (by omega)] at this
        exact this.symm
      dsimp only [List.set_cons_zero, List.set_cons_succ]
      rw [set_set, map_setN, ei, fill_set (by omega)]
      refine QS.rangeN (fillL (class0 n.inits) (i + 1)) (by (try dsimp only) <;> exact (rfl)) (by (try dsimp only [RSt.at, List.cons_append, List.nil_append]); repeat' (first | exact Sub.nil _ | refine Sub.cons (congrArg (fun z => some (AV.int .i64 z)) (wrap_succ (by omega))) ?_ | refine Sub.cons rfl ?_)) (by (try dsimp only); repeat' (first | exact SubO.nil _ | exact SubO.refl _ | refine SubO.keep ?_ | refine SubO.drop ?_)) (by (try dsimp only); repeat' (first | exact SubK.nil _ | exact SubK.refl _ | refine SubK.keep (by simp) ?_ | refine SubK.new ?_ | refine SubK.drop ?_))
    · rename_i h2
      have hne : n.inits.getD i 0 = 2 := by rw [getD_get (by rw [ini_len]; exact hi), hini]; exact u8_eq h2
      have ei : i = (class0 n.inits)[i]'(by omega) := by
        have := class0_get (inits := n.inits) (i := i) (by rw [ini_len]; exact hi)
        rw [if_pos hne, List.getD_eq_getElem?_getD, List.getElem?_eq_getElem (by omega)] at this
        exact this.symm
      dsimp only [List.set_cons_zero, List.set_cons_succ]
      have em : ((fillL (class0 n.inits) i).map natAV).set i (.int .i64 (i : Int)) = (fillL (class0 n.inits) (i + 1)).map natAV := by
        rw [← fill_set (by omega), ← ei, map_setN]
      rw [em]
      refine QS.rangeN (fillL (class0 n.inits) (i + 1)) (by (try dsimp only) <;> exact (rfl)) (by (try dsimp only [RSt.at, List.cons_append, List.nil_append]); repeat' (first | exact Sub.nil _ | refine Sub.cons (congrArg (fun z => some (AV.int .i64 z)) (wrap_succ (by omega))) ?_ | refine Sub.cons rfl ?_)) (by (try dsimp only); repeat' (first | exact SubO.nil _ | exact SubO.refl _ | refine SubO.keep ?_ | refine SubO.drop ?_)) (by (try dsimp only); repeat' (first | exact SubK.nil _ | exact SubK.refl _ | refine SubK.keep (by simp) ?_ | refine SubK.new ?_ | refine SubK.drop ?_))
  · rintro c hc
    try dsimp only at hc
    rw [← hc0, fill_all] at hc
    subst hc
    dsimp only [RSt.at, List.cons_append, List.nil_append]
    repeat' (first | (refine OS.do rfl ?_; first | refine OD.auto rfl rfl ?_ | refine OD.loadP 1 rfl rfl rfl rfl rfl rfl ?_ | refine OD.len rfl rfl (fun _ => lenTy_av rfl rfl) ?_) | refine OS.nil ?_ | refine WS.seq ?_ | refine QS.seqN ?_ | refine WS.region ?_ | refine WS.block ?_)
    refine WS.range (A := Nat × Nat × List GReg) (n := n.regs.xs.length) ⟨58, _, fun a => [(7, accA a.1 1 ((a.2.2.map (·.name)).map strAV)), (8, accA a.2.1 1 ((a.2.2.map (·.init)).map bitAV))], fun _ => (cb, .row 1 ((class0 n.inits).map natAV)) :: (b1, .row 4 [netAV n]) :: L, fun a => [(a.1, !a.2.2.isEmpty), (a.2.1, !a.2.2.isEmpty)], fun i a => a.2.2 = n.regs.xs.take i⟩ ((0, 0, [])) [1, 4, 56, 57] (by rfl) (by omega) (rfl) (by rfl) (by (try dsimp only); repeat' (first | exact Sub.nil _ | refine Sub.cons (congrArg some (accA_nil _ _).symm) ?_ | refine Sub.cons (congrArg (fun z => some (AV.int .i64 z)) (wrap_succ (by omega))) ?_ | refine Sub.cons rfl ?_)) (by (try dsimp only); repeat' (first | exact SubO.nil _ | exact SubO.refl _ | refine SubO.keep ?_ | refine SubO.drop ?_)) (by (try dsimp only); repeat' (first | exact SubK.nil _ | exact SubK.refl _ | refine SubK.keep (by simp) ?_ | refine SubK.new ?_ | refine SubK.drop ?_)) (by rfl) (by rfl) (by rfl) (by rfl) (by rfl) (by rfl) (fun _ _ => by rfl) (fun _ => by rfl) (fun _ _ => by rfl) (fun _ _ => by rfl) ?_ ?_
    · rintro i ⟨tn, ti, R⟩ hi hR
      try dsimp only at hR
      have hRl : R.length = i := by rw [hR, List.length_take]; omega
      dsimp only [RSt.at, List.cons_append, List.nil_append]
      repeat' (first | (refine OS.do rfl ?_; first | refine OD.auto rfl rfl ?_ | refine OD.indexAddr rfl rfl rfl (indexAddrA_nat rfl rfl rfl rfl (by first | assumption | exact List.getElem?_eq_getElem (by omega))) ?_ | refine OD.alloc rfl rfl rfl rfl (fun _ => ?_) | refine OD.storeW 0 rfl rfl rfl rfl (by first | rfl | exact net_ok _) rfl rfl rfl ?_) | refine OS.nil ?_ | refine WS.seq ?_ | refine QS.seqN ?_ | refine WS.region ?_)
      refine WS.drawY 8 [(tn, !R.isEmpty), (ti, !R.isEmpty)] (K := []) rfl rfl rfl rfl ?_; (repeat' (first | refine SegY.nil ?_ | refine SegY.auto rfl rfl rfl rfl ?_ | refine SegY.loadP 0 rfl rfl rfl rfl rfl rfl rfl ?_ | refine SegY.loadP 1 rfl rfl rfl rfl rfl rfl rfl ?_ | refine SegY.loadP 2 rfl rfl rfl rfl rfl rfl rfl ?_ | refine SegY.indexAddr rfl rfl rfl rfl rfl ?_ | refine SegY.append 0 (xs := (R.map (·.name)).map strAV) (ys := [strAV n.regs.xs[i].name]) rfl rfl rfl rfl rfl (by simp only [List.isEmpty_map]; rfl) rfl rfl rfl rfl rfl rfl (.inr ⟨⟨_, rfl⟩, rfl⟩) (fun _ => rfl) rfl rfl (roomB rfl (by simp only [List.length_map, List.length_singleton]; omega)) (by simp) (fun tn' => ?_)))
      dsimp only [RSt.at, List.cons_append, List.nil_append]
      repeat' (first | (refine OS.do rfl ?_; first | refine OD.auto rfl rfl ?_ | refine OD.append 1 (xs := (R.map (·.init)).map bitAV) (ys := [bitAV n.regs.xs[i].init]) rfl rfl rfl rfl (by simp only [List.isEmpty_map]; rfl) rfl rfl rfl rfl rfl rfl (.inr ⟨⟨_, rfl⟩, rfl⟩) (fun _ => rfl) rfl rfl (roomB rfl (by simp only [List.length_map, List.length_singleton]; omega)) (fun ti' => ?_)) | refine OS.nil ?_)
      have hm1 : (R.map (·.name)).map strAV ++ [strAV n.regs.xs[i].name] = ((R ++ [n.regs.xs[i]]).map (·.name)).map strAV := by simp
      have hm2 : (R.map (·.init)).map bitAV ++ [bitAV n.regs.xs[i].init] = ((R ++ [n.regs.xs[i]]).map (·.init)).map bitAV := by simp
      rw [show (!((R.map (·.init)).map bitAV ++ [bitAV n.regs.xs[i].init]).isEmpty) = true by simp, hm1, hm2]
      refine QS.rangeN ((tn', ti', R ++ [n.regs.xs[i]])) (by (try dsimp only) <;> exact (by rw [hR, List.take_succ_eq_append_getElem hi])) (by (try dsimp only [RSt.at, List.cons_append, List.nil_append]); repeat' (first | exact Sub.nil _ | refine Sub.cons (congrArg (fun z => some (AV.int .i64 z)) (wrap_succ (by omega))) ?_ | refine Sub.cons rfl ?_)) (by (try dsimp only); repeat' (first | exact SubO.nil _ | exact SubO.refl _ | refine SubO.keep ?_ | refine SubO.drop ?_)) (by (try dsimp only); repeat' (first | exact SubK.nil _ | exact SubK.refl _ | refine SubK.keep (by simp) ?_ | refine SubK.new ?_ | refine SubK.drop ?_))
    · rintro ⟨tn, ti, R⟩ hR
      try dsimp only at hR
      rw [List.take_of_length_le (Nat.le_refl _)] at hR
      subst hR
      dsimp only [RSt.at, List.cons_append, List.nil_append]
      repeat' (first | refine QS.seqN ?_ | refine WS.block ?_)
      refine WS.loopK (D := List Nat × Nat) [1, 7, 8] (by rfl) (fun d => [(4, .sl 1 d.2 0 n.regs.xs.length)]) (fun d => (d.2, .row 1 (d.1.map natAV)) :: (b1, .row 4 [netAV n]) :: L) (fun _ => []) (fun d => NetM.Reach n.gates.xs n.ins.xs.length n.nexts n.inits d.1) (fun d => n.regs.xs.length - fixN d.1) ((class0 n.inits, cb)) (.zero) (by (try dsimp only); repeat' (first | exact Sub.nil _ | refine Sub.cons (congrArg (fun z => some (AV.int .i64 z)) (wrap_succ (by omega))) ?_ | refine Sub.cons rfl ?_)) (by (try dsimp only); repeat' (first | exact SubO.nil _ | exact SubO.refl _ | refine SubO.keep ?_ | refine SubO.drop ?_)) (by (try dsimp only); repeat' (first | exact SubK.nil _ | exact SubK.refl _ | refine SubK.keep (by simp) ?_ | refine SubK.new ?_ | refine SubK.drop ?_)) ?_
      rintro ⟨c, cb⟩ hR
      try dsimp only at hR
      have hC := hR.class (by simp [GNet.inits, GNet.nexts])
      have hcl : c.length = n.regs.xs.length := by rw [hC.len, ini_len]
      have c66 := fun {L' : List (Nat × AObj)} (st : St) (hS : SFa L' [] st) => run66' h66 h112 h57 n hn hv f1 f2 tn ti hS
      dsimp only [RSt.at, List.cons_append, List.nil_append]
      repeat' (first | (refine OS.do rfl ?_; first | refine OD.auto rfl rfl ?_ | refine OD.loadP 1 rfl rfl rfl rfl rfl rfl ?_ | refine OD.len rfl rfl (fun _ => lenTy_av rfl rfl) ?_ | (refine OD.callM (D := Nat × MkI) (fun d => d.2.k = 1 + n.ins.xs.length + n.regs.xs.length ∧ d.2.Fit) (fun d => .tup [.ptr d.1 0 0, .int .i64 0]) (fun d => (d.1, mkO d.2 0 []) :: (d.2.tb, thO d.2 []) :: _) (fun _ => [(0, false)]) rfl rfl rfl c66 (fun _ _ _ => rfl) ?_; rintro ⟨mb, m⟩ ⟨hmk, hmf⟩) | refine OD.loadP 3 rfl rfl rfl rfl rfl rfl ?_) | refine OS.nil ?_ | refine WS.seq ?_ | refine QS.seqN ?_ | refine WS.region ?_ | refine WS.block ?_)
      try dsimp only at hmk hmf
      dsimp only
      refine WS.range (A := Bool × Nat × List Int) (n := n.ins.xs.length) ⟨85, _, fun a => [(13, growA a.1 a.2.1 1 (a.2.2.map intAV))], fun _ => (mb, mkO m 0 []) :: (m.tb, thO m []) :: (cb, .row 1 (c.map natAV)) :: (b1, .row 4 [netAV n]) :: L, fun a => [(a.2.1, a.1), (0, false)], fun i a => a.2.2 = (List.range (1 + i)).map fun (k : Nat) => 2 * (k : Int)⟩ ((false, 0, [0])) [1, 4, 7, 8, 11, 84] (by rfl) (by omega) (rfl) (by rfl) (by (try dsimp only); repeat' (first | exact Sub.nil _ | refine Sub.cons (congrArg some grow_one) ?_ | refine Sub.cons (congrArg (fun z => some (AV.int .i64 z)) (wrap_succ (by omega))) ?_ | refine Sub.cons rfl ?_)) (by (try dsimp only); repeat' (first | exact SubO.nil _ | exact SubO.refl _ | refine SubO.keep ?_ | refine SubO.drop ?_)) (by (try dsimp only); repeat' (first | exact SubK.nil _ | exact SubK.refl _ | refine SubK.keep (by simp) ?_ | refine SubK.new ?_ | refine SubK.drop ?_)) (by rfl) (by rfl) (by rfl) (by rfl) (by rfl) (by rfl) (fun _ _ => by rfl) (fun _ => by rfl) (fun _ _ => by rfl) (fun _ _ => by rfl) ?_ ?_
      · rintro i ⟨b, t, R⟩ hi hA
        try dsimp only at hA
        have hRl : R.length = 1 + i := by rw [hA]; simp
        have hw : IntKind.i64.wrap (2 * IntKind.i64.wrap (1 + (i : Int))) = 2 * ((1 + i : Nat) : Int) := by
          rw [wrap64 (n := 1 + (i : Int)) (by omega) (by omega), wrap64 (by omega) (by omega)]; omega
        dsimp only [RSt.at, List.cons_append, List.nil_append]
        repeat' (first | (refine OS.do rfl ?_; first | refine OD.auto rfl rfl ?_ | refine OD.appendG 0 (xs := R.map intAV) (ys := [.int .i64 (IntKind.i64.wrap (2 * IntKind.i64.wrap (1 + (i : Int))))]) rfl rfl rfl rfl rfl rfl rfl rfl rfl rfl rfl (.inr ⟨⟨_, rfl⟩, rfl⟩) (fun _ => rfl) rfl rfl (roomB rfl (by simp only [List.length_map, List.length_singleton]; omega)) (fun t' => ?_)) | refine OS.nil ?_ | refine WS.seq ?_ | refine QS.seqN ?_ | refine WS.region ?_)
        have hm : R.map intAV ++ [.int .i64 (2 * ((1 + i : Nat) : Int))] = (R ++ [2 * ((1 + i : Nat) : Int)]).map intAV := by simp [intAV]
        rw [hw, hm, show (b || !([AV.int .i64 (2 * ((1 + i : Nat) : Int))] : List AV).isEmpty) = true by simp]
        refine QS.rangeN ((true, t', R ++ [2 * ((1 + i : Nat) : Int)])) (by (try dsimp only) <;> exact (by rw [hA, show 1 + (i + 1) = (1 + i) + 1 by omega, List.range_succ, List.map_append]; rfl)) (by (try dsimp only [RSt.at, List.cons_append, List.nil_append]); repeat' (first | exact Sub.nil _ | refine Sub.cons (congrArg (fun z => some (AV.int .i64 z)) (wrap_succ (by omega))) ?_ | refine Sub.cons rfl ?_)) (by (try dsimp only); repeat' (first | exact SubO.nil _ | exact SubO.refl _ | refine SubO.keep ?_ | refine SubO.drop ?_)) (by (try dsimp only); repeat' (first | exact SubK.nil _ | exact SubK.refl _ | refine SubK.keep (by simp) ?_ | refine SubK.new ?_ | refine SubK.drop ?_))
      · rintro ⟨b, t, R⟩ hA
        try dsimp only at hA
        dsimp only [RSt.at, List.cons_append, List.nil_append]
        repeat' (first | (refine OS.do rfl ?_; first | refine OD.auto rfl rfl ?_ | refine OD.len rfl rfl (fun _ => lenTy_av rfl rfl) ?_ | refine OD.loadP 3 rfl rfl rfl rfl rfl rfl ?_) | refine OS.nil ?_ | refine WS.seq ?_ | refine QS.seqN ?_ | refine WS.region ?_ | refine WS.block ?_)
        have hA2 : R = all0L n.ins.xs.length (c.take 0) := by rw [hA]; simp [all0L]
        refine WS.range (A := Bool × Nat × List Int) (n := n.regs.xs.length) ⟨98, _, fun a => [(13, growA a.1 a.2.1 1 (a.2.2.map intAV))], fun _ => (mb, mkO m 0 []) :: (m.tb, thO m []) :: (cb, .row 1 (c.map natAV)) :: (b1, .row 4 [netAV n]) :: L, fun a => [(a.2.1, a.1), (0, false)], fun i a => a.2.2 = all0L n.ins.xs.length (c.take i)⟩ ((b, t, R)) [1, 4, 7, 8, 11, 97] (by rfl) (by omega) (hA2) (by rfl) (by (try dsimp only); repeat' (first | exact Sub.nil _ | refine Sub.cons (congrArg (fun z => some (AV.int .i64 z)) (wrap_succ (by omega))) ?_ | refine Sub.cons rfl ?_)) (by (try dsimp only); repeat' (first | exact SubO.nil _ | exact SubO.refl _ | refine SubO.keep ?_ | refine SubO.drop ?_)) (by (try dsimp only); repeat' (first | exact SubK.nil _ | exact SubK.refl _ | refine SubK.keep (by simp) ?_ | refine SubK.new ?_ | refine SubK.drop ?_)) (by rfl) (by rfl) (by rfl) (by rfl) (by rfl) (by rfl) (fun _ _ => by rfl) (fun _ => by rfl) (fun _ _ => by rfl) (fun _ _ => by rfl) ?_ ?_
        · rintro i ⟨b, t, R⟩ hi hA
          try dsimp only at hA
          have hRl : R.length = 1 + n.ins.xs.length + i := by rw [hA, all0L_len, List.length_take]; omega
          have hci : (c.map natAV)[i]? = some (natAV (c[i]'(by omega))) := by rw [List.getElem?_map, List.getElem?_eq_getElem (by omega)]; rfl
          have hcb : c[i]'(by omega) ≤ i := by
            have := (hC.canon i (by omega)).1
            rw [List.getD_eq_getElem?_getD, List.getElem?_eq_getElem (by omega)] at this
            exact this
          have hw : IntKind.i64.wrap (2 * IntKind.i64.wrap (IntKind.i64.wrap (1 + (n.ins.xs.length : Int)) + ((c[i]'(by omega) : Nat) : Int))) = 2 * ((1 + n.ins.xs.length + c[i]'(by omega) : Nat) : Int) := by
            rw [wrap64 (n := 1 + (n.ins.xs.length : Int)) (by omega) (by omega), wrap64 (n := 1 + (n.ins.xs.length : Int) + ((c[i]'(by omega) : Nat) : Int)) (by omega) (by omega), wrap64 (by omega) (by omega)]; omega
          dsimp only [RSt.at, List.cons_append, List.nil_append]
          repeat' (first | (refine OS.do rfl ?_; first | refine OD.loadP 2 rfl rfl rfl hci rfl rfl ?_ | refine OD.auto rfl rfl ?_ | refine OD.len rfl rfl (fun _ => lenTy_av rfl rfl) ?_ | refine OD.loadP 3 rfl rfl rfl rfl rfl rfl ?_ | refine OD.indexAddr rfl rfl rfl (indexAddrA_sl rfl rfl rfl rfl (by omega)) ?_ | refine OD.appendG 0 (xs := R.map intAV) (ys := [.int .i64 (IntKind.i64.wrap (2 * IntKind.i64.wrap (IntKind.i64.wrap (1 + (n.ins.xs.length : Int)) + ((c[i]'(by omega) : Nat) : Int))))]) rfl rfl rfl rfl rfl rfl rfl rfl rfl rfl rfl (.inr ⟨⟨_, rfl⟩, rfl⟩) (fun _ => rfl) rfl rfl (roomB rfl (by simp only [List.length_map, List.length_singleton]; omega)) (fun t' => ?_)) | refine OS.nil ?_ | refine WS.seq ?_ | refine QS.seqN ?_ | refine WS.region ?_ | refine WS.draw rfl rfl ?_)
          have hm : R.map intAV ++ [.int .i64 (2 * ((1 + n.ins.xs.length + c[i]'(by omega) : Nat) : Int))] = (R ++ [2 * ((1 + n.ins.xs.length + c[i]'(by omega) : Nat) : Int)]).map intAV := by simp [intAV]
          rw [hw, hm, show (b || !([AV.int .i64 (2 * ((1 + n.ins.xs.length + c[i]'(by omega) : Nat) : Int))] : List AV).isEmpty) = true by simp]
          refine QS.rangeN ((true, t', R ++ [2 * ((1 + n.ins.xs.length + c[i]'(by omega) : Nat) : Int)])) (by (try dsimp only) <;> exact ((congrArg (fun z => z ++ [2 * ((1 + n.ins.xs.length + c[i]'(by omega) : Nat) : Int)]) hA).trans (all0_succ (by omega)).symm)) (by (try dsimp only [RSt.at, List.cons_append, List.nil_append]); repeat' (first | exact Sub.nil _ | refine Sub.cons (congrArg (fun z => some (AV.int .i64 z)) (wrap_succ (by omega))) ?_ | refine Sub.cons rfl ?_)) (by (try dsimp only); repeat' (first | exact SubO.nil _ | exact SubO.refl _ | refine SubO.keep ?_ | refine SubO.drop ?_)) (by (try dsimp only); repeat' (first | exact SubK.nil _ | exact SubK.refl _ | refine SubK.keep (by simp) ?_ | refine SubK.new ?_ | refine SubK.drop ?_))
        · rintro ⟨b, t, R⟩ hA
          try dsimp only at hA
          rw [List.take_of_length_le (by omega)] at hA
          have hkc : m.k = 1 + n.ins.xs.length + c.length := by omega
          have hgo : okG (1 + n.ins.xs.length + c.length) n.gates.xs := okG_of (by rw [hcl]; unfold GNet.first; omega) (validM_iff.1 hv).gates
          dsimp only [RSt.at, List.cons_append, List.nil_append]
          repeat' (first | (refine OS.do rfl ?_; first | refine OD.auto rfl rfl ?_ | refine OD.len rfl rfl (fun _ => lenTy_av rfl rfl) ?_ | refine OD.loadP 3 rfl rfl rfl rfl rfl rfl ?_) | refine OS.nil ?_ | refine WS.seq ?_ | refine QS.seqN ?_ | refine WS.region ?_ | refine WS.block ?_)
          refine WS.range (A := (Bool × Nat × List Int) × Nat × List (Int × Int)) (n := n.gates.xs.length) ⟨118, _, fun a => [(13, growA a.1.1 a.1.2.1 1 (a.1.2.2.map intAV))], fun a => (mb, mkO m a.2.1 a.2.2) :: (m.tb, thO m a.2.2) :: (cb, .row 1 (c.map natAV)) :: (b1, .row 4 [netAV n]) :: L, fun a => [(a.1.2.1, a.1.1), (a.2.1, !a.2.2.isEmpty)], fun i a => (a.1.2.2, a.2.2) = shareM m.k (all0L n.ins.xs.length c) (n.gates.xs.take i)⟩ (((b, t, R), 0, [])) [1, 4, 7, 8, 11, 116, 117] (by rfl) (by omega) (by rw [hA]; rfl) (by rfl) (by (try dsimp only); repeat' (first | exact Sub.nil _ | refine Sub.cons (congrArg (fun z => some (AV.int .i64 z)) (wrap_succ (by omega))) ?_ | refine Sub.cons rfl ?_)) (by (try dsimp only); repeat' (first | exact SubO.nil _ | exact SubO.refl _ | refine SubO.keep ?_ | refine SubO.drop ?_)) (by (try dsimp only); repeat' (first | exact SubK.nil _ | exact SubK.refl _ | refine SubK.keep (by simp) ?_ | refine SubK.new ?_ | refine SubK.drop ?_)) (by rfl) (by rfl) (by rfl) (by rfl) (by rfl) (by rfl) (fun _ _ => by rfl) (fun _ => by rfl) (fun _ _ => by rfl) (fun _ _ => by rfl) ?_ ?_
          · rintro i ⟨⟨b, t, R⟩, tg, G⟩ hi hA
            try dsimp only at hA
            have hs := share_ok hC.canon hgo (Nat.le_of_lt hi)
            rw [← hkc, ← hA] at hs
            have hRl := hs.len
            have hGl := hs.gates
            try dsimp only at hRl hGl
            obtain ⟨⟨g1, g2⟩, g3, g4⟩ := hgo i hi
            have r1 := hs.range (n.gates.xs[i].1 / 2).toNat
            have r2 := hs.range (n.gates.xs[i].2 / 2).toNat
            have a1 := at_range hs n.gates.xs[i].1
            have a2 := at_range hs n.gates.xs[i].2
            try dsimp only at r1 r2 a1 a2
            have u1 := use67g h67 (b := b) (t := t) (v := R) (k := n.gates.xs[i].1) (by omega) (by omega)
            have u2 := use67g h67 (b := b) (t := t) (v := R) (k := n.gates.xs[i].2) (by omega) (by omega)
            have c62 := fun {L' : List (Nat × AObj)} {K : List (Nat × Bool)} (km kt kg : Nat) (hm : L'[km]? = some (mb, mkO m tg G)) (ht : L'[kt]? = some (m.tb, thO m G)) (hg : K[kg]? = some (tg, !G.isEmpty)) (hne : km ≠ kt) (st : St) (hS : SFa L' K st) => run62 h62 h95 h117 h94 km kt kg hm ht hg hne hmf (by omega) a1 a2 hS
            obtain ⟨⟨lit, G'⟩, hAnd⟩ : ∃ res, res = andG m.k G (atL R n.gates.xs[i].1) (atL R n.gates.xs[i].2) := ⟨_, rfl⟩
            simp only [← hAnd] at c62
            have hstep : (R ++ [lit], G') = stepM m.k (R, G) n.gates.xs[i] := by unfold stepM; rw [← hAnd]
            dsimp only [RSt.at, List.cons_append, List.nil_append]
            repeat' (first | (refine OS.do rfl ?_; first | refine OD.auto rfl rfl ?_ | refine OD.indexAddr rfl rfl rfl (indexAddrA_nat rfl rfl rfl rfl (by first | assumption | exact List.getElem?_eq_getElem (by omega))) ?_ | refine OD.alloc rfl rfl rfl rfl (fun _ => ?_) | refine OD.storeW 0 rfl rfl rfl rfl (by first | rfl | exact net_ok _) rfl rfl rfl ?_) | refine OS.nil ?_ | refine WS.seq ?_ | refine QS.seqN ?_ | refine WS.region ?_)
            refine WS.drawT 9 rfl rfl rfl rfl ?_; (repeat' (first | refine SegT.nil ?_ | refine SegT.auto rfl rfl rfl rfl ?_ | refine SegT.loadP 0 rfl rfl rfl rfl rfl rfl rfl ?_ | refine SegT.loadP 1 rfl rfl rfl rfl rfl rfl rfl ?_ | refine SegT.loadP 2 rfl rfl rfl rfl rfl rfl rfl ?_ | refine SegT.len rfl rfl rfl (fun _ => lenTy_av rfl rfl) ?_ | refine SegT.len rfl rfl rfl (fun _ => rfl) ?_ | refine SegT.indexAddr rfl rfl rfl rfl rfl ?_ | refine SegT.skip rfl rfl rfl ?_ | refine SegT.call rfl rfl rfl rfl h67.eq u1 (fun _ => rfl) ?_))
            dsimp only [RSt.at, List.cons_append, List.nil_append]
            repeat' (first | (refine OS.do rfl ?_; first | refine OD.auto rfl rfl ?_ | refine OD.call rfl rfl rfl h67.eq u2 (fun _ => rfl) ?_ | (refine OD.callM (D := Nat) (fun _ => True) (fun _ => .int .i64 lit) _ _ rfl rfl rfl (c62 1 2 1 rfl rfl rfl (by decide)) (fun _ _ _ => rfl) ?_; rintro tg' _) | refine OD.appendG 0 (xs := R.map intAV) (ys := [.int .i64 lit]) rfl rfl rfl rfl rfl rfl rfl rfl rfl rfl rfl (.inr ⟨⟨_, rfl⟩, rfl⟩) (fun _ => rfl) rfl rfl (roomB rfl (by simp only [List.length_map, List.length_singleton]; omega)) (fun t' => ?_)) | refine OS.nil ?_)
            have hm : R.map intAV ++ [.int .i64 lit] = (R ++ [lit]).map intAV := by simp [intAV]
            rw [hm, show (b || !([AV.int .i64 lit] : List AV).isEmpty) = true by simp]
            refine QS.rangeN (((true, t', R ++ [lit]), tg', G')) (by (try dsimp only) <;> exact (by rw [hstep, hA, shareM_succ hi])) (by (try dsimp only [RSt.at, List.cons_append, List.nil_append]); repeat' (first | exact Sub.nil _ | refine Sub.cons (congrArg (fun z => some (AV.int .i64 z)) (wrap_succ (by omega))) ?_ | refine Sub.cons rfl ?_)) (by (try dsimp only); repeat' (first | exact SubO.nil _ | exact SubO.refl _ | refine SubO.keep ?_ | refine SubO.drop ?_)) (by (try dsimp only); repeat' (first | exact SubK.nil _ | exact SubK.refl _ | refine SubK.keep (by simp) ?_ | refine SubK.new ?_ | refine SubK.drop ?_))
          · rintro ⟨⟨b, t, R⟩, tg, G⟩ hA
            try dsimp only at hA
            rw [List.take_of_length_le (Nat.le_refl _)] at hA
            dsimp only [RSt.at, List.cons_append, List.nil_append]
            repeat' (first | (refine OS.do rfl ?_; first | refine OD.makeMap rfl rfl rfl (fun lb => ?_) | refine OD.auto rfl rfl ?_ | refine OD.len rfl rfl (fun _ => lenTy_av rfl rfl) ?_ | refine OD.len rfl rfl (fun _ => rfl) ?_ | refine OD.makeSlice rfl rfl rfl rfl rfl rfl rfl rfl (roomB rfl (by omega)) (fun fb => ?_) | refine OD.loadP 5 rfl rfl rfl rfl rfl rfl ?_) | refine OS.nil ?_ | refine WS.seq ?_ | refine QS.seqN ?_ | refine WS.region ?_ | refine WS.block ?_)
            obtain ⟨keys, hkeys⟩ : ∃ keys, keys = keysL n.gates.xs n.ins.xs.length n.nexts c := ⟨_, rfl⟩
            have hnl : n.nexts.length = n.regs.xs.length := by simp [GNet.nexts]
            have hkl : keys.length = n.regs.xs.length := by rw [hkeys, keysL_len (by omega), hcl]
            have hF : finerL n.gates.xs n.ins.xs.length n.nexts c = leastOf keys := by rw [hkeys]; rfl
            have hFl : (leastOf keys).length = n.regs.xs.length := by rw [leastOf_len, hkl]
            have hs := share_ok hC.canon hgo (Nat.le_refl _)
            rw [List.take_length, ← hkc, ← hA] at hs
            have hRl := hs.len
            have hGl := hs.gates
            try dsimp only at hRl hGl
            have hmade : madeL n.gates.xs n.ins.xs.length c = R := by unfold madeL; rw [← hkc, ← hA]
            have e1 : List.replicate n.regs.xs.length ty3.zeroV = (fillL (leastOf keys) 0).map natAV := by rw [fill_zero, hFl]; exact rep_nat _
            rw [e1]
            refine WS.range (A := List ((Int × Int) × Int) × List Nat) (n := n.regs.xs.length) ⟨143, _, fun _ => [], fun a => (lb, .map 53 3 (ents2 a.1)) :: (fb, .row 1 (a.2.map natAV)) :: (mb, mkO m tg G) :: (m.tb, thO m G) :: (cb, .row 1 (c.map natAV)) :: (b1, .row 4 [netAV n]) :: L, fun _ => [], fun i a => a.1 = esM (keysI keys) i ∧ a.2 = fillL (leastOf keys) i⟩ (([], fillL (leastOf keys) 0)) [1, 4, 7, 8, 13, 18, 19, 141, 142] (by rfl) (by omega) (⟨rfl, rfl⟩) (by rfl) (by (try dsimp only); repeat' (first | exact Sub.nil _ | refine Sub.cons (congrArg (fun z => some (AV.int .i64 z)) (wrap_succ (by omega))) ?_ | refine Sub.cons rfl ?_)) (by (try dsimp only); repeat' (first | exact SubO.nil _ | exact SubO.refl _ | refine SubO.keep ?_ | refine SubO.drop ?_)) (by (try dsimp only); repeat' (first | exact SubK.nil _ | exact SubK.refl _ | refine SubK.keep (by simp) ?_ | refine SubK.new ?_ | refine SubK.drop ?_)) (by rfl) (by rfl) (by rfl) (by rfl) (by rfl) (by rfl) (fun _ _ => by rfl) (fun _ => by rfl) (fun _ _ => by rfl) (fun _ _ => by rfl) ?_ ?_
            · rintro i ⟨es, f⟩ hi ⟨hes, hf⟩
              try dsimp only at hes hf
              have hci : (c.map natAV)[i]? = some (natAV (c[i]'(by omega))) := by rw [List.getElem?_map, List.getElem?_eq_getElem (by omega)]; rfl
              have hx := List.getElem?_eq_getElem (l := n.regs.xs) hi
              have hnx := (validM_iff.1 hv).nexts
              have hnx : litOk n.regs.xs[i].next n.nodes = true := all_get hnx hi
              have hnx := of_decide_eq_true hnx
              simp only [GNet.nodes, GNet.first] at hnx
              have r1 := hs.range (n.regs.xs[i].next / 2).toNat
              try dsimp only at r1
              have u1 := use67g h67 (b := b) (t := t) (v := R) (k := n.regs.xs[i].next) (by omega) (by omega)
              have hkey : (keysI keys).getD i (0, 0) = (((c[i]'(by omega) : Nat) : Int), atL R n.regs.xs[i].next) := by
                have hki := keysL_get (gs := n.gates.xs) (nins := n.ins.xs.length) (next := n.nexts) (c := c) (by omega) (i := i) (by omega)
                rw [hmade, List.getD_eq_getElem?_getD, List.getD_eq_getElem?_getD, List.getElem?_eq_getElem (by omega), List.getElem?_eq_getElem (by omega)] at hki
                rw [List.getD_eq_getElem?_getD, List.getElem?_eq_getElem (by simp [keysI]; omega)]
                simp only [keysI, List.getElem_map, Option.getD_some]
                subst hkeys
                rw [hki]
                simp [GNet.nexts]
              have hset : (f.map natAV).set i (.int .i64 (((leastOf keys)[i]'(by omega) : Nat) : Int)) = (fillL (leastOf keys) (i + 1)).map natAV := by rw [map_setN, hf, fill_set (by omega)]
              have hleast := es_least (keys := keys) (i := i) (by omega)
              have hfj : (f.map natAV)[i]? = some (natAV (f.getD i 0)) := by
                rw [List.getElem?_map, hf, List.getElem?_eq_getElem (by rw [fill_len (by omega)]; omega), List.getD_eq_getElem?_getD, List.getElem?_eq_getElem (by rw [fill_len (by omega)]; omega)]; rfl
              dsimp only [RSt.at, List.cons_append, List.nil_append]
              repeat' (first | (refine OS.do rfl ?_; first | refine OD.storeW 0 rfl rfl rfl rfl rfl rfl rfl rfl ?_ | refine OD.auto rfl rfl ?_ | refine OD.indexAddr rfl rfl rfl (indexAddrA_nat rfl rfl rfl rfl (by first | assumption | exact List.getElem?_eq_getElem (by omega))) ?_ | refine OD.alloc rfl rfl rfl rfl (fun _ => ?_)) | refine OS.nil ?_ | refine WS.seq ?_ | refine QS.seqN ?_ | refine WS.region ?_)
              refine WS.drawA 9 rfl rfl rfl rfl rfl rfl rfl (fun _ _ => rfl) (fun b22 => ?_); (repeat' (first | refine SegY.nil ?_ | refine SegY.indexAddr rfl rfl rfl rfl (indexAddrA_sl rfl rfl rfl rfl (by omega)) ?_ | refine SegY.loadP 6 rfl rfl rfl rfl hci rfl rfl ?_ | refine SegY.auto rfl rfl rfl rfl ?_ | refine SegY.loadP 0 rfl rfl rfl rfl rfl rfl rfl ?_ | refine SegY.loadP 1 rfl rfl rfl rfl rfl rfl rfl ?_ | refine SegY.loadP 2 rfl rfl rfl rfl rfl rfl rfl ?_ | refine SegY.indexAddr rfl rfl rfl rfl rfl ?_ | refine SegY.call rfl rfl rfl rfl h67.eq u1 (fun _ => rfl) ?_))
              refine ⟨gateAV (((c[i]'(by omega) : Nat) : Int), atL R n.regs.xs[i].next), rfl, rfl, rfl, rfl, ?_⟩
              rw [← hkey]
              dsimp only [RSt.at, List.cons_append, List.nil_append]
              repeat' (first | (refine OS.do rfl ?_; first | refine OD.lookup 2 rfl rfl rfl rfl (fun st hst => look2 true hst) ?_ | refine OD.lookup 2 rfl rfl rfl rfl (fun st hst => look2 false hst) ?_ | refine OD.mapUpdate 2 rfl rfl rfl rfl rfl rfl rfl (fun st hst => put2 (none_of (by assumption)) hst) ?_ | refine OD.loadP 0 rfl rfl rfl rfl rfl rfl ?_ | refine OD.auto rfl rfl ?_ | refine OD.indexAddr rfl rfl rfl (indexAddrA_sl rfl rfl rfl rfl (by omega)) ?_ | refine OD.storeI 3 rfl rfl rfl rfl rfl hfj ?_) | refine OS.nil ?_ | refine WS.seq ?_ | refine QS.seqN ?_ | refine WS.region ?_ | refine WS.skip ?_ | refine WS.condN rfl (fun _ => ?_) (fun _ => ?_))
              · rename_i hno
                have ee := es_no hes hno
                rw [ee, hleast, hset]
                refine QS.rangeN ((esM (keysI keys) (i + 1), fillL (leastOf keys) (i + 1))) (by (try dsimp only) <;> exact (⟨rfl, rfl⟩)) (by (try dsimp only [RSt.at, List.cons_append, List.nil_append]); repeat' (first | exact Sub.nil _ | refine Sub.cons (congrArg (fun z => some (AV.int .i64 z)) (wrap_succ (by omega))) ?_ | refine Sub.cons rfl ?_)) (by (try dsimp only); repeat' (first | exact SubO.nil _ | exact SubO.refl _ | refine SubO.keep ?_ | refine SubO.drop ?_)) (by (try dsimp only); repeat' (first | exact SubK.nil _ | exact SubK.refl _ | refine SubK.keep (by simp) ?_ | refine SubK.new ?_ | refine SubK.drop ?_))
              · rename_i hyes
                have ee := es_yes hes hyes
                have hv' : (assocI ((keysI keys).getD i (0, 0)) es).getD 0 = (((leastOf keys)[i]'(by omega) : Nat) : Int) := by rw [ee]; exact hleast
                rw [hv', hset]
                refine QS.rangeN ((es, fillL (leastOf keys) (i + 1))) (by (try dsimp only) <;> exact (⟨ee, rfl⟩)) (by (try dsimp only [RSt.at, List.cons_append, List.nil_append]); repeat' (first | exact Sub.nil _ | refine Sub.cons (congrArg (fun z => some (AV.int .i64 z)) (wrap_succ (by omega))) ?_ | refine Sub.cons rfl ?_)) (by (try dsimp only); repeat' (first | exact SubO.nil _ | exact SubO.refl _ | refine SubO.keep ?_ | refine SubO.drop ?_)) (by (try dsimp only); repeat' (first | exact SubK.nil _ | exact SubK.refl _ | refine SubK.keep (by simp) ?_ | refine SubK.new ?_ | refine SubK.drop ?_))
            · rintro ⟨es, f⟩ ⟨hes, hf⟩
              try dsimp only at hes hf
              rw [← hFl, fill_all] at hf
              subst hf
              have c68 := fun {L' : List (Nat × AObj)} {K : List (Nat × Bool)} (k1 k2 : Nat) (h1 : L'[k1]? = some (fb, .row 1 ((leastOf keys).map natAV))) (h2 : L'[k2]? = some (cb, .row 1 (c.map natAV))) (st : St) (hS : SFa L' K st) => run68 h68 k1 k2 (by rw [hFl, hcl]) (by rw [hFl]; omega) h1 h2 hS
              rw [hFl] at c68
              rw [hcl] at c68
              dsimp only [RSt.at, List.cons_append, List.nil_append]
              repeat' (first | (refine OS.do rfl ?_; first | refine OD.auto rfl rfl ?_ | (refine OD.callP (fun v => v = .bool (decide (leastOf keys = c))) rfl rfl rfl (c68 1 4 rfl rfl) (by rintro v st rfl; rfl) ?_; rintro v rfl)) | refine OS.nil ?_ | refine WS.seq ?_ | refine QS.seqN ?_ | refine WS.region ?_ | refine WS.condD rfl (fun _ => ?_) (fun _ => ?_) | refine WS.skip ?_ | refine WS.ret ?_ | refine QS.seqR ?_ | refine QS.blockR ?_ | refine QS.loopR ?_ | refine QS.blockN ?_)
              · rename_i heq
                exact QS.retRS (by rfl) fun st hs => ⟨(c, cb), ⟨hR, hF.trans heq⟩, rfl, hs.subO (.drop (.drop (.drop (.drop (.keep (.drop (.refl _)))))))⟩
              · rename_i hne
                have hlt := fixN_lt (gs := n.gates.xs) (nins := n.ins.xs.length) (next := n.nexts) (c := c) (by omega) hC.canon (by rw [hF]; exact hne)
                rw [hF] at hlt
                have hle := fixN_le (leastOf keys)
                refine QS.loopN ((leastOf keys, fb)) (by exact (by rw [← hF]; exact .succ hR)) (by exact (by dsimp only; omega)) (by (try dsimp only [List.cons_append, List.nil_append]); repeat' (first | exact Sub.nil _ | refine Sub.cons (congrArg (fun z => some (AV.int .i64 z)) (wrap_succ (by omega))) ?_ | refine Sub.cons rfl ?_)) (by (try dsimp only); repeat' (first | exact SubO.nil _ | exact SubO.refl _ | refine SubO.keep ?_ | refine SubO.drop ?_)) (by (try dsimp only); repeat' (first | exact SubK.nil _ | exact SubK.refl _ | refine SubK.keep (by simp) ?_ | refine SubK.new ?_ | refine SubK.drop ?_))
end
end Go.OptEnv

/- The law OptTwins, walked. -/
namespace Go.OptEnv
open Go Go.Proofs Go.Abs Go.RowKit Go.NetM
set_option maxRecDepth 10000
theorem SFa.frozen {L : List (Nat × AObj)} {st : St} {b : Nat} {o : AObj} (h : SFa ((b, o) :: L) [] st) : SFa L [] ((st.drop b).newTok) := by
  refine ⟨fun k b' o' hk => ?_, fun k k' b' o1 o2 h1 h2 => ?_, fun _ _ h => by simp at h, fun _ _ _ h => by simp at h⟩
  · have h1 := h.obj (k + 1) b' o' hk
    refine ⟨?_, by simp only [St.next_newTok, St.next_drop]; omega⟩
    rw [St.get_newTok, St.get_drop, if_neg]
    · exact h1.1
    · rintro rfl
      have := h.uniq 0 (k + 1) b o o' rfl hk
      omega
  · have := h.uniq (k + 1) (k' + 1) b' o1 o2 h1 h2
    omega
theorem freeze_cls {st : St} {b : Nat} {c : List Nat} {N : Nat} (hN : c.length = N) (hg : st.get b = some (.row 1 (c.map natAV))) : freezeA st (.tup [.sl 1 b 0 N, .int .i64 0]) = some (.tup [growA true st.next 1 (c.map natAV), .int .i64 0], (st.drop b).newTok) := by
  have e : freezeC st (.sl 1 b 0 N) = some (growA true st.next 1 (c.map natAV), (st.drop b).newTok) := by
    simp only [freezeC, hg]
    rw [if_pos ⟨trivial, by simp [hN]⟩, if_pos (by simp [hN])]
    have : ((c.map natAV).drop 0).take N = c.map natAV := by rw [List.drop_zero, List.take_of_length_le (by simp [hN])]
    rw [this]; rfl
  simp only [freezeA, freezeM, freezeB, e]
  rfl
theorem known_bin {n : GNet} (h : knownM n = true) : binL n.inits := fun b hb => by
  obtain ⟨r, hr, rfl⟩ := List.mem_map.1 hb
  exact of_decide_eq_true (List.all_eq_true.1 h r hr)
theorem lits_bin {gs : List (Int × Int)} {ins now : List UInt8} {next : List Int} (h1 : binL ins) (h2 : binL now) : binL (litsB gs ins now next) := fun b hb => by
  obtain ⟨l, _, rfl⟩ := List.mem_map.1 hb
  exact ofL_bin (gatesM_bin _ (fun b hb => by
    rcases List.mem_cons.1 hb with rfl | hb
    · exact .inl rfl
    · exact bin_app h1 h2 b hb)) _
theorem bin_le2 {l : List UInt8} (h : binL l) : le2 l = true := by
  simp only [le2, List.all_eq_true, decide_eq_true_eq]
  intro b hb
  rcases h b hb with rfl | rfl <;> decide
theorem clock_bin (nins : Nat) (l : List UInt8) (t : Nat) : binL (clockM nins l t) := fun b hb => by
  obtain ⟨i, _, rfl⟩ := List.mem_map.1 hb
  have := clock_le l (i + t * nins)
  rcases (show (clockBit l (i + t * nins)).toNat = 0 ∨ (clockBit l (i + t * nins)).toNat = 1 by omega) with h | h
  · exact .inl (UInt8.toNat_inj.1 h)
  · exact .inr (UInt8.toNat_inj.1 h)
attribute [local irreducible] WS QS OS OD Abs.Sub SubO SubK CW GSl.av accA growA
section
variable {pr : Prims}
set_option maxHeartbeats 4000000 in
theorem run12 (h1 : pr 12 = none) (h15 : Has pr 15 Rel15) (h16 : Has pr 16 Rel16) (h31 : Has pr 31 Rel31) (h32 : Has pr 32 Rel32) (h47 : Has pr 47 Rel47) (h48 : Has pr 48 Rel48) (h49 : Has pr 49 Rel49)
    (h27 : pr 27 = none) (h57 : Has pr 57 Rel57) (h64 : pr 64 = none) (h65 : pr 65 = none) (h66 : pr 66 = none) (h112 : Has pr 112 Rel112) (h67 : Has pr 67 Rel67) (h62 : pr 62 = none) (h95 : pr 95 = none) (h117 : pr 117 = none) (h94 : pr 94 = none) (h68 : pr 68 = none)
    (n : GNet) (hn : FitsN n) (l0 : GSl UInt8) (hl0 : l0.xs.length ≤ 140737488355328) (many : UInt8) (st : St) :
    CW (En pr) 12 [netAV n, l0.av 1 bitAV, .int .u8 (many.toNat : Int)] st fun r _ => r = .bool true := by
  have hn' := hn
  obtain ⟨f1, f2, f3, f4, _, _, _, _, _, _⟩ := hn'
  have u15 := use15 h15 hn
  have u31 := use31 h31 hn
  have u16 := use16 h16
  rcases (Bool.eq_false_or_eq_true (fewM n)).symm with hfew | hfew
  · rw [hfew] at u15
    refine CW.start (N := 107) h1 rfl rfl ?_
    repeat' (first | (refine OS.do rfl ?_; first | refine OD.box rfl rfl rfl rfl (net_ok _) rfl (fun b1 => ?_) | refine OD.loadP 0 rfl rfl rfl rfl rfl rfl ?_ | refine OD.auto rfl rfl ?_ | refine OD.call rfl rfl rfl h15.eq u15 (fun _ => rfl) ?_ | refine OD.call rfl rfl rfl h16.eq u16 (fun _ => rfl) ?_) | refine OS.nil ?_ | refine OS.skip rfl rfl rfl ?_ | refine WS.seq ?_ | refine QS.seqN ?_ | refine WS.region ?_ | refine WS.condT rfl ?_ | refine WS.ret ?_ | refine QS.seqR ?_)
    all_goals (exact QS.retR (by rfl) fun _ => rfl)
  rcases (Bool.eq_false_or_eq_true (validM n)).symm with hV | hV
  · rw [hfew] at u15
    rw [hV] at u31
    refine CW.start (N := 107) h1 rfl rfl ?_
    repeat' (first | (refine OS.do rfl ?_; first | refine OD.box rfl rfl rfl rfl (net_ok _) rfl (fun b1 => ?_) | refine OD.loadP 0 rfl rfl rfl rfl rfl rfl ?_ | refine OD.auto rfl rfl ?_ | refine OD.call rfl rfl rfl h15.eq u15 (fun _ => rfl) ?_ | refine OD.call rfl rfl rfl h31.eq u31 (fun _ => rfl) ?_ | refine OD.call rfl rfl rfl h16.eq u16 (fun _ => rfl) ?_) | refine OS.nil ?_ | refine WS.seq ?_ | refine QS.seqN ?_ | refine WS.region ?_ | refine WS.condT rfl ?_ | refine WS.ret ?_ | refine QS.seqR ?_)
    all_goals (exact QS.retR (by rfl) fun _ => rfl)
  rw [hfew] at u15
  rw [hV] at u31
  have hf := hfew
  simp only [fewM, Bool.and_eq_true, decide_eq_true_eq] at hf
  have v := validM_iff.1 hV
  have u49 := use49 h49 hn
  have u47 := use47 h47 (n := n) (by omega)
  have hz47 : ∀ st, freezeA st ((GSl.of n.inits).av 1 bitAV) = some ((GSl.of n.inits).av 1 bitAV, st) := fun st => freeze_free (free_av bit_free)
  have hmany : (IntKind.i64.wrap (many.toNat : Int)).tmod 21 = ((many.toNat % 21 : Nat) : Int) := by
    have := many.toNat_lt
    rw [wrap_nat (by omega)]; exact tmod_nat
  have u32 : ∀ st, primOf Rel32 [netAV n, l0.av 1 bitAV, .int .i64 ((IntKind.i64.wrap (many.toNat : Int)).tmod 21)] st = some ((GSl.of (clocksM n.ins.xs.length l0.xs (many.toNat % 21))).av 1 rowAV, st) := fun st => by
    rw [hmany]; exact use32 h32 hn (by omega) hl0 (by omega) st
  have hz32 : ∀ st, freezeA st ((GSl.of (clocksM n.ins.xs.length l0.xs (many.toNat % 21))).av 1 rowAV) = some ((GSl.of (clocksM n.ins.xs.length l0.xs (many.toNat % 21))).av 1 rowAV, st) := fun st => freeze_free (free_av row_free)
  have c27 : ∀ (L : List (Nat × AObj)) (st : St), SFa L [] st → CW (En pr) 27 [netAV n] st fun r st' => ∃ (d : List Nat × Nat) (st2 : St), Rel27 n d.1 ∧ freezeA st' r = some (.tup [growA true d.2 1 (d.1.map natAV), .int .i64 0], st2) ∧ SFa L [] st2 := fun L st hS =>
    (run27 h27 h57 h64 h65 h66 h112 h67 h62 h95 h117 h94 h68 n hn hV (by omega) (by omega) (by omega) hS).mono fun r st' ⟨d, hd, e, hs⟩ => by
      have hcl : d.1.length = n.regs.xs.length := by rw [(hd.1.class (by simp [GNet.inits, GNet.nexts])).len, ini_len]
      exact ⟨(d.1, st'.next), _, hd, by rw [e]; exact freeze_cls hcl (hs.obj 0 _ _ rfl).1, SFa.frozen hs⟩
  refine CW.start (N := 107) h1 rfl rfl ?_
  repeat' (first | (refine OS.do rfl ?_; first | refine OD.box rfl rfl rfl rfl (net_ok _) rfl (fun b1 => ?_) | refine OD.loadP 0 rfl rfl rfl rfl rfl rfl ?_ | refine OD.auto rfl rfl ?_ | refine OD.len rfl rfl (fun _ => lenTy_av rfl rfl) ?_ | refine OD.call rfl rfl rfl h15.eq u15 (fun _ => rfl) ?_ | refine OD.call rfl rfl rfl h31.eq u31 (fun _ => rfl) ?_ | (refine OD.callZ (D := List Nat × Nat) (fun d => Rel27 n d.1) (fun d => .tup [growA true d.2 1 (d.1.map natAV), .int .i64 0]) (fun _ => _) (fun _ => []) rfl rfl rfl rfl (c27 _) ?_; rintro ⟨c, tk⟩ hc) | refine OD.len rfl rfl (fun _ => lenTy_grow rfl rfl) ?_) | refine OS.nil ?_ | refine WS.seq ?_ | refine QS.seqN ?_ | refine WS.region ?_ | refine WS.condF rfl ?_ | refine WS.skip ?_ | refine WS.block ?_ | refine WS.ret ?_ | refine QS.seqR ?_ | refine WS.condNe rfl (fun _ => ?_) (fun _ => ?_))
  all_goals (try dsimp only at hc)
  all_goals (have hC := hc.1.class (by simp [GNet.inits, GNet.nexts]))
  all_goals (have hcl : c.length = n.regs.xs.length := by rw [hC.len, ini_len])
  · exfalso
    rename_i hx
    dsimp only at hx
    omega
  dsimp only
  have hcan : ∀ i, (h : i < c.length) → c[i] ≤ i ∧ c[c[i]]? = some c[i] := fun i h => by
    obtain ⟨q1, q2⟩ := hC.canon i h
    have e : c.getD i 0 = c[i] := by rw [List.getD_eq_getElem?_getD, List.getElem?_eq_getElem h]; rfl
    rw [e] at q1 q2
    rw [List.getD_eq_getElem?_getD, List.getElem?_eq_getElem (by omega)] at q2
    exact ⟨q1, by rw [List.getElem?_eq_getElem (by omega)]; exact congrArg some q2⟩
  refine WS.range (A := Unit) (n := c.length) ⟨42, _, fun _ => [], fun _ => [(b1, .row 4 [netAV n])], fun _ => [], fun _ _ => True⟩ (()) [1, 2, 3, 7, 40, 41] (by rfl) (by omega) (trivial) (by rfl) (by (try dsimp only); repeat' (first | exact Sub.nil _ | refine Sub.cons (congrArg (fun z => some (AV.int .i64 z)) (wrap_succ (by omega))) ?_ | refine Sub.cons rfl ?_)) (by (try dsimp only); repeat' (first | exact SubO.nil _ | exact SubO.refl _ | refine SubO.keep ?_ | refine SubO.drop ?_)) (by (try dsimp only); repeat' (first | exact SubK.nil _ | exact SubK.refl _ | refine SubK.keep (by simp) ?_ | refine SubK.new ?_ | refine SubK.drop ?_)) (by rfl) (by rfl) (by rfl) (by rfl) (by rfl) (by rfl) (fun _ _ => by rfl) (fun _ => by rfl) (fun _ _ => by rfl) (fun _ _ => by rfl) ?_ ?_
  · rintro i _ hi _
    obtain ⟨q1, q2⟩ := hcan i hi
    have hci : c[((i : Nat) : Int).toNat]? = some c[i] := by rw [Int.toNat_natCast]; exact List.getElem?_eq_getElem hi
    have hck : c[((c[i] : Nat) : Int).toNat]? = some c[i] := by rw [Int.toNat_natCast]; exact q2
    dsimp only [RSt.at, List.cons_append, List.nil_append]
    repeat' (first | (refine OS.do rfl ?_; first | refine OD.indexAddr rfl rfl rfl (indexAddrA_grow rfl rfl rfl rfl (by omega) hci) ?_ | refine OD.indexAddr rfl rfl rfl (indexAddrA_grow rfl rfl rfl rfl (by omega) hck) ?_ | refine OD.auto rfl rfl ?_) | refine OS.nil ?_ | refine OS.skip rfl rfl rfl ?_ | refine WS.seq ?_ | refine QS.seqN ?_ | refine WS.region ?_ | refine WS.condT rfl ?_ | refine WS.skip ?_ | refine WS.ret ?_ | refine QS.seqR ?_ | refine QS.rangeR ?_ | refine WS.condNe rfl (fun _ => ?_) (fun _ => ?_) | ((fail_if_success (refine OS.do rfl ?_)); first | refine OS.splitD rfl rfl rfl (fun _ => ?_) (fun _ => ?_)))
    all_goals try (exfalso; omega)
    refine QS.rangeN (()) (by (try dsimp only) <;> exact (trivial)) (by (try dsimp only [RSt.at, List.cons_append, List.nil_append]); repeat' (first | exact Sub.nil _ | refine Sub.cons (congrArg (fun z => some (AV.int .i64 z)) (wrap_succ (by omega))) ?_ | refine Sub.cons rfl ?_)) (by (try dsimp only); repeat' (first | exact SubO.nil _ | exact SubO.refl _ | refine SubO.keep ?_ | refine SubO.drop ?_)) (by (try dsimp only); repeat' (first | exact SubK.nil _ | exact SubK.refl _ | refine SubK.keep (by simp) ?_ | refine SubK.new ?_ | refine SubK.drop ?_))
  rintro _ _
  dsimp only [RSt.at, List.cons_append, List.nil_append]
  repeat' (first | (refine OS.do rfl ?_; first | refine OD.loadP 0 rfl rfl rfl rfl rfl rfl ?_ | refine OD.auto rfl rfl ?_ | refine OD.len rfl rfl (fun _ => lenTy_av rfl rfl) ?_ | refine OD.call rfl rfl rfl h49.eq u49 (fun _ => rfl) ?_ | refine OD.call rfl rfl rfl h16.eq u16 (fun _ => rfl) ?_ | refine OD.call rfl rfl rfl h47.eq u47 hz47 ?_ | refine OD.call rfl rfl rfl h32.eq u32 hz32 ?_) | refine OS.nil ?_ | refine WS.seq ?_ | refine QS.seqN ?_ | refine WS.region ?_ | refine WS.skip ?_ | refine WS.block ?_ | refine WS.ret ?_ | refine QS.seqR ?_ | refine WS.condN rfl (fun _ => ?_) (fun _ => ?_))
  · exact QS.retR (by rfl) fun _ => rfl
  rename_i hk
  have hbin := known_bin hk
  generalize hxs : clocksM n.ins.xs.length l0.xs (many.toNat % 21) = xs at *
  have hxi : ∀ x ∈ xs, (x.length = n.ins.xs.length ∧ le2 x = true) ∧ binL x := fun x hx => ⟨clocks_in (by rw [hxs]; exact hx), by
    rw [← hxs] at hx
    obtain ⟨t, _, rfl⟩ := List.mem_map.1 hx
    exact clock_bin _ _ _⟩
  have hnn : n.nexts.length = n.regs.xs.length := by simp [GNet.nexts]
  have hil : n.inits.length = n.nexts.length := by simp [GNet.inits, GNet.nexts]
  have hxl : xs.length ≤ 21 := by
    rw [← hxs, clocks_len]
    have := Nat.mod_lt many.toNat (show 0 < 21 by decide)
    omega
  have hgo : okG (1 + n.ins.xs.length + c.length) n.gates.xs := okG_of (by rw [hcl]; unfold GNet.first; omega) v.gates
  have hnl : ∀ l ∈ n.nexts, 0 ≤ l ∧ l < 2 * ((1 + n.ins.xs.length + c.length + n.gates.xs.length : Nat) : Int) := fun l hl => by
    obtain ⟨r, hr, rfl⟩ := List.mem_map.1 hl
    have := of_decide_eq_true (List.all_eq_true.1 v.nexts r hr)
    simp only [GNet.nodes, GNet.first] at this
    exact ⟨this.1, by omega⟩
  refine WS.range (A := List UInt8) (n := xs.length) ⟨76, _, fun a => [(11, (GSl.of a).av 1 bitAV)], fun _ => [(b1, .row 4 [netAV n])], fun _ => [], fun t a => a = nowM n.gates.xs n.nexts n.inits xs t ∧ SameIn c a ∧ binL a⟩ (n.inits) [3, 7, 74, 75] (by rfl) (by omega) (⟨rfl, hC.old, hbin⟩) (by rfl) (by (try dsimp only); repeat' (first | exact Sub.nil _ | refine Sub.cons (congrArg (fun z => some (AV.int .i64 z)) (wrap_succ (by omega))) ?_ | refine Sub.cons rfl ?_)) (by (try dsimp only); repeat' (first | exact SubO.nil _ | exact SubO.refl _ | refine SubO.keep ?_ | refine SubO.drop ?_)) (by (try dsimp only); repeat' (first | exact SubK.nil _ | exact SubK.refl _ | refine SubK.keep (by simp) ?_ | refine SubK.new ?_ | refine SubK.drop ?_)) (by rfl) (by rfl) (by rfl) (by rfl) (by rfl) (by rfl) (fun _ _ => by rfl) (fun _ => by rfl) (fun _ _ => by rfl) (fun _ _ => by rfl) ?_ ?_
  · rintro t a ht ⟨ha, hsm, hab⟩
    try dsimp only at ha hsm hab
    have hal : a.length = n.regs.xs.length := by rw [ha, now_len hil t (by omega), hnn]
    have hal' : (GSl.of a).xs.length = n.regs.xs.length := hal
    have ha2 : le2 a = true := bin_le2 hab
    have hxt := (hxi _ (List.getElem_mem ht)).1
    have hxb := (hxi _ (List.getElem_mem ht)).2
    have hxg : (GSl.of xs).xs[t]? = some xs[t] := List.getElem?_eq_getElem ht
    have hix : indexAddrA (En pr) 43 ((GSl.of xs).av 1 rowAV) (.int .i64 (t : Int)) = some (.ip [rowAV xs[t]]) := by
      have e := indexAddrA_nat (E := En pr) (t := 43) (e := 34) (y := ty43) (ey := ty34) (sz := 1) (kd := .i64) (f := rowAV) rfl rfl rfl rfl hxg
      rw [(row_okc _).2] at e
      exact e
    have u48 : ∀ st, primOf Rel48 [netAV n, rowAV xs[t], (GSl.of a).av 1 bitAV] st = some (.tup [(GSl.of (n.outs.xs.map (fun p => ofL (allB n.gates.xs xs[t] a) p.lit))).av 1 bitAV, (GSl.of (litsB n.gates.xs xs[t] a n.nexts)).av 1 bitAV, .int .i64 0], st) := fun st => by
      have e := use48 h48 hn (ins := GSl.of xs[t]) (regs := GSl.of a) (by rw [show (GSl.of xs[t]).xs = xs[t] from rfl]; omega) (by omega) st
      rw [show (GSl.of xs[t]).xs = xs[t] from rfl, show (GSl.of a).xs = a from rfl, evalR_yes hV hxt.1 hxt.2 hal ha2] at e
      exact e
    have hz48 : ∀ st, freezeA st (.tup [(GSl.of (n.outs.xs.map (fun p => ofL (allB n.gates.xs xs[t] a) p.lit))).av 1 bitAV, (GSl.of (litsB n.gates.xs xs[t] a n.nexts)).av 1 bitAV, .int .i64 0]) = some (.tup [(GSl.of (n.outs.xs.map (fun p => ofL (allB n.gates.xs xs[t] a) p.lit))).av 1 bitAV, (GSl.of (litsB n.gates.xs xs[t] a n.nexts)).av 1 bitAV, .int .i64 0], st) := fun st => freeze_free (by simp only [AV.free, AV.freeL, free_av bit_free, Bool.and_true])
    dsimp only [RSt.at, List.cons_append, List.nil_append]
    repeat' (first | (refine OS.do rfl ?_; first | refine OD.indexAddr rfl rfl rfl hix ?_ | refine OD.auto rfl rfl ?_ | refine OD.len rfl rfl (fun _ => lenTy_grow rfl rfl) ?_) | refine OS.nil ?_ | refine WS.seq ?_ | refine QS.seqN ?_ | refine WS.region ?_ | refine WS.block ?_)
    refine WS.range (A := Unit) (n := c.length) ⟨82, _, fun _ => [], fun _ => [(b1, .row 4 [netAV n])], fun _ => [], fun _ _ => True⟩ (()) [3, 7, 11, 13, 74, 75, 76, 80, 81] (by rfl) (by omega) (trivial) (by rfl) (by (try dsimp only); repeat' (first | exact Sub.nil _ | refine Sub.cons (congrArg (fun z => some (AV.int .i64 z)) (wrap_succ (by omega))) ?_ | refine Sub.cons rfl ?_)) (by (try dsimp only); repeat' (first | exact SubO.nil _ | exact SubO.refl _ | refine SubO.keep ?_ | refine SubO.drop ?_)) (by (try dsimp only); repeat' (first | exact SubK.nil _ | exact SubK.refl _ | refine SubK.keep (by simp) ?_ | refine SubK.new ?_ | refine SubK.drop ?_)) (by rfl) (by rfl) (by rfl) (by rfl) (by rfl) (by rfl) (fun _ _ => by rfl) (fun _ => by rfl) (fun _ _ => by rfl) (fun _ _ => by rfl) ?_ ?_
    · rintro i _ hi _
      obtain ⟨q1, q2⟩ := hcan i hi
      have hci : c[((i : Nat) : Int).toNat]? = some c[i] := by rw [Int.toNat_natCast]; exact List.getElem?_eq_getElem hi
      have hsi := hsm i hi
      have ec : c.getD i 0 = c[i] := by rw [List.getD_eq_getElem?_getD, List.getElem?_eq_getElem hi]; rfl
      have g1 : a.getD i 0 = (GSl.of a).xs[i]'(by omega) := by
        rw [List.getD_eq_getElem?_getD, List.getElem?_eq_getElem (by omega)]; rfl
      have g2 : a.getD c[i] 0 = (GSl.of a).xs[c[i]]'(by omega) := by
        rw [List.getD_eq_getElem?_getD, List.getElem?_eq_getElem (by omega)]; rfl
      rw [ec, g1, g2] at hsi
      dsimp only [RSt.at, List.cons_append, List.nil_append]
      repeat' (first | (refine OS.do rfl ?_; first | refine OD.indexAddr rfl rfl rfl (indexAddrA_grow rfl rfl rfl rfl (by omega) hci) ?_ | refine OD.auto rfl rfl ?_ | refine OD.indexAddr rfl rfl rfl (indexAddrA_nat rfl rfl rfl rfl (by first | assumption | exact List.getElem?_eq_getElem (by omega))) ?_) | refine OS.nil ?_ | refine WS.seq ?_ | refine QS.seqN ?_ | refine WS.region ?_ | refine WS.skip ?_ | refine WS.ret ?_ | refine QS.seqR ?_ | refine WS.draw rfl rfl ?_ | refine QS.rangeR ?_ | refine WS.condNe rfl (fun _ => ?_) (fun _ => ?_))
      · rename_i h2
        exact (h2 (by rw [hsi])).elim
      · refine QS.rangeN (()) (by (try dsimp only) <;> exact (trivial)) (by (try dsimp only [RSt.at, List.cons_append, List.nil_append]); repeat' (first | exact Sub.nil _ | refine Sub.cons (congrArg (fun z => some (AV.int .i64 z)) (wrap_succ (by omega))) ?_ | refine Sub.cons rfl ?_)) (by (try dsimp only); repeat' (first | exact SubO.nil _ | exact SubO.refl _ | refine SubO.keep ?_ | refine SubO.drop ?_)) (by (try dsimp only); repeat' (first | exact SubK.nil _ | exact SubK.refl _ | refine SubK.keep (by simp) ?_ | refine SubK.new ?_ | refine SubK.drop ?_))
    · rintro _ _
      dsimp only [RSt.at, List.cons_append, List.nil_append]
      repeat' (first | (refine OS.do rfl ?_; first | refine OD.loadP 0 rfl rfl rfl rfl rfl rfl ?_ | refine OD.auto rfl rfl ?_ | refine OD.call rfl rfl rfl h48.eq u48 hz48 ?_) | refine OS.nil ?_ | refine QS.seqN ?_ | refine WS.region ?_)
      refine QS.rangeN (litsB n.gates.xs xs[t] a n.nexts) (by (try dsimp only) <;> exact (⟨by rw [nowM_succ ht, ← ha], same_step (by omega) hC.canon hc.2 hxt.1 (by omega) hxb hab hgo hnl hsm, lits_bin hxb hab⟩)) (by (try dsimp only [RSt.at, List.cons_append, List.nil_append]); repeat' (first | exact Sub.nil _ | refine Sub.cons (congrArg (fun z => some (AV.int .i64 z)) (wrap_succ (by omega))) ?_ | refine Sub.cons rfl ?_)) (by (try dsimp only); repeat' (first | exact SubO.nil _ | exact SubO.refl _ | refine SubO.keep ?_ | refine SubO.drop ?_)) (by (try dsimp only); repeat' (first | exact SubK.nil _ | exact SubK.refl _ | refine SubK.keep (by simp) ?_ | refine SubK.new ?_ | refine SubK.drop ?_))
  · rintro a _
    dsimp only [RSt.at, List.cons_append, List.nil_append]
    repeat' (first | (refine OS.do rfl ?_; first | refine OD.auto rfl rfl ?_ | refine OD.call rfl rfl rfl h16.eq u16 (fun _ => rfl) ?_) | refine OS.nil ?_ | refine WS.seq ?_ | refine QS.seqN ?_ | refine WS.region ?_ | refine WS.ret ?_)
    exact QS.retR (by rfl) fun _ => rfl
end
end Go.OptEnv

/- The law OptTwins, at the model. -/
namespace Go.OptEnv
open Go Go.Proofs Go.Abs Go.RowKit Go.NetM
set_option maxRecDepth 10000
theorem cc49 : Con2 (En cp32) 49 Rel49 := con49 rfl
noncomputable def cp33 : Prims := addP cp32 49 (primOf Rel49)
theorem cg33 : Good cp33 := cg32.add cc49 (hent Tryz.func49)
theorem cc112 : Con2 (En cp33) 112 Rel112 := con112 rfl
noncomputable def cp34 : Prims := addP cp33 112 (primOf Rel112)
theorem cg34 : Good cp34 := cg33.add cc112 (hent Tryz.func112)
theorem cc67 : Con2 (En cp34) 67 Rel67 := con67 rfl
noncomputable def cp35 : Prims := addP cp34 67 (primOf Rel67)
theorem cg35 : Good cp35 := cg34.add cc67 (hent Tryz.func67)
theorem twins_calls (w : World) (n : GNet) (hn : FitsN n) (l0 : GSl UInt8) (hl0 : l0.xs.length ≤ 140737488355328) (many : UInt8) (v0 v1 v2 : Value) (h0 : R (Ghost.all w) (netAV n) v0) (h1 : R (Ghost.all w) (l0.av 1 bitAV) v1) (h2 : R (Ghost.all w) (.int .u8 (many.toNat : Int)) v2) :
    Calls Tryz.prog 12 #[v0, v1, v2] w fun e w' => e = .returned (.bool true) ∧ Below w.heap.size w w' := by
  obtain ⟨n', x, st', h, hx⟩ := run12 (pr := cp35) rfl (Has.of cc15 rfl) (Has.of con16 rfl) (Has.of cc31 rfl) (Has.of cc32 rfl) (Has.of cc47 rfl) (Has.of cc48 rfl) (Has.of cc49 rfl) rfl (Has.of cc57 rfl) rfl rfl rfl (Has.of cc112 rfl) (Has.of cc67 rfl) rfl rfl rfl rfl rfl n hn l0 hl0 many St.empty
  refine ((callF_sound (En_ok cp35) (cg35.ok w.heap.size w) n' 12 _ St.empty x st' h).2 (Ghost.all w) w #[v0, v1, v2] (Inv.all w) (RL.cons h0 (RL.cons h1 (RL.cons h2 (RL.nil _))))).mono ?_
  rintro e w' ⟨u, Γ, rfl, out, hu⟩
  subst hx
  simp only [R] at hu
  subst hu
  exact ⟨rfl, out.inv.below⟩
end Go.OptEnv

/- A net, two rows of bits and a byte, read. -/
namespace Go.OptEnv
open Go Go.Proofs Go.Abs Go.RowKit
set_option maxRecDepth 10000
theorem reach_le : reachBytes ≤ 140737488355328 := by decide
theorem fit_wf {k : Int} (h : (Lit.int .i64 k).wf = true) : Fit64 k := by
  simp [Lit.wf, IntKind.min, IntKind.max, IntKind.signed, IntKind.bits] at h
  exact ⟨by omega, by omega⟩
section
variable {H : Type} {enc : TypeId × Value → H} {w : World} {base : Nat} {spare : Nat → Bool} {held : Bool} {fuel n : Nat} {cs : List Value} {x : DataW H × List MemPlace}
theorem array_read {t e : TypeId} {k : Nat} (ht : Tryz.prog.underlying t = some (.array k e)) (h : DataW.trod enc Tryz.prog w base spare held fuel t cs = some x) :
    ∃ (xs : List (DataW H × List MemPlace)) (m : Nat), fuel = m + 1 ∧ x = (.agg (xs.map (·.1)), xs.flatMap (·.2)) ∧ cs.length = Tryz.prog.cellsOf t ∧ xs.length = k ∧
      ∀ (i : Nat), i < k → DataW.trod enc Tryz.prog w base spare held m e ((cs.drop (i * Tryz.prog.cellsOf e)).take (Tryz.prog.cellsOf e)) = xs[i]? := by
  cases fuel with
  | zero => simp [DataW.trod] at h
  | succ m =>
    unfold DataW.trod at h
    rw [ht] at h
    split at h <;> simp_all
    obtain ⟨hl, xs, hp, hd⟩ := h
    exact ⟨xs, hd.symm, by simpa using mapM_some_length hp, fun i hi => mapM_some_get hp i i (by simp [hi])⟩
theorem int_read (h : DataW.trod enc Tryz.prog w base spare held n 3 cs = some x) : ∃ k : Int, cs = [.int .i64 k] ∧ Fit64 k := by
  obtain ⟨k, rfl, _, hw⟩ := DataW.trod_int Tryz.underlying3 h
  exact ⟨k, rfl, fit_wf hw⟩
theorem u8_wf {k : Int} (hw : (Lit.int .u8 k).wf = true) : ∃ b : UInt8, k = b.toNat := by
  have hb : 0 ≤ k ∧ k < 256 := by
    simp [Lit.wf, IntKind.min, IntKind.max, IntKind.signed, IntKind.bits] at hw
    omega
  refine ⟨UInt8.ofNat k.toNat, ?_⟩
  have : (UInt8.ofNat k.toNat).toNat = k.toNat := by
    rw [UInt8.toNat_ofNat']
    omega
  rw [this, Int.toNat_of_nonneg hb.1]
theorem bit_read (h : DataW.trod enc Tryz.prog w base spare held n 63 cs = some x) : ∃ b : UInt8, cs = [.int .u8 b.toNat] := by
  obtain ⟨k, rfl, _, hw⟩ := DataW.trod_int Tryz.underlying63 h
  obtain ⟨b, rfl⟩ := u8_wf hw
  exact ⟨b, rfl⟩
theorem byte_read (h : DataW.trod enc Tryz.prog w base spare held n 5 cs = some x) : ∃ b : UInt8, cs = [.int .u8 b.toNat] := by
  obtain ⟨k, rfl, _, hw⟩ := DataW.trod_int Tryz.underlying5 h
  obtain ⟨b, rfl⟩ := u8_wf hw
  exact ⟨b, rfl⟩
theorem c9 : Tryz.prog.cellsOf 9 = 1 := by kernel_rfl
theorem c3 : Tryz.prog.cellsOf 3 = 1 := by kernel_rfl
theorem c63 : Tryz.prog.cellsOf 63 = 1 := by kernel_rfl
theorem c22 : Tryz.prog.cellsOf 22 = 1 := by kernel_rfl
theorem c23 : Tryz.prog.cellsOf 23 = 1 := by kernel_rfl
theorem c24 : Tryz.prog.cellsOf 24 = 1 := by kernel_rfl
theorem c25 : Tryz.prog.cellsOf 25 = 1 := by kernel_rfl
theorem c41 : Tryz.prog.cellsOf 41 = 1 := by kernel_rfl
theorem c42 : Tryz.prog.cellsOf 42 = 2 := by kernel_rfl
theorem c68 : Tryz.prog.cellsOf 68 = 3 := by kernel_rfl
theorem c55 : Tryz.prog.cellsOf 55 = 2 := by kernel_rfl
theorem c53 : Tryz.prog.cellsOf 53 = 2 := by kernel_rfl
theorem c27 : Tryz.prog.cellsOf 27 = 4 := by kernel_rfl
theorem fldW {fs : Array Field} {m : Nat} {xs : List (DataW H × List MemPlace)} (hf : ∀ (i : Nat) (f : Field), fs[i]? = some f → DataW.trod enc Tryz.prog w base spare held m f.type ((cs.drop f.offset).take (Tryz.prog.cellsOf f.type)) = xs[i]?) (hx : xs.length = fs.size)
    (i : Nat) {f : Field} (hi : fs[i]? = some f) {k off : Nat} {t : TypeId} {l : List Value} (ht : f.type = t) (ho : f.offset = off) (hk : Tryz.prog.cellsOf t = k) (hl : (cs.drop off).take k = l) : ∃ y, DataW.trod enc Tryz.prog w base spare held m t l = some y ∧ xs[i]? = some y := by
  have h := hf i f hi
  subst ht; subst ho; subst hk; subst hl
  have hlt : i < xs.length := by rw [hx]; exact (Array.getElem?_eq_some_iff.1 hi).1
  rw [List.getElem?_eq_getElem hlt] at h ⊢
  exact ⟨_, h, rfl⟩
theorem elmW {e : TypeId} {k m : Nat} {xs : List (DataW H × List MemPlace)} (hf : ∀ (i : Nat), i < k → DataW.trod enc Tryz.prog w base spare held m e ((cs.drop (i * Tryz.prog.cellsOf e)).take (Tryz.prog.cellsOf e)) = xs[i]?) (hx : xs.length = k)
    (i : Nat) (hi : i < k) {c : Nat} {l : List Value} (hk : Tryz.prog.cellsOf e = c) (hl : (cs.drop (i * c)).take c = l) : ∃ y, DataW.trod enc Tryz.prog w base spare held m e l = some y ∧ xs[i]? = some y := by
  have h := hf i hi
  subst hk; subst hl
  have hlt : i < xs.length := by omega
  rw [List.getElem?_eq_getElem hlt] at h ⊢
  exact ⟨_, h, rfl⟩
theorem weigh_elem {t e : TypeId} {k : Nat} {xs : List (DataW H × List MemPlace)} (ht : Tryz.prog.underlying t = some (.array k e)) (hw : ∀ m ∈ (DataW.agg (xs.map (·.1))).weights Tryz.prog t, m ≤ reachBytes) {i : Nat} {y : DataW H × List MemPlace} (hy : xs[i]? = some y) : ∀ m ∈ y.1.weights Tryz.prog e, m ≤ reachBytes := by
  intro m hm
  refine hw m ?_
  simp only [DataW.weights, ht]
  have : y ∈ xs := List.mem_of_getElem? hy
  exact weights_all (List.mem_map_of_mem (f := fun q : DataW H × List MemPlace => q.1) this) m hm
theorem str_read (h : DataW.trod enc Tryz.prog w base spare held n 9 cs = some x) (hw : ∀ m ∈ x.1.weights Tryz.prog 9, m ≤ reachBytes) : ∃ s : ByteArray, cs = [.string s] ∧ s.size ≤ 140737488355328 := by
  obtain ⟨s, rfl, e, hs⟩ := DataW.trod_string Tryz.underlying9 h
  have := weigh_string (t := 9) (P := Tryz.prog) (d := x.1) (by rw [e]) hw
  have hk := reach_le
  exact ⟨s, rfl, by omega⟩
theorem bytes_read (h : DataW.trod enc Tryz.prog w base spare held n 41 cs = some x) (hw : ∀ m ∈ x.1.weights Tryz.prog 41, m ≤ reachBytes) : ∃ s : GSl UInt8, (∃ v, cs = [v] ∧ R (Ghost.all w) (s.av 1 bitAV) v) ∧ s.xs.length ≤ 140737488355328 := by
  obtain ⟨s, h1, _, h3⟩ := slice_readV bitAV 1 (fun _ => True) (by decide) Tryz.underlying41 (by kernel_rfl) (of_decide_eq_true (by kernel_rfl)) hw (fun n cs y hy _ => by
    obtain ⟨b, rfl⟩ := byte_read hy
    exact ⟨b, trivial, rfl, .int .u8 b.toNat, rfl, by simp only [bitAV, R]⟩) h
  have hk := reach_le
  exact ⟨s, h1, by omega⟩
theorem two_read (h : DataW.trod enc Tryz.prog w base spare held n 42 cs = some x) (hw : ∀ m ∈ x.1.weights Tryz.prog 42, m ≤ reachBytes) : ∃ a b : GSl UInt8, (a.xs.length ≤ 140737488355328 ∧ b.xs.length ≤ 140737488355328) ∧ R (Ghost.all w) (twoAV a b) (.agg cs.toArray) := by
  obtain ⟨xs, m, rfl, rfl, hl, hx, hf⟩ := array_read Tryz.underlying42 h
  rw [c42] at hl
  rcases cs with _ | ⟨a, _ | ⟨b, _ | ⟨c, l⟩⟩⟩ <;> simp at hl
  obtain ⟨y0, f0, z0⟩ := elmW hf hx 0 (by omega) c41 (l := [a]) rfl
  obtain ⟨y1, f1, z1⟩ := elmW hf hx 1 (by omega) c41 (l := [b]) rfl
  obtain ⟨q0, ⟨v0, e0, r0⟩, n0⟩ := bytes_read f0 (weigh_elem Tryz.underlying42 hw z0)
  obtain ⟨q1, ⟨v1, e1, r1⟩, n1⟩ := bytes_read f1 (weigh_elem Tryz.underlying42 hw z1)
  simp only [List.cons.injEq, and_true] at e0 e1
  subst e0; subst e1
  refine ⟨q0, q1, ⟨n0, n1⟩, ?_⟩
  simp only [twoAV, R]
  exact ⟨_, rfl, RL.cons r0 (RL.cons r1 (RL.nil _))⟩
theorem reg_read (h : DataW.trod enc Tryz.prog w base spare held n 68 cs = some x) (hw : ∀ m ∈ x.1.weights Tryz.prog 68, m ≤ reachBytes) : ∃ l : GReg, (l.name.size ≤ 140737488355328 ∧ Fit64 l.next) ∧ ∃ v : Value, v.cells.toList = cs ∧ R (Ghost.all w) (regAV l) v := by
  obtain ⟨xs, m, rfl, rfl, hl, hx, hf⟩ := DataW.trod_struct Tryz.underlying68 h
  rw [c68] at hl
  rcases cs with _ | ⟨a, _ | ⟨b, _ | ⟨c, _ | ⟨d, l⟩⟩⟩⟩ <;> simp at hl
  obtain ⟨y0, f0, z0⟩ := fldW hf hx 0 rfl rfl rfl c9 (l := [a]) rfl
  obtain ⟨y1, f1, z1⟩ := fldW hf hx 1 rfl rfl rfl c63 (l := [b]) rfl
  obtain ⟨y2, f2, z2⟩ := fldW hf hx 2 rfl rfl rfl c3 (l := [c]) rfl
  obtain ⟨s, e0, hs⟩ := str_read f0 (weigh_field Tryz.underlying68 hw (i := 0) rfl z0)
  obtain ⟨q, e1⟩ := bit_read f1
  obtain ⟨k2, e2, hk2⟩ := int_read f2
  simp only [List.cons.injEq, and_true] at e0 e1 e2
  subst e0; subst e1; subst e2
  refine ⟨⟨s, q, k2⟩, ⟨hs, hk2⟩, .agg #[.string s, .int .u8 q.toNat, .int .i64 k2], rfl, ?_⟩
  simp only [regAV, R]
  exact ⟨_, rfl, RL.cons (by simp only [R]) (RL.cons (by simp only [bitAV, R]) (RL.cons (by simp only [R]) (RL.nil _)))⟩
theorem pin_read (h : DataW.trod enc Tryz.prog w base spare held n 55 cs = some x) (hw : ∀ m ∈ x.1.weights Tryz.prog 55, m ≤ reachBytes) : ∃ l : GPin, (l.name.size ≤ 140737488355328 ∧ Fit64 l.lit) ∧ ∃ v : Value, v.cells.toList = cs ∧ R (Ghost.all w) (pinAV l) v := by
  obtain ⟨xs, m, rfl, rfl, hl, hx, hf⟩ := DataW.trod_struct Tryz.underlying55 h
  rw [c55] at hl
  rcases cs with _ | ⟨a, _ | ⟨b, _ | ⟨c, l⟩⟩⟩ <;> simp at hl
  obtain ⟨y0, f0, z0⟩ := fldW hf hx 0 rfl rfl rfl c9 (l := [a]) rfl
  obtain ⟨y1, f1, z1⟩ := fldW hf hx 1 rfl rfl rfl c3 (l := [b]) rfl
  obtain ⟨s, e0, hs⟩ := str_read f0 (weigh_field Tryz.underlying55 hw (i := 0) rfl z0)
  obtain ⟨k1, e1, hk1⟩ := int_read f1
  simp only [List.cons.injEq, and_true] at e0 e1
  subst e0; subst e1
  refine ⟨⟨s, k1⟩, ⟨hs, hk1⟩, .agg #[.string s, .int .i64 k1], rfl, ?_⟩
  simp only [pinAV, R]
  exact ⟨_, rfl, RL.cons (by simp only [R]) (RL.cons (by simp only [R]) (RL.nil _))⟩
theorem gate_read (h : DataW.trod enc Tryz.prog w base spare held n 53 cs = some x) : ∃ g : Int × Int, (Fit64 g.1 ∧ Fit64 g.2) ∧ ∃ v : Value, v.cells.toList = cs ∧ R (Ghost.all w) (gateAV g) v := by
  obtain ⟨xs, m, rfl, rfl, hl, hx, hf⟩ := array_read Tryz.underlying53 h
  rw [c53] at hl
  rcases cs with _ | ⟨a, _ | ⟨b, _ | ⟨c, l⟩⟩⟩ <;> simp at hl
  obtain ⟨y0, f0, _⟩ := elmW hf hx 0 (by omega) c3 (l := [a]) rfl
  obtain ⟨y1, f1, _⟩ := elmW hf hx 1 (by omega) c3 (l := [b]) rfl
  obtain ⟨k0, e0, hk0⟩ := int_read f0
  obtain ⟨k1, e1, hk1⟩ := int_read f1
  simp only [List.cons.injEq, and_true] at e0 e1
  subst e0; subst e1
  refine ⟨(k0, k1), ⟨hk0, hk1⟩, .agg #[.int .i64 k0, .int .i64 k1], rfl, ?_⟩
  simp only [gateAV, R]
  exact ⟨_, rfl, RL.cons (by simp only [R]) (RL.cons (by simp only [R]) (RL.nil _))⟩
theorem strs_read (h : DataW.trod enc Tryz.prog w base spare held n 22 cs = some x) (hw : ∀ m ∈ x.1.weights Tryz.prog 22, m ≤ reachBytes) : ∃ s : GSl ByteArray, (∃ v, cs = [v] ∧ R (Ghost.all w) (s.av 1 strAV) v) ∧ (∀ a ∈ s.xs, a.size ≤ 140737488355328) ∧ s.xs.length ≤ reachBytes :=
  slice_readV strAV 1 (fun a => a.size ≤ 140737488355328) (by decide) Tryz.underlying22 c9 (of_decide_eq_true (by kernel_rfl)) hw (fun n cs y hy hwy => by
    obtain ⟨s, rfl, hs⟩ := str_read hy hwy
    exact ⟨s, hs, rfl, .string s, rfl, by simp only [strAV, R]⟩) h
theorem regs_read (h : DataW.trod enc Tryz.prog w base spare held n 23 cs = some x) (hw : ∀ m ∈ x.1.weights Tryz.prog 23, m ≤ reachBytes) : ∃ s : GSl GReg, (∃ v, cs = [v] ∧ R (Ghost.all w) (s.av 3 regAV) v) ∧ (∀ a ∈ s.xs, a.name.size ≤ 140737488355328 ∧ Fit64 a.next) ∧ s.xs.length ≤ reachBytes :=
  slice_readV regAV 3 (fun a => a.name.size ≤ 140737488355328 ∧ Fit64 a.next) (by decide) Tryz.underlying23 c68 (of_decide_eq_true (by kernel_rfl)) hw (fun n cs y hy hwy => by
    obtain ⟨l, h1, h2⟩ := reg_read hy hwy
    exact ⟨l, h1, rfl, h2⟩) h
theorem gates_read (h : DataW.trod enc Tryz.prog w base spare held n 24 cs = some x) (hw : ∀ m ∈ x.1.weights Tryz.prog 24, m ≤ reachBytes) : ∃ s : GSl (Int × Int), (∃ v, cs = [v] ∧ R (Ghost.all w) (s.av 2 gateAV) v) ∧ (∀ a ∈ s.xs, Fit64 a.1 ∧ Fit64 a.2) ∧ s.xs.length ≤ reachBytes :=
  slice_readV gateAV 2 (fun a => Fit64 a.1 ∧ Fit64 a.2) (by decide) Tryz.underlying24 c53 (of_decide_eq_true (by kernel_rfl)) hw (fun n cs y hy hwy => by
    obtain ⟨l, h1, h2⟩ := gate_read hy
    exact ⟨l, h1, rfl, h2⟩) h
theorem pins_read (h : DataW.trod enc Tryz.prog w base spare held n 25 cs = some x) (hw : ∀ m ∈ x.1.weights Tryz.prog 25, m ≤ reachBytes) : ∃ s : GSl GPin, (∃ v, cs = [v] ∧ R (Ghost.all w) (s.av 2 pinAV) v) ∧ (∀ a ∈ s.xs, a.name.size ≤ 140737488355328 ∧ Fit64 a.lit) ∧ s.xs.length ≤ reachBytes :=
  slice_readV pinAV 2 (fun a => a.name.size ≤ 140737488355328 ∧ Fit64 a.lit) (by decide) Tryz.underlying25 c55 (of_decide_eq_true (by kernel_rfl)) hw (fun n cs y hy hwy => by
    obtain ⟨l, h1, h2⟩ := pin_read hy hwy
    exact ⟨l, h1, rfl, h2⟩) h
theorem net_read (h : DataW.trod enc Tryz.prog w base spare held n 27 cs = some x) (hw : ∀ m ∈ x.1.weights Tryz.prog 27, m ≤ reachBytes) : ∃ r : GNet, FitsN r ∧ R (Ghost.all w) (netAV r) (.agg cs.toArray) := by
  obtain ⟨xs, m, rfl, rfl, hl, hx, hf⟩ := DataW.trod_struct Tryz.underlying27 h
  rw [c27] at hl
  rcases cs with _ | ⟨a, _ | ⟨b, _ | ⟨c, _ | ⟨d, _ | ⟨e, l⟩⟩⟩⟩⟩ <;> simp at hl
  obtain ⟨y0, f0, z0⟩ := fldW hf hx 0 rfl rfl rfl c22 (l := [a]) rfl
  obtain ⟨y1, f1, z1⟩ := fldW hf hx 1 rfl rfl rfl c23 (l := [b]) rfl
  obtain ⟨y2, f2, z2⟩ := fldW hf hx 2 rfl rfl rfl c24 (l := [c]) rfl
  obtain ⟨y3, f3, z3⟩ := fldW hf hx 3 rfl rfl rfl c25 (l := [d]) rfl
  obtain ⟨q0, ⟨v0, e0, r0⟩, g0, n0⟩ := strs_read f0 (weigh_field Tryz.underlying27 hw (i := 0) rfl z0)
  obtain ⟨q1, ⟨v1, e1, r1⟩, g1, n1⟩ := regs_read f1 (weigh_field Tryz.underlying27 hw (i := 1) rfl z1)
  obtain ⟨q2, ⟨v2, e2, r2⟩, g2, n2⟩ := gates_read f2 (weigh_field Tryz.underlying27 hw (i := 2) rfl z2)
  obtain ⟨q3, ⟨v3, e3, r3⟩, g3, n3⟩ := pins_read f3 (weigh_field Tryz.underlying27 hw (i := 3) rfl z3)
  simp only [List.cons.injEq, and_true] at e0 e1 e2 e3
  subst e0; subst e1; subst e2; subst e3
  have hk := reach_le
  refine ⟨⟨q0, q1, q2, q3⟩, ⟨Nat.le_trans n0 hk, Nat.le_trans n1 hk, Nat.le_trans n2 hk, Nat.le_trans n3 hk, g0, fun x hx => (g1 x hx).1, fun x hx => (g3 x hx).1, g2, fun x hx => (g1 x hx).2, fun x hx => (g3 x hx).2⟩, ?_⟩
  simp only [netAV, R]
  exact ⟨_, rfl, RL.cons r0 (RL.cons r1 (RL.cons r2 (RL.cons r3 (RL.nil _))))⟩
end
end Go.OptEnv
