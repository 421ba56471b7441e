/- Own text of this claim: part 11 of an interpreter that is proved sound against the model, and of what it shows of the law. -/
import Derived.Test.YthomnnnhkfjbdaaGreatAbs10
/- Regions that draw their order, where what was known stays known: the state may grow. -/
namespace Go.Abs
open Go.RowKit
section
variable {E : Env} {fid N : Nat} {l : List (Nat × AV)} {L X : List (Nat × AObj)} {K : List (Nat × Bool)} {Q : AExit → TM → St → Prop}
variable {c : Bool} {pol : Nat → Nat} {ops : Array Oper} {o : Oper} {r : List Oper} {i : Nat} {d : Nat} {ty : TypeId} {pos : String} {after : Array Edge} {guard : Option (Nat × Bool)}
/-- Operations one behind the other: L and K stay known all along, X is new; then k. -/
def SegT (E : Env) (ops : Array Oper) (N : Nat) (L : List (Nat × AObj)) (K : List (Nat × Bool)) (pol : Nat → Nat) (r : List Oper) (i : Nat) (l : List (Nat × AV)) (X : List (Nat × AObj)) (k : List (Nat × AV) → List (Nat × AObj) → Prop) : Prop :=
  ∀ (tm : TM) (s0 : St) (pre : Pre), Fa N l (X ++ L) K tm s0 → (∀ b, pre = some b → hasAlloc ops = false ∧ b.2 = false) → ∃ n tr tm' s1 l' X', runOpsT E (callF E n) pre pol ops r i tm s0 = some (tr, tm', s1) ∧ Fa N l' (X' ++ L) K tm' s1 ∧ k l' X' ∧
    ∀ (k : Nat) (t : Tr) (o : Oper), tr[k]? = some t → r[k]? = some o → SFa L K t.was ∧ SFa L K t.now ∧ (t.did = true → isLoud o.op = false → ∀ s, SFa L K s → quiet E t.tm s o = some t.v)
theorem Fa.base {tm : TM} {st : St} (h : Fa N l (X ++ L) K tm st) : Fa N l L K tm st :=
  h.sub (fun _ _ h => h) ⟨fun k => X.length + k, fun k p hk => by show (X ++ L)[X.length + k]? = _; rw [List.getElem?_append_right (by omega), Nat.add_sub_cancel_left]; exact hk, fun _ _ _ _ h => by have h : X.length + _ = X.length + _ := h; omega⟩ (.refl _)
theorem SegT.nil {k : List (Nat × AV) → List (Nat × AObj) → Prop} (h : k l X) : SegT E ops N L K pol [] i l X k := fun tm s0 pre hF _ => ⟨0, [], tm, s0, l, X, rfl, hF, h, fun k t o ht => by simp at ht⟩
theorem SegT.quiet {k : List (Nat × AV) → List (Nat × AObj) → Prop} {v : AV} (hw : wantS ops l o = some true) (hd : o.dst = some d) (hn : Nat.blt d N = true) (hl : isLoud o.op = false) (hq : ∀ tm st, Fa N l L K tm st → Abs.quiet E tm st o = some v) (h : SegT E ops N L K pol r (i + 1) ((d, v) :: l) X k) : SegT E ops N L K pol (o :: r) i l X k := by
  intro tm s0 pre hF hp
  obtain ⟨n, tr, tm', s1, l', X', h1, h2, h3, h4⟩ := h (tm.put d v) s0 pre (hF.put hn v) hp
  refine ⟨n, ⟨tm, s0, s0, v, true⟩ :: tr, tm', s1, l', X', ?_, h2, h3, fun k t o' ht ho => ?_⟩
  · simp only [runOpsT]
    rw [hF.want hw]
    dsimp only
    rw [stepPre_quiet hl (hq tm s0 hF.base), hd]
    dsimp only [putO]
    rw [h1]
  · cases k with
    | zero =>
      simp only [List.getElem?_cons_zero, Option.some.injEq] at ht ho
      subst ht; subst ho
      exact ⟨hF.base.s, hF.base.s, fun _ _ s hs => hq tm s (hF.base.withS hs)⟩
    | succ k =>
      simp only [List.getElem?_cons_succ] at ht ho
      exact h4 k t o' ht ho
theorem SegT.skip {k : List (Nat × AV) → List (Nat × AObj) → Prop} (hw : wantS ops l o = some false) (hd : o.dst = some d) (hn : Nat.blt d N = true) (h : SegT E ops N L K pol r (i + 1) ((d, .tup []) :: l) X k) : SegT E ops N L K pol (o :: r) i l X k := by
  intro tm s0 pre hF hp
  obtain ⟨n, tr, tm', s1, l', X', h1, h2, h3, h4⟩ := h (tm.put d (.tup [])) s0 pre (hF.put hn _) hp
  refine ⟨n, ⟨tm, s0, s0, .tup [], false⟩ :: tr, tm', s1, l', X', ?_, h2, h3, fun k t o' ht ho => ?_⟩
  · simp only [runOpsT]
    rw [hF.want hw]
    dsimp only
    rw [hd]
    dsimp only [putO]
    rw [h1]
  · cases k with
    | zero =>
      simp only [List.getElem?_cons_zero, Option.some.injEq] at ht ho
      subst ht; subst ho
      exact ⟨hF.base.s, hF.base.s, fun h => by cases h⟩
    | succ k =>
      simp only [List.getElem?_cons_succ] at ht ho
      exact h4 k t o' ht ho
/-- What turns the state, but for what is known. -/
theorem SegT.loud {k : List (Nat × AV) → List (Nat × AObj) → Prop} (hw : wantS ops l o = some true) (hd : o.dst = some d) (hn : Nat.blt d N = true) (hl : isLoud o.op = true) (hf : isFnCall o.op = false) (hal : ∀ t, o.op ≠ .alloc t)
    (hq : ∀ tm st, Fa N l (X ++ L) K tm st → ∃ v st' X', Abs.loud E noCall (pol i) tm st o = some (v, st') ∧ Fa N l (X' ++ L) K tm st' ∧ SegT E ops N L K pol r (i + 1) ((d, v) :: l) X' k) : SegT E ops N L K pol (o :: r) i l X k := by
  intro tm s0 pre hF hp
  obtain ⟨v, st', X1, q1, q2, q3⟩ := hq tm s0 hF
  obtain ⟨n, tr, tm', s1, l', X', h1, h2, h3, h4⟩ := q3 (tm.put d v) st' pre (q2.put hn v) hp
  refine ⟨n, ⟨tm, s0, st', v, true⟩ :: tr, tm', s1, l', X', ?_, h2, h3, fun k t o' ht ho => ?_⟩
  · have hs' : stepPre E (callF E n) pre (pol i) i tm s0 o = some (v, st') := stepPre_loud (fun b hb => ⟨(hp b hb).2, hal⟩) hl hf q1
    simp only [runOpsT]
    rw [hF.want hw]
    dsimp only
    rw [hs', hd]
    dsimp only [putO]
    rw [h1]
  · cases k with
    | zero =>
      simp only [List.getElem?_cons_zero, Option.some.injEq] at ht ho
      subst ht; subst ho
      exact ⟨hF.base.s, q2.base.s, fun _ h => by rw [hl] at h; cases h⟩
    | succ k =>
      simp only [List.getElem?_cons_succ] at ht ho
      exact h4 k t o' ht ho
theorem SegT.auto {k : List (Nat × AV) → List (Nat × AObj) → Prop} {op : Op} {v : AV} (hw : wantS ops l { dst := some d, op := op, type := ty, pos := pos, after := after, guard := guard } = some true) (hn : Nat.blt d N = true) (hl : isLoud op = false) (h : quietS E l op = some v) (k1 : SegT E ops N L K pol r (i + 1) ((d, v) :: l) X k) : SegT E ops N L K pol ({ dst := some d, op := op, type := ty, pos := pos, after := after, guard := guard } :: r) i l X k :=
  .quiet hw rfl hn hl (fun _ _ hF => quietS_sound h hF) k1
theorem SegT.indexAddr {k : List (Nat × AV) → List (Nat × AObj) → Prop} {t : TypeId} {x y : Operand} {a b v : AV} (hw : wantS ops l { dst := some d, op := .indexAddr t x y, type := ty, pos := pos, after := after, guard := guard } = some true) (hn : Nat.blt d N = true) (hx : evL l x = some a) (hy : evL l y = some b) (h : indexAddrA E t a b = some v) (k1 : SegT E ops N L K pol r (i + 1) ((d, v) :: l) X k) :
    SegT E ops N L K pol ({ dst := some d, op := .indexAddr t x y, type := ty, pos := pos, after := after, guard := guard } :: r) i l X k :=
  .quiet hw rfl hn rfl (fun _ _ hF => quiet_indexAddr hx hy h hF) k1
theorem SegT.loadP {k : List (Nat × AV) → List (Nat × AObj) → Prop} (kk : Nat) {t : TypeId} {x : Operand} {b j off sz : Nat} {xs : List AV} {e v : AV} (hw : wantS ops l { dst := some d, op := .load t x, type := ty, pos := pos, after := after, guard := guard } = some true) (hn : Nat.blt d N = true) (hx : evL l x = some (.ptr b j off)) (hL : L[kk]? = some (b, .row sz xs)) (he : xs[j]? = some e) (ho : Nat.ble off e.cells.length = true)
    (hp : partA E t (e.cells.drop off) 0 = some v) (k1 : SegT E ops N L K pol r (i + 1) ((d, v) :: l) X k) : SegT E ops N L K pol ({ dst := some d, op := .load t x, type := ty, pos := pos, after := after, guard := guard } :: r) i l X k :=
  .quiet hw rfl hn rfl (fun _ _ hF => quiet_loadP kk hx hL he ho hp hF) k1
theorem SegT.len {k : List (Nat × AV) → List (Nat × AObj) → Prop} {x : Operand} {t : TypeId} {a v : AV} (hw : wantS ops l { dst := some d, op := .call { callee := .builtin .len, args := #[x], argTypes := #[t] }, type := ty, pos := pos, after := after, guard := guard } = some true) (hn : Nat.blt d N = true) (hx : evL l x = some a) (h : ∀ st, lenTy E st t a = some v) (k1 : SegT E ops N L K pol r (i + 1) ((d, v) :: l) X k) :
    SegT E ops N L K pol ({ dst := some d, op := .call { callee := .builtin .len, args := #[x], argTypes := #[t] }, type := ty, pos := pos, after := after, guard := guard } :: r) i l X k :=
  .quiet hw rfl hn rfl (fun tm st hF => by
    show lenTy E st t (evalO tm x) = some v
    rw [hF.ev hx]; exact h st) k1
/-- append onto a literal of one's own. -/
theorem SegT.appendG {k : List (Nat × AV) → List (Nat × AObj) → Prop} {ts tx e : TypeId} {s x : Operand} {sz sz' : Nat} {xs ys : List AV} {a : AV} {tys tyx et : Ty} (hw : wantS ops l { dst := some d, op := .call { callee := .builtin .append, args := #[s, x], argTypes := #[ts, tx] }, type := ty, pos := pos, after := after, guard := guard } = some true) (hn : Nat.blt d N = true) (hpol : Nat.beq (pol i) 1 = false) (hs : evL l s = some (.vs sz .full xs)) (hx : evL l x = some a)
    (h1 : E.ty ts = some tys) (h2 : E.ty tx = some tyx) (h3 : tys.d = .slice e) (h4 : E.ty e = some et) (h5 : Nat.blt 0 et.size = true) (h6 : sz = et.size) (h7 : (tyx.d = .string ∧ isStrA a = true) ∨ ((∃ e', tyx.d = .slice e') ∧ isStrA a = false)) (h8 : ∀ st, elemsA st a = some (sz', ys)) (h9 : okElems et ys = true) (h10 : (ys.isEmpty || Nat.beq sz' et.size) = true)
    (hroom : roomA et (xs.length + ys.length) = true) (k1 : ∀ b t', SegT E ops N L K pol r (i + 1) ((d, growA b t' sz (xs ++ ys)) :: l) X k) :
    SegT E ops N L K pol ({ dst := some d, op := .call { callee := .builtin .append, args := #[s, x], argTypes := #[ts, tx] }, type := ty, pos := pos, after := after, guard := guard } :: r) i l X k := by
  subst h6
  refine .loud hw rfl hn rfl rfl (fun _ h => by cases h) fun tm st hF => ?_
  have h0 : Abs.loud E noCall (pol i) tm st { dst := some d, op := .call { callee := .builtin .append, args := #[s, x], argTypes := #[ts, tx] }, type := ty, pos := pos, after := after, guard := guard } = appendOpA E (pol i == 1) st ts tx (evalO tm s) (evalO tm x) := rfl
  have hp : (pol i == 1) = false := by
    have := Nat.ne_of_beq_eq_false hpol
    simpa using this
  rw [h0, hF.ev hs, hF.ev hx, hp, appendOp_key h1 h2 h3 h4 h5 h7 st (h8 st) h9 h10]
  cases ys with
  | nil =>
    refine ⟨growA false 0 et.size (xs ++ []), st, X, ?_, hF, k1 false 0⟩
    simp only [growA, cond_false, appendA]
    rw [if_pos ⟨trivial, hroom⟩]
    simp
  | cons y ys =>
    refine ⟨growA true st.next et.size (xs ++ y :: ys), st.newTok.ttag st.next e, X, ?_, ?_, k1 true st.next⟩
    · simp only [growA, cond_true, appendA]
      rw [if_pos ⟨trivial, hroom⟩]
      simp
    · have hF' : Fa N l (X ++ L) K tm st.newTok := by
        refine ⟨hF.n, hF.get, fun k b o hk => ⟨(hF.obj k b o hk).1, by have := (hF.obj k b o hk).2; simp; omega⟩, hF.uniq, fun k u hu => ?_, hF.uniqT⟩
        have := hF.tok k u hu
        exact ⟨by simp [this.1], by simp; omega⟩
      exact hF'.ttag _ _
/-- The same, into an object. -/
theorem SegT.appendO {k : List (Nat × AV) → List (Nat × AObj) → Prop} {ts tx e : TypeId} {s x : Operand} {sz sz' : Nat} {ys : List AV} {a : AV} {tys tyx et : Ty} (hw : wantS ops l { dst := some d, op := .call { callee := .builtin .append, args := #[s, x], argTypes := #[ts, tx] }, type := ty, pos := pos, after := after, guard := guard } = some true) (hn : Nat.blt d N = true) (hpol : Nat.beq (pol i) 1 = true) (hs : evL l s = some (.vs sz .full [])) (hx : evL l x = some a)
    (h1 : E.ty ts = some tys) (h2 : E.ty tx = some tyx) (h3 : tys.d = .slice e) (h4 : E.ty e = some et) (h5 : Nat.blt 0 et.size = true) (h6 : sz = et.size) (h7 : (tyx.d = .string ∧ isStrA a = true) ∨ ((∃ e', tyx.d = .slice e') ∧ isStrA a = false)) (h8 : ∀ st, elemsA st a = some (sz', ys)) (h9 : okElems et ys = true) (h10 : (ys.isEmpty || Nat.beq sz' et.size) = true)
    (hroom : roomA et ys.length = true) (k1 : ∀ b, SegT E ops N L K pol r (i + 1) ((d, .sl sz b 0 ys.length) :: l) ((b, .row sz ys) :: X) k) :
    SegT E ops N L K pol ({ dst := some d, op := .call { callee := .builtin .append, args := #[s, x], argTypes := #[ts, tx] }, type := ty, pos := pos, after := after, guard := guard } :: r) i l X k := by
  subst h6
  refine .loud hw rfl hn rfl rfl (fun _ h => by cases h) fun tm st hF => ?_
  have h0 : Abs.loud E noCall (pol i) tm st { dst := some d, op := .call { callee := .builtin .append, args := #[s, x], argTypes := #[ts, tx] }, type := ty, pos := pos, after := after, guard := guard } = appendOpA E (pol i == 1) st ts tx (evalO tm s) (evalO tm x) := rfl
  have hp : (pol i == 1) = true := by
    have := Nat.eq_of_beq_eq_true hpol
    simp [this]
  rw [h0, hF.ev hs, hF.ev hx, hp, appendOp_key h1 h2 h3 h4 h5 h7 st (h8 st) h9 h10]
  refine ⟨.sl et.size st.next 0 ys.length, st.new (.row et.size ys), (st.next, .row et.size ys) :: X, ?_, hF.new _, k1 st.next⟩
  simp only [appendA]
  rw [if_pos ⟨trivial, by simpa using hroom⟩]
  rfl
theorem SegT.call {k : List (Nat × AV) → List (Nat × AObj) → Prop} {f : Operand} {args : Array Operand} {argTypes : Array TypeId} {g : FuncId} {first cap vs : List AV} {p : List AV → St → Option (AV × St)} {v : AV} (hw : wantS ops l { dst := some d, op := .call { callee := .value f, args := args, argTypes := argTypes }, type := ty, pos := pos, after := after, guard := guard } = some true) (hn : Nat.blt d N = true) (hf : evL l f = some (.fn g first cap)) (ha : evLs l args.toList = some vs) (hp : E.prim g = some p) (hr : ∀ st, p (first ++ vs ++ cap) st = some (v, st)) (hz : ∀ st, freezeA st v = some (v, st))
    (k1 : SegT E ops N L K pol r (i + 1) ((d, v) :: l) X k) : SegT E ops N L K pol ({ dst := some d, op := .call { callee := .value f, args := args, argTypes := argTypes }, type := ty, pos := pos, after := after, guard := guard } :: r) i l X k := by
  intro tm s0 pre hF hpre
  obtain ⟨n, tr, tm', s1, l', X', h1, h2, h3, h4⟩ := k1 (tm.put d v) s0 pre (hF.put hn v) hpre
  have h1 := runOpsT_mono (callF_mono n (n + 1) (by omega)) _ _ _ _ h1
  refine ⟨n + 1, ⟨tm, s0, s0, v, true⟩ :: tr, tm', s1, l', X', ?_, h2, h3, fun k t o' ht ho => ?_⟩
  · have hl : Abs.loud E (callF E (n + 1)) (pol i) tm s0 { dst := some d, op := .call { callee := .value f, args := args, argTypes := argTypes }, type := ty, pos := pos, after := after, guard := guard } = some (v, s0) := by
      have : Abs.loud E (callF E (n + 1)) (pol i) tm s0 { dst := some d, op := .call { callee := .value f, args := args, argTypes := argTypes }, type := ty, pos := pos, after := after, guard := guard } = (match evalO tm f with | .fn g first cap => callF E (n + 1) g (first ++ args.toList.map (evalO tm) ++ cap) s0 | _ => none) := rfl
      rw [this, hF.ev hf, hF.evs ha]
      simp only [callF, hp]
      exact hr s0
    have hst : stepPre E (callF E (n + 1)) pre (pol i) i tm s0 { dst := some d, op := .call { callee := .value f, args := args, argTypes := argTypes }, type := ty, pos := pos, after := after, guard := guard } = some (v, s0) := by
      simp only [stepPre, stepOp, isLoud, if_true, hl, isFnCall, Bool.and_true, decide_eq_true_eq]
      split
      · exact hz s0
      · rfl
    simp only [runOpsT]
    rw [hF.want hw]
    dsimp only
    rw [hst]
    dsimp only [putO]
    rw [h1]
  · cases k with
    | zero =>
      simp only [List.getElem?_cons_zero, Option.some.injEq] at ht ho
      subst ht; subst ho
      exact ⟨hF.base.s, hF.base.s, fun _ h => by simp [isLoud] at h⟩
    | succ k =>
      simp only [List.getElem?_cons_succ] at ht ho
      exact h4 k t o' ht ho
/-- First what keeps what is known, on which all pairs look, then the rest. -/
theorem WS.drawT (m : Nat) {id : Nat} {ops : Array Oper} {dy : List (Nat × Nat)} (hd : E.dyn fid id = dy) (ho : hasAlloc ops = false) (hm : Nat.ble m ops.toList.length = true)
    (hc : (dy.all fun p => Nat.blt p.1 m && Nat.blt p.2 m && (match ops.toList[p.2]? with | some o => !isLoud o.op | none => false)) = true)
    (h : SegT E ops N L K (E.pol fid id) (ops.toList.take m) 0 l [] fun l1 X => OS E false (E.pol fid id) ops (ops.toList.drop m) m N l1 (X ++ L) K Q) (hk : E.mks fid id = false := by rfl) : WS E fid N (.region id ops true) l L K Q := by
  intro tm st hF
  have hm2 := Nat.le_of_ble_eq_true hm
  have hlA : (ops.toList.take m).length = m := by rw [List.length_take]; omega
  have hF0 := hF.at (m := st.next + ops.size) (by omega)
  generalize hs0 : st.at (st.next + ops.size) = s0 at hF0
  obtain ⟨n1, tr1, tm1, s1, l1, X1, a1, a2, a3, a4⟩ := h tm s0 (some (st.next, false)) hF0 (fun b hb => ⟨ho, by cases hb; rfl⟩)
  obtain ⟨n5, tr4, tm4, st4, c1, _, c3⟩ := a3 (some (st.next, false)) tm1 _ a2 (fun b hb => ⟨ho, by cases hb; rfl⟩)
  have a1 := runOpsT_mono (callF_mono n1 (max n1 n5) (by omega)) _ _ _ _ a1
  have c1 := runOpsT_mono (callF_mono n5 (max n1 n5) (by omega)) _ _ _ _ c1
  have hl1 := runOpsT_len a1
  have hops : ops.toList = ops.toList.take m ++ ops.toList.drop m := (List.take_append_drop m _).symm
  have hrun : runOpsT E (callF E (max n1 n5)) (some (st.next, false)) (E.pol fid id) ops ops.toList 0 tm s0 = some (tr1 ++ tr4, tm4, st4) := by
    have := runOpsT_append _ _ _ _ _ a1 (by rw [Nat.zero_add, hlA]; exact c1)
    rw [← hops] at this
    exact this
  refine ⟨max n1 n5 + 1, .normal, tm4, st4, ?_, c3⟩
  have hpre : preObjs E st.next ops.toList 0 st.objs = some st.objs := preObjs_none _ _ _ ho
  have h1' := runOpsT_mono (callF_mono (max n1 n5) (max n1 n5 + 1) (by omega)) _ _ _ _ hrun
  rw [← hs0] at h1'
  unfold St.at at h1'
  simp only [exec, execReg, if_true, hpre, hd, hk]
  cases dy with
  | nil =>
    dsimp only
    rw [(runOps_of_T _ _ _ _ h1').1]
  | cons p0 ps =>
    dsimp only
    rw [h1']
    dsimp only
    rw [if_pos]
    · rw [List.all_eq_true] at hc ⊢
      intro p hp
      have hp' := hc p hp
      simp only [Bool.and_eq_true] at hp'
      obtain ⟨⟨p1, p2⟩, p4⟩ := hp'
      have p1 : p.1 < m := Eq.mp Nat.blt_eq p1
      have p2 : p.2 < m := Eq.mp Nat.blt_eq p2
      have g1 : (ops.toList.take m)[p.1]? = some ((ops.toList.take m)[p.1]'(by omega)) := List.getElem?_eq_getElem _
      have g2 : (ops.toList.take m)[p.2]? = some ((ops.toList.take m)[p.2]'(by omega)) := List.getElem?_eq_getElem _
      have g2' : ops.toList[p.2]? = some ((ops.toList.take m)[p.2]'(by omega)) := by
        rw [← g2, List.getElem?_take, if_pos p2]
      rw [g2'] at p4
      obtain ⟨e1, e2, _⟩ := a4 p.1 (tr1[p.1]'(by omega)) _ (List.getElem?_eq_getElem (by omega)) g1
      obtain ⟨_, _, e4⟩ := a4 p.2 (tr1[p.2]'(by omega)) _ (List.getElem?_eq_getElem (by omega)) g2
      have t1 : (tr1 ++ tr4)[p.1]? = some (tr1[p.1]'(by omega)) := by rw [List.getElem?_append_left (by omega)]; exact List.getElem?_eq_getElem _
      have t2 : (tr1 ++ tr4)[p.2]? = some (tr1[p.2]'(by omega)) := by rw [List.getElem?_append_left (by omega)]; exact List.getElem?_eq_getElem _
      unfold dynOk
      rw [t1, t2, ← Array.getElem?_toList, g2']
      dsimp only
      by_cases hd2 : (tr1[p.2]'(by omega)).did = true
      · have e4 := e4 hd2 (by simpa using p4)
        rw [e4 _ e1, e4 _ e2]
        simp [AV.beq_refl]
      · simp [hd2]
end
end Go.Abs

/- All and Eval, as the reference has them. -/
namespace Go.OptEnv
open Go Go.Proofs Go.Abs Go.RowKit Go.NetM
set_option maxRecDepth 10000
attribute [local irreducible] WS QS OS OD Abs.Sub SubO SubK CW GSl.av accA growA
/-- All bits, or none. -/
def allR (n : GNet) (ins regs : List UInt8) : Option (List UInt8) :=
  if (validM n && (decide ((ins.length : Int) = n.ins.xs.length) && le2 ins) && (decide ((regs.length : Int) = n.regs.xs.length) && le2 regs)) = true then some (allB n.gates.xs ins regs) else none
theorem allR_no {n : GNet} {ins regs : List UInt8} (h : (validM n && (decide ((ins.length : Int) = n.ins.xs.length) && le2 ins) && (decide ((regs.length : Int) = n.regs.xs.length) && le2 regs)) = false) : allR n ins regs = none := by
  unfold allR
  rw [if_neg (by rw [h]; simp)]
theorem allR_yes {n : GNet} {ins regs : List UInt8} (h1 : validM n = true) (h2 : (decide ((ins.length : Int) = n.ins.xs.length) && le2 ins) = true) (h3 : (decide ((regs.length : Int) = n.regs.xs.length) && le2 regs) = true) : allR n ins regs = some (allB n.gates.xs ins regs) := by
  unfold allR
  rw [if_pos (by rw [h1, h2, h3]; rfl)]
def allAV : Option (List UInt8) → AV
  | some v => .tup [(GSl.some v).av 1 bitAV, .int .i64 0]
  | none => .tup [.nilsl, .int .i64 2]
def Rel90 : Rel := RelF (fun p : GNet × GSl UInt8 × GSl UInt8 => FitsN p.1 ∧ p.2.1.xs.length ≤ 100000000000 ∧ p.2.2.xs.length ≤ 100000000000) (fun p => [netAV p.1, p.2.1.av 1 bitAV, p.2.2.av 1 bitAV]) fun p => allAV (allR p.1 p.2.1.xs p.2.2.xs)
theorem lit_of {l k : Int} (h : litOk l k = true) : 0 ≤ l ∧ l / 2 < k := by
  have := of_decide_eq_true h
  omega
theorem gatesM_take {v : List UInt8} {gs : List (Int × Int)} {i : Nat} (h : i < gs.length) : gatesM v (gs.take (i + 1)) = gatesM v (gs.take i) ++ [andB (ofL (gatesM v (gs.take i)) gs[i].1) (ofL (gatesM v (gs.take i)) gs[i].2)] := by
  rw [List.take_succ_eq_append_getElem h]
  simp only [gatesM, List.foldl_append, List.foldl_cons, List.foldl_nil]
section
variable {pr : Prims}
theorem use31 (h : Has pr 31 Rel31) {n : GNet} (hn : FitsN n) (st : St) : primOf Rel31 [netAV n] st = some (.bool (validM n), st) := h.use ⟨n, hn, by simp [AV.plainL, net_plain], rfl⟩ st
theorem use122 (h : Has pr 122 Rel122) {l : GSl UInt8} (hl : l.xs.length ≤ 140737488355328) {k : Int} (st : St) : primOf Rel122 [l.av 1 bitAV, .int .i64 k] st = some (.bool (decide ((l.xs.length : Int) = k) && le2 l.xs), st) := h.use ⟨(l, k), hl, by simp [AV.plainL, plain_av bit_plain, AV.plain], rfl⟩ st
theorem use92g (h : Has pr 92 Rel92) {k : Int} {v : List UInt8} {b : Bool} {t : Nat} (hk : 0 ≤ k ∧ k / 2 < v.length) (hl : v.length ≤ 140737488355328) (hv : le2 v = true) (st : St) : primOf Rel92 [.int .i64 k, growA b t 1 (v.map bitAV)] st = some (bitAV (ofL v k), st) :=
  h.use (r := bitAV (ofL v k)) ⟨(k, GSl.some v), ⟨hk, hl, hv⟩, by simp [AV.plainL, plain_grow bit_plain, AV.plain], rfl⟩ st
theorem use92 (h : Has pr 92 Rel92) {k : Int} {v : GSl UInt8} (hk : 0 ≤ k ∧ k / 2 < v.xs.length) (hl : v.xs.length ≤ 140737488355328) (hv : le2 v.xs = true) (st : St) : primOf Rel92 [.int .i64 k, v.av 1 bitAV] st = some (bitAV (ofL v.xs k), st) :=
  h.use (r := bitAV (ofL v.xs k)) ⟨(k, v), ⟨hk, hl, hv⟩, by simp [AV.plainL, plain_av bit_plain, AV.plain], rfl⟩ st
set_option maxHeartbeats 1000000 in
theorem run90 (h1 : pr 90 = none) (h31 : Has pr 31 Rel31) (h122 : Has pr 122 Rel122) (h92 : Has pr 92 Rel92) (h123 : pr 123 = some (tabPrim tab123)) (n : GNet) (hn : FitsN n) (ins regs : GSl UInt8) (hi : ins.xs.length ≤ 100000000000) (hr : regs.xs.length ≤ 100000000000) (st : St) :
    CW (En pr) 90 [netAV n, ins.av 1 bitAV, regs.av 1 bitAV] st fun r _ => AV.free r = true ∧ AV.plain r = allAV (allR n ins.xs regs.xs) := by
  have hn' := hn
  obtain ⟨f1, f2, f3, f4, _, _, _, _, _, _⟩ := hn'
  have u1 := use31 h31 hn
  have u2 := fun (k : Int) => use122 h122 (l := ins) (by omega) (k := k)
  have u3 := fun (k : Int) => use122 h122 (l := regs) (by omega) (k := k)
  refine CW.start (N := 62) h1 rfl rfl ?_
  repeat' (first | refine OS.appendGS1 ([0]) rfl rfl rfl rfl rfl rfl rfl rfl rfl rfl rfl ⟨_, rfl⟩ (fun _ => ⟨rfl, rfl⟩) (roomB rfl (by simp only [List.length_append, List.length_cons, List.length_nil]; omega)) (fun tk' => ?_) | (refine OS.do rfl ?_; first | refine OD.box rfl rfl rfl rfl (net_ok _) rfl (fun b1 => ?_) | refine OD.loadP 0 rfl rfl rfl rfl rfl rfl ?_ | refine OD.auto rfl rfl ?_ | refine OD.len rfl rfl (fun _ => lenTy_av rfl rfl) ?_ | refine OD.call rfl rfl rfl h31.eq u1 (fun _ => rfl) ?_ | refine OD.call rfl rfl rfl h122.eq (u2 _) (fun _ => rfl) ?_ | refine OD.call rfl rfl rfl h122.eq (u3 _) (fun _ => rfl) ?_ | refine OD.appendGS  0 rfl rfl rfl rfl rfl rfl rfl rfl rfl rfl rfl ⟨_, rfl⟩ (fun _ => ⟨rfl, rfl⟩) (roomB rfl (by simp only [List.length_append, List.length_cons, List.length_nil]; omega)) (fun tk' => ?_)) | refine OS.nil ?_ | refine OS.skip rfl rfl rfl ?_ | refine WS.seq ?_ | refine QS.seqN ?_ | refine WS.region ?_ | refine WS.condT rfl ?_ | refine WS.skip ?_ | refine WS.block ?_ | refine WS.ret ?_ | refine QS.seqR ?_ | refine WS.condN rfl (fun _ => ?_) (fun _ => ?_) | ((fail_if_success (refine OS.do rfl ?_)); first | refine OS.splitN rfl rfl rfl (fun _ => ?_) (fun _ => ?_)))
  all_goals try (refine QS.retR (by rfl) fun _ => ⟨rfl, ?_⟩; rw [allR_no (by first | exact and_f1 (and_f1 (by assumption)) | exact and_f1 (and_f2 (by assumption)) | exact and_f2 (by assumption))]; rfl)
  rename_i hV hI hR tkx
  have v := validM_iff.1 hV
  have hil : (ins.xs.length : Int) = n.ins.xs.length := of_decide_eq_true (Bool.and_eq_true _ _ ▸ hI).1
  have hrl : (regs.xs.length : Int) = n.regs.xs.length := of_decide_eq_true (Bool.and_eq_true _ _ ▸ hR).1
  have hi2 : le2 ins.xs = true := (Bool.and_eq_true _ _ ▸ hI).2
  have hr2 : le2 regs.xs = true := (Bool.and_eq_true _ _ ▸ hR).2
  have hgn := v.gatesN
  have l0 : ([0] ++ ins.xs ++ regs.xs : List UInt8) = 0 :: (ins.xs ++ regs.xs) := by simp
  have k0 : le2 ([0] ++ ins.xs ++ regs.xs) = true := by rw [l0]; simpa [le2] using le2_app hi2 hr2
  have hfst : n.first = ([0] ++ ins.xs ++ regs.xs : List UInt8).length := by simp only [GNet.first, List.length_append, List.length_cons, List.length_nil]; omega
  refine WS.range (A := Bool × Nat × List UInt8) (n := n.gates.xs.length) ⟨40, _, fun a => [(8, growA a.1 a.2.1 1 (a.2.2.map bitAV))], fun _ => [(b1, .row 4 [netAV n])], fun a => [(a.2.1, a.1)], fun i a => a.2.2 = gatesM ([0] ++ ins.xs ++ regs.xs) (n.gates.xs.take i)⟩ ((!ins.xs.isEmpty || !regs.xs.isEmpty, tk', [0] ++ ins.xs ++ regs.xs)) [38, 39] (by rfl) (by omega) (rfl) (by rfl) (by (try dsimp only); repeat' (first | exact Sub.nil _ | refine Sub.cons (congrArg (fun z => some (AV.int .i64 z)) (wrap_succ (by omega))) ?_ | refine Sub.cons rfl ?_)) (by (try dsimp only); repeat' (first | exact SubO.nil _ | exact SubO.refl _ | refine SubO.keep ?_ | refine SubO.drop ?_)) (by (try dsimp only); repeat' (first | exact SubK.nil _ | exact SubK.refl _ | refine SubK.keep (by simp) ?_ | refine SubK.new ?_ | refine SubK.drop ?_)) (by rfl) (by rfl) (by rfl) (by rfl) (by rfl) (by rfl) (fun _ _ => by rfl) (fun _ => by rfl) (fun _ _ => by rfl) (fun _ _ => by rfl) ?_ ?_
  · rintro i ⟨b, tk, w⟩ hi ha
    try dsimp only at ha
    have hwl : w.length = ([0] ++ ins.xs ++ regs.xs : List UInt8).length + i := by rw [ha, gatesM_len, List.length_take]; omega
    have hwb : w.length ≤ 300000 := by
      have := names_len v.ins
      have := names_len v.regs
      simp only [List.length_map] at this
      rw [hwl]; simp only [List.length_append, List.length_cons, List.length_nil]; omega
    have hw2 : le2 w = true := by rw [ha]; exact gatesM_le2 _ k0
    have hg := gatesOk_take (k := n.first) hi
    have hg2 : gatesOk n.first (n.gates.xs.take (i + 1)) = true := by
      have := v.gates
      rw [← List.take_append_drop (i + 1) n.gates.xs] at this
      exact gatesOk_app _ _ _ this
    rw [hg2] at hg
    have hg := (Bool.and_eq_true _ _ ▸ hg.symm).2
    have hg1 := lit_of (Bool.and_eq_true _ _ ▸ hg).1
    have hg2 := lit_of (Bool.and_eq_true _ _ ▸ hg).2
    have c1 := use92g h92 (k := n.gates.xs[i].1) (v := w) (b := b) (t := tk) ⟨hg1.1, by omega⟩ (by omega) hw2
    have c2 := use92g h92 (k := n.gates.xs[i].2) (v := w) (b := b) (t := tk) ⟨hg2.1, by omega⟩ (by omega) hw2
    have c3 := use123 (ofL_le2 hw2 n.gates.xs[i].1) (ofL_le2 hw2 n.gates.xs[i].2)
    dsimp only [RSt.at, List.cons_append, List.nil_append]
    repeat' (first | (refine OS.do rfl ?_; first | refine OD.loadP 0 rfl rfl rfl rfl rfl rfl ?_ | refine OD.auto rfl rfl ?_ | refine OD.indexAddr rfl rfl rfl (indexAddrA_nat rfl rfl rfl rfl (by first | assumption | exact List.getElem?_eq_getElem (by omega))) ?_ | refine OD.alloc rfl rfl rfl rfl (fun _ => ?_) | refine OD.storeW 0 rfl rfl rfl rfl (by first | rfl | exact net_ok _) rfl rfl rfl ?_ | refine OD.indexAddr rfl rfl rfl rfl ?_ | refine OD.call rfl rfl rfl h92.eq c1 (fun _ => rfl) ?_ | refine OD.call rfl rfl rfl h92.eq c2 (fun _ => rfl) ?_ | refine OD.call rfl rfl rfl h123 c3 (fun _ => rfl) ?_ | refine OD.appendG 0 rfl rfl rfl rfl rfl rfl rfl rfl rfl rfl rfl (.inr ⟨⟨_, rfl⟩, rfl⟩) (fun _ => rfl) rfl rfl (roomB rfl (by simp only [List.length_map, List.length_append, List.length_take, List.length_cons, List.length_nil]; omega)) (fun tk' => ?_)) | refine OS.nil ?_ | refine WS.seq ?_ | refine QS.seqN ?_ | refine WS.region ?_ | refine WS.drawC rfl rfl rfl ?_)
    refine QS.rangeN ((b || true, tk', w ++ [andB (ofL w n.gates.xs[i].1) (ofL w n.gates.xs[i].2)])) (by (try dsimp only) <;> exact (by rw [← l0, gatesM_take hi, ← ha])) (by (try dsimp only [RSt.at, List.cons_append, List.nil_append]); repeat' (first | exact Sub.nil _ | refine Sub.cons (by rw [List.map_append]; rfl) ?_ | refine Sub.cons (congrArg (fun z => some (AV.int .i64 z)) (wrap_succ (by omega))) ?_ | refine Sub.cons rfl ?_)) (by (try dsimp only); repeat' (first | exact SubO.nil _ | exact SubO.refl _ | refine SubO.keep ?_ | refine SubO.drop ?_)) (by (try dsimp only); repeat' (first | exact SubK.nil _ | exact SubK.refl _ | refine SubK.keep (by simp) ?_ | refine SubK.new ?_ | refine SubK.drop ?_))
  rintro ⟨b, tk, w⟩ ha
  try dsimp only at ha
  rw [List.take_of_length_le (Nat.le_refl _)] at ha
  dsimp only [RSt.at, List.cons_append, List.nil_append]
  repeat' (first | (refine OS.do rfl ?_; first | refine OD.auto rfl rfl ?_) | refine OS.nil ?_ | refine WS.seq ?_ | refine QS.seqN ?_ | refine WS.region ?_ | refine WS.ret ?_)
  refine QS.retR (by rfl) fun _ => ⟨?_, ?_⟩
  · simp only [AV.free, AV.freeL, free_grow bit_free, Bool.and_true]; rfl
  · rw [allR_yes hV hI hR]
    simp only [AV.plain, AV.plainL, plain_grow bit_plain, allAV]
    rw [ha, l0]; rfl
end
end Go.OptEnv

/- Eval, as the reference has it. -/
namespace Go.OptEnv
open Go Go.Proofs Go.Abs Go.RowKit Go.NetM
set_option maxRecDepth 10000
attribute [local irreducible] WS QS OS OD Abs.Sub SubO SubK CW GSl.av accA growA
/-- Outputs and what the registers take next, or none. -/
def evalR (n : GNet) (ins regs : List UInt8) : Option (List UInt8 × List UInt8) := (allR n ins regs).map fun v => (n.outs.xs.map fun p => ofL v p.lit, n.regs.xs.map fun r => ofL v r.next)
def evalAV : Option (List UInt8 × List UInt8) → AV
  | some p => .tup [(GSl.of p.1).av 1 bitAV, (GSl.of p.2).av 1 bitAV, .int .i64 0]
  | none => .tup [.nilsl, .nilsl, .int .i64 2]
def Rel48 : Rel := RelF (fun p : GNet × GSl UInt8 × GSl UInt8 => FitsN p.1 ∧ p.2.1.xs.length ≤ 100000000000 ∧ p.2.2.xs.length ≤ 100000000000) (fun p => [netAV p.1, p.2.1.av 1 bitAV, p.2.2.av 1 bitAV]) fun p => evalAV (evalR p.1 p.2.1.xs p.2.2.xs)
theorem allR_spec {n : GNet} {ins regs v : List UInt8} (h : allR n ins regs = some v) : ValidN n ∧ ins.length = n.ins.xs.length ∧ le2 ins = true ∧ regs.length = n.regs.xs.length ∧ le2 regs = true ∧ v = allB n.gates.xs ins regs ∧ le2 v = true ∧ (v.length : Int) = n.nodes := by
  unfold allR at h
  split at h
  · rename_i hc
    simp only [Bool.and_eq_true, decide_eq_true_eq] at hc
    obtain ⟨⟨hv, hi, hi2⟩, hr, hr2⟩ := hc
    cases h
    refine ⟨validM_iff.1 hv, by omega, hi2, by omega, hr2, rfl, allB_le2 hi2 hr2, ?_⟩
    simp only [allB, gatesM_len, List.length_cons, List.length_append, GNet.nodes, GNet.first]
    omega
  · cases h
section
variable {pr : Prims}
theorem con90 (h1 : pr 90 = none) (h31 : Has pr 31 Rel31) (h122 : Has pr 122 Rel122) (h92 : Has pr 92 Rel92) (h123 : pr 123 = some (tabPrim tab123)) : Con2 (En pr) 90 Rel90 :=
  con_of (fun d => by simp [AV.freeL, net_free, free_av bit_free]) fun d hd st => run90 h1 h31 h122 h92 h123 d.1 hd.1 d.2.1 d.2.2 hd.2.1 hd.2.2 st
theorem all_free (x : Option (List UInt8)) : AV.free (allAV x) = true := by
  cases x with
  | none => rfl
  | some v => simp only [allAV, AV.free, AV.freeL, free_av bit_free, Bool.and_true]
theorem use90 (h : Has pr 90 Rel90) {n : GNet} (hn : FitsN n) {ins regs : GSl UInt8} (hi : ins.xs.length ≤ 100000000000) (hr : regs.xs.length ≤ 100000000000) (st : St) : primOf Rel90 [netAV n, ins.av 1 bitAV, regs.av 1 bitAV] st = some (allAV (allR n ins.xs regs.xs), st) :=
  h.use (r := allAV (allR n ins.xs regs.xs)) ⟨(n, ins, regs), ⟨hn, hi, hr⟩, by simp [AV.plainL, net_plain, plain_av bit_plain], rfl⟩ st
set_option maxHeartbeats 1000000 in
theorem run48 (h1 : pr 48 = none) (h90 : Has pr 90 Rel90) (h92 : Has pr 92 Rel92) (n : GNet) (hn : FitsN n) (ins regs : GSl UInt8) (hi : ins.xs.length ≤ 100000000000) (hr : regs.xs.length ≤ 100000000000) (st : St) :
    CW (En pr) 48 [netAV n, ins.av 1 bitAV, regs.av 1 bitAV] st fun r _ => AV.free r = true ∧ AV.plain r = evalAV (evalR n ins.xs regs.xs) := by
  have hn' := hn
  obtain ⟨f1, f2, f3, f4, _, _, _, _, _, _⟩ := hn'
  have u1 := use90 h90 hn hi hr
  unfold evalR
  cases hx : allR n ins.xs regs.xs with
  | none =>
    rw [hx] at u1
    refine CW.start (N := 56) h1 rfl rfl ?_
    repeat' (first | (refine OS.do rfl ?_; first | refine OD.box rfl rfl rfl rfl (net_ok _) rfl (fun b1 => ?_) | refine OD.loadP 0 rfl rfl rfl rfl rfl rfl ?_ | refine OD.auto rfl rfl ?_ | refine OD.call rfl rfl rfl h90.eq u1 (fun _ => rfl) ?_) | refine OS.nil ?_ | refine WS.seq ?_ | refine QS.seqN ?_ | refine WS.region ?_ | refine WS.condT rfl ?_ | refine WS.ret ?_ | refine QS.seqR ?_)
    refine QS.retR (by rfl) fun _ => ⟨rfl, rfl⟩
  | some v =>
    rw [hx] at u1
    obtain ⟨hv, _, _, _, _, _, hv2, hvl⟩ := allR_spec hx
    have hgn := hv.gatesN
    have hvb : v.length ≤ 300000 := by
      have := names_len hv.ins
      have := names_len hv.regs
      simp only [List.length_map, GNet.nodes, GNet.first] at *
      omega
    have hol : n.outs.xs.length ≤ 500 := by have := names_len hv.outs; simpa using this
    have hrl : n.regs.xs.length ≤ 500 := by have := names_len hv.regs; simpa using this
    have hfz : ∀ st, freezeA st (allAV (some v)) = some (allAV (some v), st) := fun st => freeze_free (all_free _)
    refine CW.start (N := 56) h1 rfl rfl ?_
    repeat' (first | (refine OS.do rfl ?_; first | refine OD.box rfl rfl rfl rfl (net_ok _) rfl (fun b1 => ?_) | refine OD.loadP 0 rfl rfl rfl rfl rfl rfl ?_ | refine OD.auto rfl rfl ?_ | refine OD.len rfl rfl (fun _ => lenTy_av rfl rfl) ?_ | refine OD.call rfl rfl rfl h90.eq u1 hfz ?_) | refine OS.nil ?_ | refine WS.seq ?_ | refine QS.seqN ?_ | refine WS.region ?_ | refine WS.condF rfl ?_ | refine WS.skip ?_ | refine WS.block ?_)
    refine WS.range (A := Nat × List UInt8) (n := n.outs.xs.length) ⟨27, _, fun a => [(6, accA a.1 1 (a.2.map bitAV))], fun _ => [(b1, .row 4 [netAV n])], fun a => [(a.1, !(a.2.map bitAV).isEmpty)], fun i a => a.2 = (n.outs.xs.take i).map (fun p => ofL v p.lit)⟩ ((0, [])) [3, 7, 9, 25, 26] (by rfl) (by omega) (by simp) (by rfl) (by (try dsimp only); repeat' (first | exact Sub.nil _ | refine Sub.cons (congrArg some (accA_nil _ _).symm) ?_ | refine Sub.cons (congrArg (fun z => some (AV.int .i64 z)) (wrap_succ (by omega))) ?_ | refine Sub.cons rfl ?_)) (by (try dsimp only); repeat' (first | exact SubO.nil _ | exact SubO.refl _ | refine SubO.keep ?_ | refine SubO.drop ?_)) (by (try dsimp only); repeat' (first | exact SubK.nil _ | exact SubK.refl _ | refine SubK.keep (by simp) ?_ | refine SubK.new ?_ | refine SubK.drop ?_)) (by rfl) (by rfl) (by rfl) (by rfl) (by rfl) (by rfl) (fun _ _ => by rfl) (fun _ => by rfl) (fun _ _ => by rfl) (fun _ _ => by rfl) ?_ ?_
    · rintro i ⟨tk, a⟩ hi ha
      try dsimp only at ha
      have hal : a.length ≤ 500 := by rw [ha]; simp only [List.length_map, List.length_take]; omega
      have hl := lit_of (all_get hv.lits hi)
      have c1 := use92 h92 (k := n.outs.xs[i].lit) (v := GSl.some v) ⟨hl.1, by rw [show (GSl.some v).xs = v from rfl]; omega⟩ (by rw [show (GSl.some v).xs = v from rfl]; omega) hv2
      dsimp only [RSt.at, List.cons_append, List.nil_append]
      repeat' (first | (refine OS.do rfl ?_; first | refine OD.loadP 0 rfl rfl rfl rfl rfl rfl ?_ | refine OD.auto rfl rfl ?_ | refine OD.indexAddr rfl rfl rfl (indexAddrA_nat rfl rfl rfl rfl (by first | assumption | exact List.getElem?_eq_getElem (by omega))) ?_ | refine OD.alloc rfl rfl rfl rfl (fun _ => ?_) | refine OD.storeW 0 rfl rfl rfl rfl (by first | rfl | exact net_ok _) rfl rfl rfl ?_ | refine OD.call rfl rfl rfl h92.eq c1 (fun _ => rfl) ?_ | refine OD.append 0 rfl rfl rfl rfl rfl rfl rfl rfl rfl rfl rfl (.inr ⟨⟨_, rfl⟩, rfl⟩) (fun _ => rfl) rfl rfl (roomB rfl (by simp only [List.length_map, List.length_append, List.length_take, List.length_cons, List.length_nil]; omega)) (fun tk' => ?_)) | refine OS.nil ?_ | refine WS.seq ?_ | refine QS.seqN ?_ | refine WS.region ?_)
      refine QS.rangeN ((tk', a ++ [ofL v n.outs.xs[i].lit])) (by (try dsimp only) <;> exact (by rw [map_take_succ hi, ha])) (by (try dsimp only [RSt.at, List.cons_append, List.nil_append]); repeat' (first | exact Sub.nil _ | refine Sub.cons (by rw [List.map_append]; rfl) ?_ | refine Sub.cons (congrArg (fun z => some (AV.int .i64 z)) (wrap_succ (by omega))) ?_ | refine Sub.cons rfl ?_)) (by (try dsimp only); repeat' (first | exact SubO.nil _ | exact SubO.refl _ | refine SubO.keep ?_ | refine SubO.drop ?_)) (by (try dsimp only); repeat' (first | exact SubK.nil _ | exact SubK.refl _ | refine SubK.keep (by simp) ?_ | refine SubK.new ?_ | refine SubK.drop ?_))
    rintro ⟨tk, a⟩ ha
    try dsimp only at ha
    rw [List.take_of_length_le (Nat.le_refl _)] at ha
    dsimp only [RSt.at, List.cons_append, List.nil_append]
    repeat' (first | (refine OS.do rfl ?_; first | refine OD.loadP 0 rfl rfl rfl rfl rfl rfl ?_ | refine OD.auto rfl rfl ?_ | refine OD.len rfl rfl (fun _ => lenTy_av rfl rfl) ?_) | refine OS.nil ?_ | refine WS.seq ?_ | refine QS.seqN ?_ | refine WS.region ?_ | refine WS.block ?_)
    refine WS.range (A := Nat × List UInt8) (n := n.regs.xs.length) ⟨42, _, fun a => [(7, accA a.1 1 (a.2.map bitAV))], fun _ => [(b1, .row 4 [netAV n])], fun a => [(a.1, !(a.2.map bitAV).isEmpty)], fun i a => a.2 = (n.regs.xs.take i).map (fun p => ofL v p.next)⟩ ((0, [])) [6, 9, 40, 41] (by rfl) (by omega) (by simp) (by rfl) (by (try dsimp only); repeat' (first | exact Sub.nil _ | refine Sub.cons (congrArg some (accA_nil _ _).symm) ?_ | refine Sub.cons (congrArg (fun z => some (AV.int .i64 z)) (wrap_succ (by omega))) ?_ | refine Sub.cons rfl ?_)) (by (try dsimp only); repeat' (first | exact SubO.nil _ | exact SubO.refl _ | refine SubO.keep ?_ | refine SubO.drop ?_)) (by (try dsimp only); repeat' (first | exact SubK.nil _ | exact SubK.refl _ | refine SubK.keep (by simp) ?_ | refine SubK.new ?_ | refine SubK.drop ?_)) (by rfl) (by rfl) (by rfl) (by rfl) (by rfl) (by rfl) (fun _ _ => by rfl) (fun _ => by rfl) (fun _ _ => by rfl) (fun _ _ => by rfl) ?_ ?_
    · rintro i ⟨tk2, c⟩ hi hc
      try dsimp only at hc
      have hcl : c.length ≤ 500 := by rw [hc]; simp only [List.length_map, List.length_take]; omega
      have hl := lit_of (all_get hv.nexts hi)
      have c1 := use92 h92 (k := n.regs.xs[i].next) (v := GSl.some v) ⟨hl.1, by rw [show (GSl.some v).xs = v from rfl]; omega⟩ (by rw [show (GSl.some v).xs = v from rfl]; omega) hv2
      dsimp only [RSt.at, List.cons_append, List.nil_append]
      repeat' (first | (refine OS.do rfl ?_; first | refine OD.loadP 0 rfl rfl rfl rfl rfl rfl ?_ | refine OD.auto rfl rfl ?_ | refine OD.indexAddr rfl rfl rfl (indexAddrA_nat rfl rfl rfl rfl (by first | assumption | exact List.getElem?_eq_getElem (by omega))) ?_ | refine OD.alloc rfl rfl rfl rfl (fun _ => ?_) | refine OD.storeW 0 rfl rfl rfl rfl (by first | rfl | exact net_ok _) rfl rfl rfl ?_ | refine OD.call rfl rfl rfl h92.eq c1 (fun _ => rfl) ?_ | refine OD.append 0 rfl rfl rfl rfl rfl rfl rfl rfl rfl rfl rfl (.inr ⟨⟨_, rfl⟩, rfl⟩) (fun _ => rfl) rfl rfl (roomB rfl (by simp only [List.length_map, List.length_append, List.length_take, List.length_cons, List.length_nil]; omega)) (fun tk' => ?_)) | refine OS.nil ?_ | refine WS.seq ?_ | refine QS.seqN ?_ | refine WS.region ?_)
      refine QS.rangeN ((tk', c ++ [ofL v n.regs.xs[i].next])) (by (try dsimp only) <;> exact (by rw [map_take_succ hi, hc])) (by (try dsimp only [RSt.at, List.cons_append, List.nil_append]); repeat' (first | exact Sub.nil _ | refine Sub.cons (by rw [List.map_append]; rfl) ?_ | refine Sub.cons (congrArg (fun z => some (AV.int .i64 z)) (wrap_succ (by omega))) ?_ | refine Sub.cons rfl ?_)) (by (try dsimp only); repeat' (first | exact SubO.nil _ | exact SubO.refl _ | refine SubO.keep ?_ | refine SubO.drop ?_)) (by (try dsimp only); repeat' (first | exact SubK.nil _ | exact SubK.refl _ | refine SubK.keep (by simp) ?_ | refine SubK.new ?_ | refine SubK.drop ?_))
    rintro ⟨tk2, c⟩ hc
    try dsimp only at hc
    rw [List.take_of_length_le (Nat.le_refl _)] at hc
    dsimp only [RSt.at, List.cons_append, List.nil_append]
    repeat' (first | (refine OS.do rfl ?_; first | refine OD.auto rfl rfl ?_) | refine OS.nil ?_ | refine WS.seq ?_ | refine QS.seqN ?_ | refine WS.region ?_ | refine WS.ret ?_)
    refine QS.retR (by rfl) fun _ => ⟨?_, ?_⟩
    · simp only [AV.free, AV.freeL, free_acc bit_free, Bool.and_true]; rfl
    · simp only [AV.plain, AV.plainL, plain_acc bit_plain, evalAV, Option.map]
      rw [ha, hc]; rfl
end
end Go.OptEnv

/- All and Eval, as the program has them. -/
namespace Go.OptEnv
open Go Go.Proofs Go.Abs Go.RowKit Go.NetM
set_option maxRecDepth 10000
attribute [local irreducible] WS QS OS OD Abs.Sub SubO SubK CW GSl.av accA growA
def tab133 : List (List AV × AV) := [([.int .u8 0], .int .u8 1), ([.int .u8 1], .int .u8 0), ([.int .u8 2], .int .u8 2)]
theorem tabok133 : TabOk (En ap0) 133 tab133 := .cons 1000 (by kernel_rfl) (.cons 1000 (by kernel_rfl) (.cons 1000 (by kernel_rfl) .nil))
def rowBoth (a b c : Int) : List AV × AV := ([.int .u8 a, .int .u8 b], .int .u8 c)
def tab132 : List (List AV × AV) := [rowBoth 0 0 0, rowBoth 0 1 0, rowBoth 0 2 0, rowBoth 1 0 0, rowBoth 1 1 1, rowBoth 1 2 2, rowBoth 2 0 0, rowBoth 2 1 2, rowBoth 2 2 2]
theorem tabok132 : TabOk (En ap0) 132 tab132 := .cons 1000 (by kernel_rfl) (.cons 1000 (by kernel_rfl) (.cons 1000 (by kernel_rfl) (.cons 1000 (by kernel_rfl) (.cons 1000 (by kernel_rfl) (.cons 1000 (by kernel_rfl) (.cons 1000 (by kernel_rfl) (.cons 1000 (by kernel_rfl) (.cons 1000 (by kernel_rfl) .nil))))))))
theorem use133 {b : UInt8} (h : b.toNat ≤ 2) (st : St) : tabPrim tab133 [bitAV b] st = some (bitAV (notB b), st) := by
  rcases three h with rfl | rfl | rfl <;> rfl
theorem use132 {a b : UInt8} (ha : a.toNat ≤ 2) (hb : b.toNat ≤ 2) (st : St) : tabPrim tab132 [bitAV a, bitAV b] st = some (bitAV (andB a b), st) := by
  rcases three ha with rfl | rfl | rfl <;> rcases three hb with rfl | rfl | rfl <;> rfl
theorem and1 {l : Int} (_ : 0 ≤ l) : IntKind.i64.wrap ((BitVec.ofInt IntKind.i64.bits l &&& BitVec.ofInt IntKind.i64.bits 1).toNat : Int) = l % 2 := by
  have e : (BitVec.ofInt IntKind.i64.bits l &&& BitVec.ofInt IntKind.i64.bits 1).toNat = (l % 2).toNat := by
    rw [BitVec.toNat_and, BitVec.toNat_ofInt, BitVec.toNat_ofInt]
    have : ((1 : Int) % (2 ^ IntKind.i64.bits : Nat)).toNat = 1 := by decide
    rw [this, Nat.and_one_is_mod]
    have : IntKind.i64.bits = 64 := rfl
    rw [this]
    omega
  rw [e]
  exact (wrap64 (by omega) (by omega)).trans (by omega)
def Rel151 : Rel := RelF (fun _ : UInt8 => True) (fun b => [bitAV b]) fun b => .bool (decide (2 < b.toNat))
def Rel131 : Rel := RelF (fun p : GSl UInt8 × Int => p.1.xs.length ≤ 140737488355328) (fun p => [p.1.av 1 bitAV, .int .i64 p.2]) fun p => .bool (decide ((p.1.xs.length : Int) = p.2) && le2 p.1.xs)
def Rel110 : Rel := RelF (fun p : GSl UInt8 × Int => (0 ≤ p.2 ∧ p.2 / 2 < p.1.xs.length) ∧ p.1.xs.length ≤ 140737488355328 ∧ le2 p.1.xs = true) (fun p => [p.1.av 1 bitAV, .int .i64 p.2]) fun p => bitAV (ofL p.1.xs p.2)
section
variable {pr : Prims}
theorem run151 (h1 : pr 151 = none) (b : UInt8) (st : St) : CW (En pr) 151 [bitAV b] st fun r _ => r = .bool (decide (2 < b.toNat)) := by
  refine CW.start (N := 5) h1 rfl rfl ?_
  repeat' (first | (refine OS.do rfl ?_; first | refine OD.auto rfl rfl ?_) | refine OS.nil ?_ | refine WS.seq ?_ | refine QS.seqN ?_ | refine WS.region ?_ | refine WS.ret ?_)
  all_goals (refine QS.retR (by rfl) fun _ => ?_; show AV.bool _ = _; congr 1; rw [decide_eq_decide]; omega)
theorem con151 (h : pr 151 = none) : Con2 (En pr) 151 Rel151 := con_eq (fun _ => rfl) (fun _ => ⟨rfl, rfl⟩) fun d _ st => run151 h d st
theorem use151 (h : Has pr 151 Rel151) {b : UInt8} (st : St) : primOf Rel151 [bitAV b] st = some (.bool (decide (2 < b.toNat)), st) := h.use ⟨b, trivial, rfl, rfl⟩ st
theorem run168 (h1 : pr 168 = none) (h151 : Has pr 151 Rel151) (s : GSl UInt8) (hs : s.xs.length ≤ 140737488355328) (st : St) :
    CW (En pr) 168 [s.av 1 bitAV, .fn 151 [] []] st fun r _ => ∃ k : Int, r = .int .i64 k ∧ decide (k ≥ 0) = !(le2 s.xs) := by
  refine CW.start (N := 19) h1 rfl rfl ?_
  repeat' (first | (refine OS.do rfl ?_; first | refine OD.auto rfl rfl ?_ | refine OD.len rfl rfl (fun _ => lenTy_av rfl rfl) ?_) | refine OS.nil ?_ | refine WS.seq ?_ | refine QS.seqN ?_ | refine WS.region ?_ | refine WS.block ?_)
  refine WS.range (A := Unit) (n := s.xs.length) ⟨8, _, fun _ => [], fun _ => [], fun _ => [], fun i _ => (s.xs.take i).all (fun b => decide (b.toNat ≤ 2)) = true⟩ (()) [0, 1, 7] (by rfl) (by omega) (by simp) (by rfl) (by (try dsimp only); repeat' (first | exact Sub.nil _ | refine Sub.cons (congrArg (fun z => some (AV.int .i64 z)) (wrap_succ (by omega))) ?_ | refine Sub.cons rfl ?_)) (by (try dsimp only); repeat' (first | exact SubO.nil _ | exact SubO.refl _ | refine SubO.keep ?_ | refine SubO.drop ?_)) (by (try dsimp only); repeat' (first | exact SubK.nil _ | exact SubK.refl _ | refine SubK.keep (by simp) ?_ | refine SubK.new ?_ | refine SubK.drop ?_)) (by rfl) (by rfl) (by rfl) (by rfl) (by rfl) (by rfl) (fun _ _ => by rfl) (fun _ => by rfl) (fun _ _ => by rfl) (fun _ _ => by rfl) ?_ ?_
  · rintro i _ hi ha
    try dsimp only at ha
    dsimp only [RSt.at, List.cons_append, List.nil_append]
    repeat' (first | (refine OS.do rfl ?_; first | refine OD.auto rfl rfl ?_ | refine OD.indexAddr rfl rfl rfl (indexAddrA_nat rfl rfl rfl rfl (by first | assumption | exact List.getElem?_eq_getElem (by omega))) ?_ | refine OD.call rfl rfl rfl h151.eq (use151 h151) (fun _ => rfl) ?_) | refine OS.nil ?_ | refine WS.seq ?_ | refine QS.seqN ?_ | refine WS.region ?_ | refine WS.condD rfl (fun _ => ?_) (fun _ => ?_) | refine WS.skip ?_ | refine WS.ret ?_ | refine QS.seqR ?_ | refine QS.rangeR ?_)
    · refine QS.retR (by rfl) fun _ => ⟨_, rfl, ?_⟩
      unfold le2; rw [all_false (i := i) (f := fun (b : UInt8) => decide (b.toNat ≤ 2)) hi (decide_eq_false (by omega))]; simp
    · refine QS.rangeN (()) (by (try dsimp only) <;> exact (all_take_succ hi ha (decide_eq_true (by omega)))) (by (try dsimp only [RSt.at, List.cons_append, List.nil_append]); repeat' (first | exact Sub.nil _ | refine Sub.cons (congrArg (fun z => some (AV.int .i64 z)) (wrap_succ (by omega))) ?_ | refine Sub.cons rfl ?_)) (by (try dsimp only); repeat' (first | exact SubO.nil _ | exact SubO.refl _ | refine SubO.keep ?_ | refine SubO.drop ?_)) (by (try dsimp only); repeat' (first | exact SubK.nil _ | exact SubK.refl _ | refine SubK.keep (by simp) ?_ | refine SubK.new ?_ | refine SubK.drop ?_))
  · rintro _ ha
    try dsimp only at ha
    rw [List.take_of_length_le (Nat.le_refl _)] at ha
    dsimp only [RSt.at, List.cons_append, List.nil_append]
    repeat' (first | (refine OS.do rfl ?_; first | refine OD.auto rfl rfl ?_) | refine OS.nil ?_ | refine WS.seq ?_ | refine QS.seqN ?_ | refine WS.region ?_ | refine WS.ret ?_)
    refine QS.retR (by rfl) fun _ => ⟨_, rfl, ?_⟩
    unfold le2; rw [ha]; rfl
theorem run150 (h1 : pr 150 = none) (h168 : pr 168 = none) (h151 : Has pr 151 Rel151) (s : GSl UInt8) (hs : s.xs.length ≤ 140737488355328) (st : St) :
    CW (En pr) 150 [s.av 1 bitAV, .fn 151 [] []] st fun r _ => r = .bool (!(le2 s.xs)) := by
  refine CW.start (N := 9) h1 rfl rfl ?_
  repeat' (first | (refine OS.do rfl ?_; first | refine OD.auto rfl rfl ?_ | (refine OD.callP (fun r => ∃ k : Int, r = .int .i64 k ∧ decide (k ≥ 0) = !(le2 s.xs)) rfl rfl rfl (fun st hS => (run168 h168 h151 s hs st).mono fun _ _ h => ⟨h, ⟨fun _ _ _ h => (by simp at h), fun _ _ _ _ _ h => (by simp at h), fun _ _ h => (by simp at h), fun _ _ _ h => (by simp at h)⟩⟩) (by rintro v st ⟨k, rfl, _⟩; rfl) ?_; rintro v ⟨k, rfl, hk⟩)) | refine OS.nil ?_ | refine WS.seq ?_ | refine QS.seqN ?_ | refine WS.region ?_ | refine WS.ret ?_)
  all_goals (refine QS.retR (by rfl) fun _ => ?_; show AV.bool _ = _; rw [hk])
def Rel150 : Rel := RelF (fun s : GSl UInt8 => s.xs.length ≤ 140737488355328) (fun s => [s.av 1 bitAV, .fn 151 [] []]) fun s => .bool (!(le2 s.xs))
theorem con150 (h1 : pr 150 = none) (h168 : pr 168 = none) (h151 : Has pr 151 Rel151) : Con2 (En pr) 150 Rel150 := con_eq (fun d => by simp [AV.freeL, AV.free, free_av bit_free]) (fun _ => ⟨rfl, rfl⟩) fun d hd st => run150 h1 h168 h151 d hd st
theorem use150 (h : Has pr 150 Rel150) {s : GSl UInt8} (hs : s.xs.length ≤ 140737488355328) (st : St) : primOf Rel150 [s.av 1 bitAV, .fn 151 [] []] st = some (.bool (!(le2 s.xs)), st) := h.use ⟨s, hs, by simp [AV.plainL, AV.plain, plain_av bit_plain], rfl⟩ st
theorem run131 (h1 : pr 131 = none) (h150 : Has pr 150 Rel150) (s : GSl UInt8) (hs : s.xs.length ≤ 140737488355328) (k : Int) (st : St) :
    CW (En pr) 131 [s.av 1 bitAV, .int .i64 k] st fun r _ => r = .bool (decide ((s.xs.length : Int) = k) && le2 s.xs) := by
  have u := use150 h150 hs
  refine CW.start (N := 14) h1 rfl rfl ?_
  repeat' (first | (refine OS.do rfl ?_; first | refine OD.auto rfl rfl ?_ | refine OD.len rfl rfl (fun _ => lenTy_av rfl rfl) ?_ | refine OD.call rfl rfl rfl h150.eq u (fun _ => rfl) ?_) | refine OS.nil ?_ | refine OS.skip rfl rfl rfl ?_ | refine WS.seq ?_ | refine QS.seqN ?_ | refine WS.region ?_ | refine WS.ret ?_ | ((fail_if_success (refine OS.do rfl ?_)); first | refine OS.splitD rfl rfl rfl (fun _ => ?_) (fun _ => ?_)))
  · rename_i hc
    refine QS.retR (by rfl) fun _ => ?_
    rw [decide_eq_true hc, Bool.true_and]; show AV.bool (!(!(le2 s.xs))) = _; rw [Bool.not_not]
  · rename_i hc
    refine QS.retR (by rfl) fun _ => ?_
    rw [decide_eq_false hc]; rfl
theorem con131 (h1 : pr 131 = none) (h150 : Has pr 150 Rel150) : Con2 (En pr) 131 Rel131 := con_eq (fun d => by simp [AV.freeL, AV.free, free_av bit_free]) (fun _ => ⟨rfl, rfl⟩) fun d hd st => run131 h1 h150 d.1 hd d.2 st
theorem use131 (h : Has pr 131 Rel131) {s : GSl UInt8} (hs : s.xs.length ≤ 140737488355328) {k : Int} (st : St) : primOf Rel131 [s.av 1 bitAV, .int .i64 k] st = some (.bool (decide ((s.xs.length : Int) = k) && le2 s.xs), st) := h.use ⟨(s, k), hs, by simp [AV.plainL, AV.plain, plain_av bit_plain], rfl⟩ st
theorem run110 (h1 : pr 110 = none) (h133 : pr 133 = some (tabPrim tab133)) (v : GSl UInt8) (k : Int) (hk : 0 ≤ k ∧ k / 2 < v.xs.length) (hl : v.xs.length ≤ 140737488355328) (hv : le2 v.xs = true) (st : St) : CW (En pr) 110 [v.av 1 bitAV, .int .i64 k] st fun r _ => r = bitAV (ofL v.xs k) := by
  have hw : IntKind.i64.wrap (k.tdiv 2) = k / 2 := by
    rcases ediv2 (l := k) (by omega) with k | k
    · exact k
    · omega
  have hx : v.xs[(k / 2).toNat]? = some (v.xs.getD (k / 2).toNat 0) := by
    rw [List.getD_eq_getElem?_getD, List.getElem?_eq_getElem (by omega)]; rfl
  have hb : (v.xs.getD (k / 2).toNat 0).toNat ≤ 2 := getD_le2 hv _
  refine CW.start (N := 19) h1 rfl rfl ?_
  repeat' (first | (refine OS.do rfl ?_; first | refine OD.indexAddr rfl rfl rfl (indexAddrA_int rfl rfl rfl rfl (by rw [hw]; omega) (by rw [hw]; exact hx)) ?_ | refine OD.auto rfl rfl ?_ | refine OD.call rfl rfl rfl h133 (use133 hb) (fun _ => rfl) ?_) | refine OS.nil ?_ | refine WS.seq ?_ | refine QS.seqN ?_ | refine WS.region ?_ | refine WS.condE rfl (fun _ => ?_) (fun _ => ?_) | refine WS.skip ?_ | refine WS.ret ?_ | refine QS.seqR ?_)
  all_goals (rename_i hc; refine QS.retR (by rfl) fun _ => ?_; unfold ofL; rw [and1 hk.1] at hc)
  · rw [if_pos hc]
  · rw [if_neg hc]
theorem con110 (h1 : pr 110 = none) (h133 : pr 133 = some (tabPrim tab133)) : Con2 (En pr) 110 Rel110 := con_eq (fun d => by simp [AV.freeL, AV.free, free_av bit_free]) (fun _ => ⟨rfl, rfl⟩) fun d hd st => run110 h1 h133 d.1 d.2 hd.1 hd.2.1 hd.2.2 st
theorem use110 (h : Has pr 110 Rel110) {k : Int} {v : GSl UInt8} (hk : 0 ≤ k ∧ k / 2 < v.xs.length) (hl : v.xs.length ≤ 140737488355328) (hv : le2 v.xs = true) (st : St) : primOf Rel110 [v.av 1 bitAV, .int .i64 k] st = some (bitAV (ofL v.xs k), st) :=
  h.use (r := bitAV (ofL v.xs k)) ⟨(v, k), ⟨hk, hl, hv⟩, by simp [AV.plainL, plain_av bit_plain, AV.plain], rfl⟩ st
theorem use110g (h : Has pr 110 Rel110) {k : Int} {v : List UInt8} {b : Bool} {t : Nat} (hk : 0 ≤ k ∧ k / 2 < v.length) (hl : v.length ≤ 140737488355328) (hv : le2 v = true) (st : St) : primOf Rel110 [growA b t 1 (v.map bitAV), .int .i64 k] st = some (bitAV (ofL v k), st) :=
  h.use (r := bitAV (ofL v k)) ⟨(GSl.some v, k), ⟨hk, hl, hv⟩, by simp [AV.plainL, plain_grow bit_plain, AV.plain], rfl⟩ st
end
end Go.OptEnv

/- All, as the program has it. -/
namespace Go.OptEnv
open Go Go.Proofs Go.Abs Go.RowKit Go.NetM
set_option maxRecDepth 10000
attribute [local irreducible] WS QS OS OD Abs.Sub SubO SubK CW GSl.av accA growA
def Rel57 : Rel := RelF FitsN (fun n => [netAV n]) fun n => .bool (validM n)
section
variable {pr : Prims}
theorem con57 (h1 : pr 57 = none) (h102 : Has pr 102 Rel102) (h104 : Has pr 104 Rel104) (h106 : Has pr 106 Rel106) : Con2 (En pr) 57 Rel57 := con_eq (fun d => by simp [AV.freeL, net_free]) (fun _ => ⟨rfl, rfl⟩) fun d hd st => run57 h1 h102 h104 h106 d hd st
theorem use57 (h : Has pr 57 Rel57) {n : GNet} (hn : FitsN n) (st : St) : primOf Rel57 [netAV n] st = some (.bool (validM n), st) := h.use ⟨n, hn, by simp [AV.plainL, net_plain], rfl⟩ st
set_option maxHeartbeats 1000000 in
theorem run109 (h1 : pr 109 = none) (h57 : Has pr 57 Rel57) (h131 : Has pr 131 Rel131) (h110 : Has pr 110 Rel110) (h132 : pr 132 = some (tabPrim tab132)) (n : GNet) (hn : FitsN n) (ins regs : GSl UInt8) (hi : ins.xs.length ≤ 100000000000) (hr : regs.xs.length ≤ 100000000000) (st : St) :
    CW (En pr) 109 [netAV n, ins.av 1 bitAV, regs.av 1 bitAV] st fun r _ => AV.free r = true ∧ AV.plain r = allAV (allR n ins.xs regs.xs) := by
  have hn' := hn
  obtain ⟨f1, f2, f3, f4, _, _, _, _, _, _⟩ := hn'
  have u1 := use57 h57 hn
  have u2 := fun (k : Int) => use131 h131 (s := ins) (by omega) (k := k)
  have u3 := fun (k : Int) => use131 h131 (s := regs) (by omega) (k := k)
  refine CW.start (N := 71) h1 rfl rfl ?_
  repeat' (first | (refine OS.do rfl ?_; first | refine OD.box rfl rfl rfl rfl (net_ok _) rfl (fun b1 => ?_) | refine OD.loadP 0 rfl rfl rfl rfl rfl rfl ?_ | refine OD.auto rfl rfl ?_ | refine OD.len rfl rfl (fun _ => lenTy_av rfl rfl) ?_ | refine OD.call rfl rfl rfl h57.eq u1 (fun _ => rfl) ?_ | refine OD.call rfl rfl rfl h131.eq (u2 _) (fun _ => rfl) ?_ | refine OD.call rfl rfl rfl h131.eq (u3 _) (fun _ => rfl) ?_) | refine OS.nil ?_ | refine OS.skip rfl rfl rfl ?_ | refine WS.seq ?_ | refine QS.seqN ?_ | refine WS.region ?_ | refine WS.condT rfl ?_ | refine WS.skip ?_ | refine WS.ret ?_ | refine QS.seqR ?_ | refine WS.condN rfl (fun _ => ?_) (fun _ => ?_) | ((fail_if_success (refine OS.do rfl ?_)); first | refine OS.splitN rfl rfl rfl (fun _ => ?_) (fun _ => ?_)))
  all_goals try (refine QS.retR (by rfl) fun _ => ⟨rfl, ?_⟩; rw [allR_no (by first | exact and_f1 (and_f1 (by assumption)) | exact and_f1 (and_f2 (by assumption)) | exact and_f2 (by assumption))]; rfl)
  rename_i hV hI hR
  have v := validM_iff.1 hV
  have hil : (ins.xs.length : Int) = n.ins.xs.length := of_decide_eq_true (Bool.and_eq_true _ _ ▸ hI).1
  have hrl : (regs.xs.length : Int) = n.regs.xs.length := of_decide_eq_true (Bool.and_eq_true _ _ ▸ hR).1
  have hi2 : le2 ins.xs = true := (Bool.and_eq_true _ _ ▸ hI).2
  have hr2 : le2 regs.xs = true := (Bool.and_eq_true _ _ ▸ hR).2
  have hgn := v.gatesN
  have l0 : ([0] ++ ins.xs ++ regs.xs : List UInt8) = 0 :: (ins.xs ++ regs.xs) := by simp
  have k0 : le2 ([0] ++ ins.xs ++ regs.xs) = true := by rw [l0]; simpa [le2] using le2_app hi2 hr2
  have hfst : n.first = ([0] ++ ins.xs ++ regs.xs : List UInt8).length := by simp only [GNet.first, List.length_append, List.length_cons, List.length_nil]; omega
  have hcw : IntKind.i64.wrap (IntKind.i64.wrap (IntKind.i64.wrap (1 + (ins.xs.length : Int)) + (regs.xs.length : Int)) + (n.gates.xs.length : Int)) = 1 + ins.xs.length + regs.xs.length + n.gates.xs.length := by
    rw [wrap64 (n := 1 + (ins.xs.length : Int)) (by omega) (by omega), wrap64 (n := 1 + (ins.xs.length : Int) + (regs.xs.length : Int)) (by omega) (by omega)]
    exact wrap64 (by omega) (by omega)
  refine OS.do rfl (OD.makeSlice0 rfl rfl (by rw [hcw]; omega) rfl rfl rfl rfl (roomB rfl (by rw [hcw]; omega)) (fun tk0 => ?_))
  repeat' (first | (refine OS.do rfl ?_; first | refine OD.loadP 0 rfl rfl rfl rfl rfl rfl ?_ | refine OD.auto rfl rfl ?_ | refine OD.len rfl rfl (fun _ => lenTy_av rfl rfl) ?_ | refine OD.appendGS (f := bitAV) (ys := [0]) 0 rfl rfl rfl rfl rfl rfl rfl rfl rfl rfl rfl ⟨_, rfl⟩ (fun _ => ⟨rfl, rfl⟩) (roomB rfl (by simp only [List.length_append, List.length_cons, List.length_nil]; omega)) (fun tk' => ?_) | refine OD.appendGS  0 rfl rfl rfl rfl rfl rfl rfl rfl rfl rfl rfl ⟨_, rfl⟩ (fun _ => ⟨rfl, rfl⟩) (roomB rfl (by simp only [List.length_append, List.length_cons, List.length_nil]; omega)) (fun tk' => ?_) | refine OD.appendG 0 rfl rfl rfl rfl rfl rfl rfl rfl rfl rfl rfl (.inr ⟨⟨_, rfl⟩, rfl⟩) (fun _ => rfl) rfl rfl (roomB rfl (by simp only [List.length_map, List.length_append, List.length_take, List.length_cons, List.length_nil]; omega)) (fun tk' => ?_)) | refine OS.nil ?_ | refine WS.seq ?_ | refine QS.seqN ?_ | refine WS.region ?_ | refine WS.block ?_)
  refine WS.range (A := Bool × Nat × List UInt8) (n := n.gates.xs.length) ⟨53, _, fun a => [(8, growA a.1 a.2.1 1 (a.2.2.map bitAV))], fun _ => [(b1, .row 4 [netAV n])], fun a => [(a.2.1, a.1)], fun i a => a.2.2 = gatesM ([0] ++ ins.xs ++ regs.xs) (n.gates.xs.take i)⟩ ((true || !([ofValue (Value.int IntKind.u8 0)] : List AV).isEmpty || !ins.xs.isEmpty || !regs.xs.isEmpty, tk', [0] ++ ins.xs ++ regs.xs)) [51, 52] (by rfl) (by omega) (rfl) (by rfl) (by (try dsimp only); repeat' (first | exact Sub.nil _ | refine Sub.cons (congrArg (fun z => some (AV.int .i64 z)) (wrap_succ (by omega))) ?_ | refine Sub.cons rfl ?_)) (by (try dsimp only); repeat' (first | exact SubO.nil _ | exact SubO.refl _ | refine SubO.keep ?_ | refine SubO.drop ?_)) (by (try dsimp only); repeat' (first | exact SubK.nil _ | exact SubK.refl _ | refine SubK.keep (by simp) ?_ | refine SubK.new ?_ | refine SubK.drop ?_)) (by rfl) (by rfl) (by rfl) (by rfl) (by rfl) (by rfl) (fun _ _ => by rfl) (fun _ => by rfl) (fun _ _ => by rfl) (fun _ _ => by rfl) ?_ ?_
  · rintro i ⟨b, tk, w⟩ hi ha
    try dsimp only at ha
    have hwl : w.length = ([0] ++ ins.xs ++ regs.xs : List UInt8).length + i := by rw [ha, gatesM_len, List.length_take]; omega
    have hwb : w.length ≤ 300000 := by
      have := names_len v.ins
      have := names_len v.regs
      simp only [List.length_map] at this
      rw [hwl]; simp only [List.length_append, List.length_cons, List.length_nil]; omega
    have hw2 : le2 w = true := by rw [ha]; exact gatesM_le2 _ k0
    have hg := gatesOk_take (k := n.first) hi
    have hg2 : gatesOk n.first (n.gates.xs.take (i + 1)) = true := by
      have := v.gates
      rw [← List.take_append_drop (i + 1) n.gates.xs] at this
      exact gatesOk_app _ _ _ this
    rw [hg2] at hg
    have hg := (Bool.and_eq_true _ _ ▸ hg.symm).2
    have hg1 := lit_of (Bool.and_eq_true _ _ ▸ hg).1
    have hg2 := lit_of (Bool.and_eq_true _ _ ▸ hg).2
    have c1 := use110g h110 (k := n.gates.xs[i].1) (v := w) (b := b) (t := tk) ⟨hg1.1, by omega⟩ (by omega) hw2
    have c2 := use110g h110 (k := n.gates.xs[i].2) (v := w) (b := b) (t := tk) ⟨hg2.1, by omega⟩ (by omega) hw2
    have c3 := use132 (ofL_le2 hw2 n.gates.xs[i].1) (ofL_le2 hw2 n.gates.xs[i].2)
    dsimp only [RSt.at, List.cons_append, List.nil_append]
    repeat' (first | (refine OS.do rfl ?_; first | refine OD.auto rfl rfl ?_ | refine OD.indexAddr rfl rfl rfl (indexAddrA_nat rfl rfl rfl rfl (by first | assumption | exact List.getElem?_eq_getElem (by omega))) ?_ | refine OD.alloc rfl rfl rfl rfl (fun _ => ?_) | refine OD.storeW 0 rfl rfl rfl rfl (by first | rfl | exact net_ok _) rfl rfl rfl ?_) | refine OS.nil ?_ | refine WS.seq ?_ | refine QS.seqN ?_ | refine WS.region ?_)
    refine WS.drawT 10 rfl rfl rfl rfl ?_; (repeat' (first | refine SegT.nil ?_ | refine SegT.auto rfl rfl rfl rfl ?_ | refine SegT.loadP 0 rfl rfl rfl rfl rfl rfl rfl ?_ | refine SegT.loadP 1 rfl rfl rfl rfl rfl rfl rfl ?_ | refine SegT.loadP 2 rfl rfl rfl rfl rfl rfl rfl ?_ | refine SegT.len rfl rfl rfl (fun _ => lenTy_av rfl rfl) ?_ | refine SegT.len rfl rfl rfl (fun _ => rfl) ?_ | refine SegT.indexAddr rfl rfl rfl rfl rfl ?_ | refine SegT.skip rfl rfl rfl ?_ | refine SegT.call rfl rfl rfl rfl h110.eq c1 (fun _ => rfl) ?_ | refine SegT.call rfl rfl rfl rfl h110.eq c2 (fun _ => rfl) ?_ | refine SegT.call rfl rfl rfl rfl h132 c3 (fun _ => rfl) ?_))
    dsimp only [RSt.at, List.cons_append, List.nil_append]
    repeat' (first | (refine OS.do rfl ?_; first | refine OD.auto rfl rfl ?_ | refine OD.appendG 0 rfl rfl rfl rfl rfl rfl rfl rfl rfl rfl rfl (.inr ⟨⟨_, rfl⟩, rfl⟩) (fun _ => rfl) rfl rfl (roomB rfl (by simp only [List.length_map, List.length_append, List.length_take, List.length_cons, List.length_nil]; omega)) (fun tk' => ?_)) | refine OS.nil ?_)
    refine QS.rangeN ((b || true, tk', w ++ [andB (ofL w n.gates.xs[i].1) (ofL w n.gates.xs[i].2)])) (by (try dsimp only) <;> exact (by rw [← l0, gatesM_take hi, ← ha])) (by (try dsimp only [RSt.at, List.cons_append, List.nil_append]); repeat' (first | exact Sub.nil _ | refine Sub.cons (by rw [List.map_append]; rfl) ?_ | refine Sub.cons (congrArg (fun z => some (AV.int .i64 z)) (wrap_succ (by omega))) ?_ | refine Sub.cons rfl ?_)) (by (try dsimp only); repeat' (first | exact SubO.nil _ | exact SubO.refl _ | refine SubO.keep ?_ | refine SubO.drop ?_)) (by (try dsimp only); repeat' (first | exact SubK.nil _ | exact SubK.refl _ | refine SubK.keep (by simp) ?_ | refine SubK.new ?_ | refine SubK.drop ?_))
  rintro ⟨b, tk, w⟩ ha
  try dsimp only at ha
  rw [List.take_of_length_le (Nat.le_refl _)] at ha
  dsimp only [RSt.at, List.cons_append, List.nil_append]
  repeat' (first | (refine OS.do rfl ?_; first | refine OD.auto rfl rfl ?_) | refine OS.nil ?_ | refine WS.seq ?_ | refine QS.seqN ?_ | refine WS.region ?_ | refine WS.ret ?_)
  refine QS.retR (by rfl) fun _ => ⟨?_, ?_⟩
  · simp only [AV.free, AV.freeL, free_grow bit_free, Bool.and_true]; rfl
  · rw [allR_yes hV hI hR]
    simp only [AV.plain, AV.plainL, plain_grow bit_plain, allAV]
    rw [ha, l0]; rfl
end
end Go.OptEnv

/- Eval, as the program has it; first values. -/
namespace Go.OptEnv
open Go Go.Proofs Go.Abs Go.RowKit Go.NetM
set_option maxRecDepth 10000
attribute [local irreducible] WS QS OS OD Abs.Sub SubO SubK CW GSl.av accA growA
def Rel109 : Rel := RelF (fun p : GNet × GSl UInt8 × GSl UInt8 => FitsN p.1 ∧ p.2.1.xs.length ≤ 100000000000 ∧ p.2.2.xs.length ≤ 100000000000) (fun p => [netAV p.1, p.2.1.av 1 bitAV, p.2.2.av 1 bitAV]) fun p => allAV (allR p.1 p.2.1.xs p.2.2.xs)
def Rel59 : Rel := RelF (fun p : GNet × GSl UInt8 × GSl UInt8 => FitsN p.1 ∧ p.2.1.xs.length ≤ 100000000000 ∧ p.2.2.xs.length ≤ 100000000000) (fun p => [netAV p.1, p.2.1.av 1 bitAV, p.2.2.av 1 bitAV]) fun p => evalAV (evalR p.1 p.2.1.xs p.2.2.xs)
def Rel47 : Rel := RelF (fun n : GNet => n.regs.xs.length ≤ 1000000) (fun n => [netAV n]) fun n => (GSl.of (n.regs.xs.map (·.init))).av 1 bitAV
section
variable {pr : Prims}
theorem con109 (h1 : pr 109 = none) (h57 : Has pr 57 Rel57) (h131 : Has pr 131 Rel131) (h110 : Has pr 110 Rel110) (h132 : pr 132 = some (tabPrim tab132)) : Con2 (En pr) 109 Rel109 :=
  con_of (fun d => by simp [AV.freeL, net_free, free_av bit_free]) fun d hd st => run109 h1 h57 h131 h110 h132 d.1 hd.1 d.2.1 d.2.2 hd.2.1 hd.2.2 st
theorem use109 (h : Has pr 109 Rel109) {n : GNet} (hn : FitsN n) {ins regs : GSl UInt8} (hi : ins.xs.length ≤ 100000000000) (hr : regs.xs.length ≤ 100000000000) (st : St) : primOf Rel109 [netAV n, ins.av 1 bitAV, regs.av 1 bitAV] st = some (allAV (allR n ins.xs regs.xs), st) :=
  h.use (r := allAV (allR n ins.xs regs.xs)) ⟨(n, ins, regs), ⟨hn, hi, hr⟩, by simp [AV.plainL, net_plain, plain_av bit_plain], rfl⟩ st
set_option maxHeartbeats 1000000 in
theorem run59 (h1 : pr 59 = none) (h109 : Has pr 109 Rel109) (h110 : Has pr 110 Rel110) (n : GNet) (hn : FitsN n) (ins regs : GSl UInt8) (hi : ins.xs.length ≤ 100000000000) (hr : regs.xs.length ≤ 100000000000) (st : St) :
    CW (En pr) 59 [netAV n, ins.av 1 bitAV, regs.av 1 bitAV] st fun r _ => AV.free r = true ∧ AV.plain r = evalAV (evalR n ins.xs regs.xs) := by
  have hn' := hn
  obtain ⟨f1, f2, f3, f4, _, _, _, _, _, _⟩ := hn'
  have u1 := use109 h109 hn hi hr
  unfold evalR
  cases hx : allR n ins.xs regs.xs with
  | none =>
    rw [hx] at u1
    refine CW.start (N := 56) h1 rfl rfl ?_
    repeat' (first | (refine OS.do rfl ?_; first | refine OD.box rfl rfl rfl rfl (net_ok _) rfl (fun b1 => ?_) | refine OD.loadP 0 rfl rfl rfl rfl rfl rfl ?_ | refine OD.auto rfl rfl ?_ | refine OD.call rfl rfl rfl h109.eq u1 (fun _ => rfl) ?_) | refine OS.nil ?_ | refine WS.seq ?_ | refine QS.seqN ?_ | refine WS.region ?_ | refine WS.condT rfl ?_ | refine WS.ret ?_ | refine QS.seqR ?_)
    refine QS.retR (by rfl) fun _ => ⟨rfl, rfl⟩
  | some v =>
    rw [hx] at u1
    obtain ⟨hv, _, _, _, _, _, hv2, hvl⟩ := allR_spec hx
    have hgn := hv.gatesN
    have hvb : v.length ≤ 300000 := by
      have := names_len hv.ins
      have := names_len hv.regs
      simp only [List.length_map, GNet.nodes, GNet.first] at *
      omega
    have hol : n.outs.xs.length ≤ 500 := by have := names_len hv.outs; simpa using this
    have hrl : n.regs.xs.length ≤ 500 := by have := names_len hv.regs; simpa using this
    have hfz : ∀ st, freezeA st (allAV (some v)) = some (allAV (some v), st) := fun st => freeze_free (all_free _)
    refine CW.start (N := 56) h1 rfl rfl ?_
    repeat' (first | (refine OS.do rfl ?_; first | refine OD.box rfl rfl rfl rfl (net_ok _) rfl (fun b1 => ?_) | refine OD.loadP 0 rfl rfl rfl rfl rfl rfl ?_ | refine OD.auto rfl rfl ?_ | refine OD.len rfl rfl (fun _ => lenTy_av rfl rfl) ?_ | refine OD.call rfl rfl rfl h109.eq u1 hfz ?_) | refine OS.nil ?_ | refine WS.seq ?_ | refine QS.seqN ?_ | refine WS.region ?_ | refine WS.condF rfl ?_ | refine WS.skip ?_ | refine WS.block ?_)
    refine WS.range (A := Nat × List UInt8) (n := n.outs.xs.length) ⟨27, _, fun a => [(6, accA a.1 1 (a.2.map bitAV))], fun _ => [(b1, .row 4 [netAV n])], fun a => [(a.1, !(a.2.map bitAV).isEmpty)], fun i a => a.2 = (n.outs.xs.take i).map (fun p => ofL v p.lit)⟩ ((0, [])) [3, 7, 9, 25, 26] (by rfl) (by omega) (by simp) (by rfl) (by (try dsimp only); repeat' (first | exact Sub.nil _ | refine Sub.cons (congrArg some (accA_nil _ _).symm) ?_ | refine Sub.cons (congrArg (fun z => some (AV.int .i64 z)) (wrap_succ (by omega))) ?_ | refine Sub.cons rfl ?_)) (by (try dsimp only); repeat' (first | exact SubO.nil _ | exact SubO.refl _ | refine SubO.keep ?_ | refine SubO.drop ?_)) (by (try dsimp only); repeat' (first | exact SubK.nil _ | exact SubK.refl _ | refine SubK.keep (by simp) ?_ | refine SubK.new ?_ | refine SubK.drop ?_)) (by rfl) (by rfl) (by rfl) (by rfl) (by rfl) (by rfl) (fun _ _ => by rfl) (fun _ => by rfl) (fun _ _ => by rfl) (fun _ _ => by rfl) ?_ ?_
    · rintro i ⟨tk, a⟩ hi ha
      try dsimp only at ha
      have hal : a.length ≤ 500 := by rw [ha]; simp only [List.length_map, List.length_take]; omega
      have hl := lit_of (all_get hv.lits hi)
      have c1 := use110 h110 (k := n.outs.xs[i].lit) (v := GSl.some v) ⟨hl.1, by rw [show (GSl.some v).xs = v from rfl]; omega⟩ (by rw [show (GSl.some v).xs = v from rfl]; omega) hv2
      dsimp only [RSt.at, List.cons_append, List.nil_append]
      repeat' (first | (refine OS.do rfl ?_; first | refine OD.loadP 0 rfl rfl rfl rfl rfl rfl ?_ | refine OD.auto rfl rfl ?_ | refine OD.indexAddr rfl rfl rfl (indexAddrA_nat rfl rfl rfl rfl (by first | assumption | exact List.getElem?_eq_getElem (by omega))) ?_ | refine OD.alloc rfl rfl rfl rfl (fun _ => ?_) | refine OD.storeW 0 rfl rfl rfl rfl (by first | rfl | exact net_ok _) rfl rfl rfl ?_ | refine OD.call rfl rfl rfl h110.eq c1 (fun _ => rfl) ?_ | refine OD.append 0 rfl rfl rfl rfl rfl rfl rfl rfl rfl rfl rfl (.inr ⟨⟨_, rfl⟩, rfl⟩) (fun _ => rfl) rfl rfl (roomB rfl (by simp only [List.length_map, List.length_append, List.length_take, List.length_cons, List.length_nil]; omega)) (fun tk' => ?_)) | refine OS.nil ?_ | refine WS.seq ?_ | refine QS.seqN ?_ | refine WS.region ?_)
      refine QS.rangeN ((tk', a ++ [ofL v n.outs.xs[i].lit])) (by (try dsimp only) <;> exact (by rw [map_take_succ hi, ha])) (by (try dsimp only [RSt.at, List.cons_append, List.nil_append]); repeat' (first | exact Sub.nil _ | refine Sub.cons (by rw [List.map_append]; rfl) ?_ | refine Sub.cons (congrArg (fun z => some (AV.int .i64 z)) (wrap_succ (by omega))) ?_ | refine Sub.cons rfl ?_)) (by (try dsimp only); repeat' (first | exact SubO.nil _ | exact SubO.refl _ | refine SubO.keep ?_ | refine SubO.drop ?_)) (by (try dsimp only); repeat' (first | exact SubK.nil _ | exact SubK.refl _ | refine SubK.keep (by simp) ?_ | refine SubK.new ?_ | refine SubK.drop ?_))
    rintro ⟨tk, a⟩ ha
    try dsimp only at ha
    rw [List.take_of_length_le (Nat.le_refl _)] at ha
    dsimp only [RSt.at, List.cons_append, List.nil_append]
    repeat' (first | (refine OS.do rfl ?_; first | refine OD.loadP 0 rfl rfl rfl rfl rfl rfl ?_ | refine OD.auto rfl rfl ?_ | refine OD.len rfl rfl (fun _ => lenTy_av rfl rfl) ?_) | refine OS.nil ?_ | refine WS.seq ?_ | refine QS.seqN ?_ | refine WS.region ?_ | refine WS.block ?_)
    refine WS.range (A := Nat × List UInt8) (n := n.regs.xs.length) ⟨42, _, fun a => [(7, accA a.1 1 (a.2.map bitAV))], fun _ => [(b1, .row 4 [netAV n])], fun a => [(a.1, !(a.2.map bitAV).isEmpty)], fun i a => a.2 = (n.regs.xs.take i).map (fun p => ofL v p.next)⟩ ((0, [])) [6, 9, 40, 41] (by rfl) (by omega) (by simp) (by rfl) (by (try dsimp only); repeat' (first | exact Sub.nil _ | refine Sub.cons (congrArg some (accA_nil _ _).symm) ?_ | refine Sub.cons (congrArg (fun z => some (AV.int .i64 z)) (wrap_succ (by omega))) ?_ | refine Sub.cons rfl ?_)) (by (try dsimp only); repeat' (first | exact SubO.nil _ | exact SubO.refl _ | refine SubO.keep ?_ | refine SubO.drop ?_)) (by (try dsimp only); repeat' (first | exact SubK.nil _ | exact SubK.refl _ | refine SubK.keep (by simp) ?_ | refine SubK.new ?_ | refine SubK.drop ?_)) (by rfl) (by rfl) (by rfl) (by rfl) (by rfl) (by rfl) (fun _ _ => by rfl) (fun _ => by rfl) (fun _ _ => by rfl) (fun _ _ => by rfl) ?_ ?_
    · rintro i ⟨tk2, c⟩ hi hc
      try dsimp only at hc
      have hcl : c.length ≤ 500 := by rw [hc]; simp only [List.length_map, List.length_take]; omega
      have hl := lit_of (all_get hv.nexts hi)
      have c1 := use110 h110 (k := n.regs.xs[i].next) (v := GSl.some v) ⟨hl.1, by rw [show (GSl.some v).xs = v from rfl]; omega⟩ (by rw [show (GSl.some v).xs = v from rfl]; omega) hv2
      dsimp only [RSt.at, List.cons_append, List.nil_append]
      repeat' (first | (refine OS.do rfl ?_; first | refine OD.loadP 0 rfl rfl rfl rfl rfl rfl ?_ | refine OD.auto rfl rfl ?_ | refine OD.indexAddr rfl rfl rfl (indexAddrA_nat rfl rfl rfl rfl (by first | assumption | exact List.getElem?_eq_getElem (by omega))) ?_ | refine OD.alloc rfl rfl rfl rfl (fun _ => ?_) | refine OD.storeW 0 rfl rfl rfl rfl (by first | rfl | exact net_ok _) rfl rfl rfl ?_ | refine OD.call rfl rfl rfl h110.eq c1 (fun _ => rfl) ?_ | refine OD.append 0 rfl rfl rfl rfl rfl rfl rfl rfl rfl rfl rfl (.inr ⟨⟨_, rfl⟩, rfl⟩) (fun _ => rfl) rfl rfl (roomB rfl (by simp only [List.length_map, List.length_append, List.length_take, List.length_cons, List.length_nil]; omega)) (fun tk' => ?_)) | refine OS.nil ?_ | refine WS.seq ?_ | refine QS.seqN ?_ | refine WS.region ?_)
      refine QS.rangeN ((tk', c ++ [ofL v n.regs.xs[i].next])) (by (try dsimp only) <;> exact (by rw [map_take_succ hi, hc])) (by (try dsimp only [RSt.at, List.cons_append, List.nil_append]); repeat' (first | exact Sub.nil _ | refine Sub.cons (by rw [List.map_append]; rfl) ?_ | refine Sub.cons (congrArg (fun z => some (AV.int .i64 z)) (wrap_succ (by omega))) ?_ | refine Sub.cons rfl ?_)) (by (try dsimp only); repeat' (first | exact SubO.nil _ | exact SubO.refl _ | refine SubO.keep ?_ | refine SubO.drop ?_)) (by (try dsimp only); repeat' (first | exact SubK.nil _ | exact SubK.refl _ | refine SubK.keep (by simp) ?_ | refine SubK.new ?_ | refine SubK.drop ?_))
    rintro ⟨tk2, c⟩ hc
    try dsimp only at hc
    rw [List.take_of_length_le (Nat.le_refl _)] at hc
    dsimp only [RSt.at, List.cons_append, List.nil_append]
    repeat' (first | (refine OS.do rfl ?_; first | refine OD.auto rfl rfl ?_) | refine OS.nil ?_ | refine WS.seq ?_ | refine QS.seqN ?_ | refine WS.region ?_ | refine WS.ret ?_)
    refine QS.retR (by rfl) fun _ => ⟨?_, ?_⟩
    · simp only [AV.free, AV.freeL, free_acc bit_free, Bool.and_true]; rfl
    · simp only [AV.plain, AV.plainL, plain_acc bit_plain, evalAV, Option.map]
      rw [ha, hc]; rfl
theorem con48 (h1 : pr 48 = none) (h90 : Has pr 90 Rel90) (h92 : Has pr 92 Rel92) : Con2 (En pr) 48 Rel48 :=
  con_of (fun d => by simp [AV.freeL, net_free, free_av bit_free]) fun d hd st => run48 h1 h90 h92 d.1 hd.1 d.2.1 d.2.2 hd.2.1 hd.2.2 st
theorem con59 (h1 : pr 59 = none) (h109 : Has pr 109 Rel109) (h110 : Has pr 110 Rel110) : Con2 (En pr) 59 Rel59 :=
  con_of (fun d => by simp [AV.freeL, net_free, free_av bit_free]) fun d hd st => run59 h1 h109 h110 d.1 hd.1 d.2.1 d.2.2 hd.2.1 hd.2.2 st
theorem eval_free (x : Option (List UInt8 × List UInt8)) : AV.free (evalAV x) = true := by
  cases x with
  | none => rfl
  | some v => simp only [evalAV, AV.free, AV.freeL, free_av bit_free, Bool.and_true]
theorem use48 (h : Has pr 48 Rel48) {n : GNet} (hn : FitsN n) {ins regs : GSl UInt8} (hi : ins.xs.length ≤ 100000000000) (hr : regs.xs.length ≤ 100000000000) (st : St) : primOf Rel48 [netAV n, ins.av 1 bitAV, regs.av 1 bitAV] st = some (evalAV (evalR n ins.xs regs.xs), st) :=
  h.use (r := evalAV (evalR n ins.xs regs.xs)) ⟨(n, ins, regs), ⟨hn, hi, hr⟩, by simp [AV.plainL, net_plain, plain_av bit_plain], rfl⟩ st
set_option maxHeartbeats 1000000 in
theorem run47 (h1 : pr 47 = none) (n : GNet) (f2 : n.regs.xs.length ≤ 1000000) (st : St) : CW (En pr) 47 [netAV n] st fun r _ => AV.free r = true ∧ AV.plain r = (GSl.of (n.regs.xs.map (·.init))).av 1 bitAV := by
  refine CW.start (N := 20) h1 rfl rfl ?_
  repeat' (first | (refine OS.do rfl ?_; first | refine OD.box rfl rfl rfl rfl (net_ok _) rfl (fun b1 => ?_) | refine OD.loadP 0 rfl rfl rfl rfl rfl rfl ?_ | refine OD.auto rfl rfl ?_ | refine OD.len rfl rfl (fun _ => lenTy_av rfl rfl) ?_) | refine OS.nil ?_ | refine WS.seq ?_ | refine QS.seqN ?_ | refine WS.region ?_ | refine WS.block ?_)
  refine WS.range (A := Nat × List UInt8) (n := n.regs.xs.length) ⟨9, _, fun a => [(3, accA a.1 1 (a.2.map bitAV))], fun _ => [(b1, .row 4 [netAV n])], fun a => [(a.1, !(a.2.map bitAV).isEmpty)], fun i a => a.2 = (n.regs.xs.take i).map (·.init)⟩ ((0, [])) [7, 8] (by rfl) (by omega) (by simp) (by rfl) (by (try dsimp only); repeat' (first | exact Sub.nil _ | refine Sub.cons (congrArg some (accA_nil _ _).symm) ?_ | refine Sub.cons (congrArg (fun z => some (AV.int .i64 z)) (wrap_succ (by omega))) ?_ | refine Sub.cons rfl ?_)) (by (try dsimp only); repeat' (first | exact SubO.nil _ | exact SubO.refl _ | refine SubO.keep ?_ | refine SubO.drop ?_)) (by (try dsimp only); repeat' (first | exact SubK.nil _ | exact SubK.refl _ | refine SubK.keep (by simp) ?_ | refine SubK.new ?_ | refine SubK.drop ?_)) (by rfl) (by rfl) (by rfl) (by rfl) (by rfl) (by rfl) (fun _ _ => by rfl) (fun _ => by rfl) (fun _ _ => by rfl) (fun _ _ => by rfl) ?_ ?_
  · rintro i ⟨tk, a⟩ hi ha
    try dsimp only at ha
    have hal : a.length ≤ n.regs.xs.length - 1 := by rw [ha]; simp only [List.length_map, List.length_take]; omega
    dsimp only [RSt.at, List.cons_append, List.nil_append]
    repeat' (first | (refine OS.do rfl ?_; first | refine OD.loadP 0 rfl rfl rfl rfl rfl rfl ?_ | refine OD.auto rfl rfl ?_ | refine OD.indexAddr rfl rfl rfl (indexAddrA_nat rfl rfl rfl rfl (by first | assumption | exact List.getElem?_eq_getElem (by omega))) ?_ | refine OD.alloc rfl rfl rfl rfl (fun _ => ?_) | refine OD.storeW 0 rfl rfl rfl rfl (by first | rfl | exact net_ok _) rfl rfl rfl ?_ | refine OD.append 0 rfl rfl rfl rfl rfl rfl rfl rfl rfl rfl rfl (.inr ⟨⟨_, rfl⟩, rfl⟩) (fun _ => rfl) rfl rfl (roomB rfl (by simp only [List.length_map, List.length_append, List.length_take, List.length_cons, List.length_nil]; omega)) (fun tk' => ?_)) | refine OS.nil ?_ | refine WS.seq ?_ | refine QS.seqN ?_ | refine WS.region ?_)
    refine QS.rangeN ((tk', a ++ [n.regs.xs[i].init])) (by (try dsimp only) <;> exact (by rw [map_take_succ hi, ha])) (by (try dsimp only [RSt.at, List.cons_append, List.nil_append]); repeat' (first | exact Sub.nil _ | refine Sub.cons (by rw [List.map_append]; rfl) ?_ | refine Sub.cons (congrArg (fun z => some (AV.int .i64 z)) (wrap_succ (by omega))) ?_ | refine Sub.cons rfl ?_)) (by (try dsimp only); repeat' (first | exact SubO.nil _ | exact SubO.refl _ | refine SubO.keep ?_ | refine SubO.drop ?_)) (by (try dsimp only); repeat' (first | exact SubK.nil _ | exact SubK.refl _ | refine SubK.keep (by simp) ?_ | refine SubK.new ?_ | refine SubK.drop ?_))
  rintro ⟨tk, a⟩ ha
  try dsimp only at ha
  rw [List.take_of_length_le (Nat.le_refl _)] at ha
  dsimp only [RSt.at, List.cons_append, List.nil_append]
  repeat' (first | (refine OS.do rfl ?_; first | refine OD.auto rfl rfl ?_) | refine OS.nil ?_ | refine WS.seq ?_ | refine QS.seqN ?_ | refine WS.region ?_ | refine WS.ret ?_)
  refine QS.retR (by rfl) fun _ => ⟨free_acc bit_free, ?_⟩
  rw [plain_acc bit_plain, ha]
theorem con47 (h1 : pr 47 = none) : Con2 (En pr) 47 Rel47 := con_of (fun d => by simp [AV.freeL, net_free]) fun d hd st => run47 h1 d hd st
/-- Few enough. -/
def fewM (n : GNet) : Bool := decide (n.ins.xs.length + n.regs.xs.length + n.outs.xs.length ≤ 120) && decide (n.gates.xs.length ≤ 300)
theorem run15 (h1 : pr 15 = none) (n : GNet) (hn : FitsN n) (st : St) : CW (En pr) 15 [netAV n] st fun r _ => r = .bool (fewM n) := by
  obtain ⟨f1, f2, f3, f4, _, _, _, _, _, _⟩ := hn
  have w2 : IntKind.i64.wrap (IntKind.i64.wrap ((n.ins.xs.length : Int) + (n.regs.xs.length : Int)) + (n.outs.xs.length : Int)) = (n.ins.xs.length : Int) + (n.regs.xs.length : Int) + (n.outs.xs.length : Int) := by
    rw [wrap64 (n := (n.ins.xs.length : Int) + (n.regs.xs.length : Int)) (by omega) (by omega)]
    exact wrap64 (by omega) (by omega)
  refine CW.start (N := 21) h1 rfl rfl ?_
  repeat' (first | (refine OS.do rfl ?_; first | refine OD.box rfl rfl rfl rfl (net_ok _) rfl (fun b1 => ?_) | refine OD.loadP 0 rfl rfl rfl rfl rfl rfl ?_ | refine OD.auto rfl rfl ?_ | refine OD.len rfl rfl (fun _ => lenTy_av rfl rfl) ?_) | refine OS.nil ?_ | refine OS.skip rfl rfl rfl ?_ | refine WS.seq ?_ | refine QS.seqN ?_ | refine WS.region ?_ | refine WS.ret ?_ | ((fail_if_success (refine OS.do rfl ?_)); first | refine OS.splitD rfl rfl rfl (fun _ => ?_) (fun _ => ?_)))
  all_goals (refine QS.retR (by rfl) fun _ => ?_; show AV.bool _ = _; congr 1; unfold fewM; rw [Bool.eq_iff_iff]; simp only [Bool.and_eq_true, decide_eq_true_eq, true_iff, false_iff, reduceCtorEq, not_and]; omega)
def Rel15 : Rel := RelF (fun n : GNet => FitsN n) (fun n => [netAV n]) fun n => .bool (fewM n)
theorem con15 (h1 : pr 15 = none) : Con2 (En pr) 15 Rel15 := con_eq (fun d => by simp [AV.freeL, net_free]) (fun _ => ⟨rfl, rfl⟩) fun d hd st => run15 h1 d hd st
end
end Go.OptEnv

/- Operations on what lies in memory, by what is known of it. -/
namespace Go.Abs
open Go.RowKit
section
variable {E : Env} {fid N : Nat} {l : List (Nat × AV)} {L : List (Nat × AObj)} {K : List (Nat × Bool)} {Q : AExit → TM → St → Prop}
variable {c : Bool} {pol : Nat → Nat} {ops : Array Oper} {o : Oper} {r : List Oper} {i : Nat} {d : Nat} {ty : TypeId} {pos : String} {after : Array Edge} {guard : Option (Nat × Bool)}
theorem SFa.noK {st : St} (h : SFa L K st) : SFa L [] st := ⟨h.obj, h.uniq, fun _ _ h => by simp at h, fun _ _ _ h => by simp at h⟩
theorem SFa.subO {L' : List (Nat × AObj)} {st : St} (h : SFa L K st) (hs : SubO L L') : SFa L' [] st := by
  obtain ⟨f, h1, h2⟩ := hs
  refine ⟨fun k b o hk => h.obj (f k) b o (h1 k _ hk), fun k k' b o o' hk hk' => ?_, fun _ _ h => by simp at h, fun _ _ _ h => by simp at h⟩
  exact h2 k k' (List.getElem?_eq_some_iff.1 hk).1 (List.getElem?_eq_some_iff.1 hk').1 (h.uniq (f k) (f k') b o o' (h1 k _ hk) (h1 k' _ hk'))
/-- A call, whatever it does to memory, as its caller keeps what it gives. -/
theorem OD.callZ {D : Type} {f : Operand} {args : Array Operand} {argTypes : Array TypeId} {g : FuncId} {first cap vs : List AV} (p : D → Prop) (vf : D → AV) (Lf : D → List (Nat × AObj)) (Kf : D → List (Nat × Bool)) (hpol : Nat.beq (pol i) 2 = true) (hn : Nat.blt d N = true) (hf : evL l f = some (.fn g first cap)) (ha : evLs l args.toList = some vs)
    (hr : ∀ st, SFa L K st → CW E g (first ++ vs ++ cap) st fun x st' => ∃ dd st2, p dd ∧ freezeA st' x = some (vf dd, st2) ∧ SFa (Lf dd) (Kf dd) st2)
    (k : ∀ dd, p dd → OS E false pol ops r (i + 1) N ((d, vf dd) :: l) (Lf dd) (Kf dd) Q) : OD E false pol ops { dst := some d, op := .call { callee := .value f, args := args, argTypes := argTypes }, type := ty, pos := pos, after := after, guard := guard } r i N l L K Q := by
  intro pre tm st hF hp' hw
  obtain ⟨n1, x, st', hc, dd, st2, hx, hz, hS⟩ := hr st hF.s
  obtain ⟨n, tr, tm1, st1, h1, _, h2⟩ := k dd hx pre (tm.put d (vf dd)) st2 ((hF.withS2 hS).put hn (vf dd)) hp'
  refine ⟨Nat.max n n1, ⟨tm, st, st2, vf dd, true⟩ :: tr, tm1, st1, ?_, (fun hc => by cases hc), h2⟩
  have hl : Abs.loud E (callF E (Nat.max n n1)) (pol i) tm st { dst := some d, op := .call { callee := .value f, args := args, argTypes := argTypes }, type := ty, pos := pos, after := after, guard := guard } = some (x, st') := by
    have : Abs.loud E (callF E (Nat.max n n1)) (pol i) tm st { dst := some d, op := .call { callee := .value f, args := args, argTypes := argTypes }, type := ty, pos := pos, after := after, guard := guard } = (match evalO tm f with | .fn g first cap => callF E (Nat.max n n1) g (first ++ args.toList.map (evalO tm) ++ cap) st | _ => none) := rfl
    rw [this, hF.ev hf, hF.evs ha]
    exact callF_mono n1 (Nat.max n n1) (Nat.le_max_right _ _) _ _ _ _ hc
  have hpi : pol i = 2 := Nat.eq_of_beq_eq_true hpol
  have hst : stepPre E (callF E (Nat.max n n1)) pre (pol i) i tm st { dst := some d, op := .call { callee := .value f, args := args, argTypes := argTypes }, type := ty, pos := pos, after := after, guard := guard } = some (vf dd, st2) := by
    rw [hpi] at hl ⊢
    simp only [stepPre, stepOp, isLoud, if_true, hl, isFnCall, Bool.and_true, decide_true]
    exact hz
  simp only [runOpsT]
  rw [hw]
  dsimp only
  rw [hst]
  dsimp only [putO]
  rw [runOpsT_mono (callF_mono n (Nat.max n n1) (Nat.le_max_left _ _)) _ _ _ _ h1]
/-- The same, where nothing is frozen. -/
theorem OD.callR {D : Type} {f : Operand} {args : Array Operand} {argTypes : Array TypeId} {g : FuncId} {first cap vs : List AV} (p : D → Prop) (vf : D → AV) (Lf : D → List (Nat × AObj)) (Kf : D → List (Nat × Bool)) (hpol : Nat.beq (pol i) 2 = false) (hn : Nat.blt d N = true) (hf : evL l f = some (.fn g first cap)) (ha : evLs l args.toList = some vs)
    (hr : ∀ st, SFa L K st → CW E g (first ++ vs ++ cap) st fun x st' => ∃ dd, p dd ∧ x = vf dd ∧ SFa (Lf dd) (Kf dd) st')
    (k : ∀ dd, p dd → OS E false pol ops r (i + 1) N ((d, vf dd) :: l) (Lf dd) (Kf dd) Q) : OD E false pol ops { dst := some d, op := .call { callee := .value f, args := args, argTypes := argTypes }, type := ty, pos := pos, after := after, guard := guard } r i N l L K Q := by
  intro pre tm st hF hp' hw
  obtain ⟨n1, x, st', hc, dd, hx, rfl, hS⟩ := hr st hF.s
  obtain ⟨n, tr, tm1, st1, h1, _, h2⟩ := k dd hx pre (tm.put d (vf dd)) st' ((hF.withS2 hS).put hn (vf dd)) hp'
  refine ⟨Nat.max n n1, ⟨tm, st, st', vf dd, true⟩ :: tr, tm1, st1, ?_, (fun hc => by cases hc), h2⟩
  have hl : Abs.loud E (callF E (Nat.max n n1)) (pol i) tm st { dst := some d, op := .call { callee := .value f, args := args, argTypes := argTypes }, type := ty, pos := pos, after := after, guard := guard } = some (vf dd, st') := by
    have : Abs.loud E (callF E (Nat.max n n1)) (pol i) tm st { dst := some d, op := .call { callee := .value f, args := args, argTypes := argTypes }, type := ty, pos := pos, after := after, guard := guard } = (match evalO tm f with | .fn g first cap => callF E (Nat.max n n1) g (first ++ args.toList.map (evalO tm) ++ cap) st | _ => none) := rfl
    rw [this, hF.ev hf, hF.evs ha]
    exact callF_mono n1 (Nat.max n n1) (Nat.le_max_right _ _) _ _ _ _ hc
  have hpi : ¬ pol i = 2 := Nat.ne_of_beq_eq_false hpol
  have hst : stepPre E (callF E (Nat.max n n1)) pre (pol i) i tm st { dst := some d, op := .call { callee := .value f, args := args, argTypes := argTypes }, type := ty, pos := pos, after := after, guard := guard } = some (vf dd, st') := by
    simp only [stepPre, stepOp, isLoud, if_true, hl, isFnCall, Bool.and_true, decide_eq_false hpi]
    rfl
  simp only [runOpsT]
  rw [hw]
  dsimp only
  rw [hst]
  dsimp only [putO]
  rw [runOpsT_mono (callF_mono n (Nat.max n n1) (Nat.le_max_left _ _)) _ _ _ _ h1]
theorem OD.lenG {x : Operand} {t : TypeId} {a v : AV} (hn : Nat.blt d N = true) (hx : evL l x = some a) (h : ∀ st, SFa L [] st → lenTy E st t a = some v) (k : OS E c pol ops r (i + 1) N ((d, v) :: l) L K Q) :
    OD E c pol ops { dst := some d, op := .call { callee := .builtin .len, args := #[x], argTypes := #[t] }, type := ty, pos := pos, after := after, guard := guard } r i N l L K Q :=
  .quiet rfl hn rfl (fun tm st hF => by
    show lenTy E st t (evalO tm x) = some v
    rw [hF.ev hx]; exact h st hF.s.noK) k
/-- A call of a prim, by what is known of memory. -/
theorem OD.callV {f : Operand} {args : Array Operand} {argTypes : Array TypeId} {g : FuncId} {first cap vs : List AV} {p : List AV → St → Option (AV × St)} {v : AV} (hn : Nat.blt d N = true) (hf : evL l f = some (.fn g first cap)) (ha : evLs l args.toList = some vs) (hp : E.prim g = some p) (hr : ∀ st, SFa L [] st → p (first ++ vs ++ cap) st = some (v, st)) (hz : ∀ st, freezeA st v = some (v, st))
    (k : OS E c pol ops r (i + 1) N ((d, v) :: l) L K Q) : OD E c pol ops { dst := some d, op := .call { callee := .value f, args := args, argTypes := argTypes }, type := ty, pos := pos, after := after, guard := guard } r i N l L K Q := by
  intro pre tm st hF hp' hw
  obtain ⟨n, tr, tm1, st1, h1, hs, h2⟩ := k pre (tm.put d v) st (hF.put hn v) hp'
  refine ⟨n + 1, ⟨tm, st, st, v, true⟩ :: tr, tm1, st1, ?_, fun hc => ⟨(hs hc).1, ?_⟩, h2⟩
  · have hl : Abs.loud E (callF E (n + 1)) (pol i) tm st { dst := some d, op := .call { callee := .value f, args := args, argTypes := argTypes }, type := ty, pos := pos, after := after, guard := guard } = some (v, st) := by
      have : Abs.loud E (callF E (n + 1)) (pol i) tm st { dst := some d, op := .call { callee := .value f, args := args, argTypes := argTypes }, type := ty, pos := pos, after := after, guard := guard } = (match evalO tm f with | .fn g first cap => callF E (n + 1) g (first ++ args.toList.map (evalO tm) ++ cap) st | _ => none) := rfl
      rw [this, hF.ev hf, hF.evs ha]
      simp only [callF, hp]
      exact hr st hF.s.noK
    have hst : stepPre E (callF E (n + 1)) pre (pol i) i tm st { dst := some d, op := .call { callee := .value f, args := args, argTypes := argTypes }, type := ty, pos := pos, after := after, guard := guard } = some (v, st) := by
      simp only [stepPre, stepOp, isLoud, if_true, hl, isFnCall, Bool.and_true, decide_eq_true_eq]
      split
      · exact hz st
      · rfl
    simp only [runOpsT]
    rw [hw]
    dsimp only
    rw [hst]
    dsimp only [putO]
    rw [runOpsT_mono (callF_mono n (n + 1) (by omega)) _ _ _ _ h1]
  · exact .cons ⟨rfl, rfl, fun _ h => by simp [isLoud] at h⟩ (hs hc).2
/-- append onto what grows from a literal, of elements that lie in memory. -/
theorem OD.appendGF (kk : Nat) {ts tx e : TypeId} {s x : Operand} {t sz sz' : Nat} {b : Bool} {xs ys : List AV} {a : AV} {tys tyx et : Ty} (hn : Nat.blt d N = true) (hpol : Nat.beq (pol i) 1 = false) (hs : evL l s = some (growA b t sz xs)) (hx : evL l x = some a) (hK : K[kk]? = some (t, b))
    (h1 : E.ty ts = some tys) (h2 : E.ty tx = some tyx) (h3 : tys.d = .slice e) (h4 : E.ty e = some et) (h5 : Nat.blt 0 et.size = true) (h6 : sz = et.size) (h7 : (tyx.d = .string ∧ isStrA a = true) ∨ ((∃ e', tyx.d = .slice e') ∧ isStrA a = false)) (h8 : ∀ st, SFa L [] st → elemsA st a = some (sz', ys)) (h9 : okElems et ys = true) (h10 : (ys.isEmpty || Nat.beq sz' et.size) = true)
    (hroom : roomA et (xs.length + ys.length) = true) (k : ∀ t', OS E false pol ops r (i + 1) N ((d, growA (b || !ys.isEmpty) t' sz (xs ++ ys)) :: l) L (K.set kk (t', b || !ys.isEmpty)) Q) :
    OD E false pol ops { dst := some d, op := .call { callee := .builtin .append, args := #[s, x], argTypes := #[ts, tx] }, type := ty, pos := pos, after := after, guard := guard } r i N l L K Q := by
  subst h6
  refine .loud rfl rfl (fun _ h => by cases h) fun tm st hF => ?_
  have h0 : Abs.loud E noCall (pol i) tm st { dst := some d, op := .call { callee := .builtin .append, args := #[s, x], argTypes := #[ts, tx] }, type := ty, pos := pos, after := after, guard := guard } = appendOpA E (pol i == 1) st ts tx (evalO tm s) (evalO tm x) := rfl
  have hp : (pol i == 1) = false := by
    have := Nat.ne_of_beq_eq_false hpol
    simpa using this
  rw [h0, hF.ev hs, hF.ev hx, hp, appendOp_key h1 h2 h3 h4 h5 h7 st (h8 st hF.s.noK) h9 h10]
  cases b with
  | true =>
    refine ⟨.vs et.size (.tok st.next) (xs ++ ys), tokOnA st t e, _, L, _, ?_, ?_, k st.next⟩
    · simp only [growA, cond_true, appendA]
      rw [if_pos ⟨trivial, (hF.tok kk t hK).1, hroom⟩]
    · have hF' : Fa N l L (K.set kk (st.next, true)) tm (tokOnA st t e) := by
        unfold tokOnA
        split
        · split
          · exact (hF.tokDrop hK).ttag _ _
          · exact hF.tokDrop hK
        · exact hF.tokDrop hK
      exact hF'.put hn _
  | false =>
    cases ys with
    | nil =>
      refine ⟨growA false t et.size xs, st, _, L, _, ?_, ?_, k t⟩
      · simp only [growA, cond_false, appendA]
        rw [if_pos ⟨trivial, hroom⟩]
        simp
      · have : K.set kk (t, (false || !([] : List AV).isEmpty)) = K := set_same (by simpa using hK)
        rw [this, List.append_nil]
        exact hF.put hn _
    | cons y ys =>
      refine ⟨.vs et.size (.tok st.next) (xs ++ y :: ys), st.newTok.ttag st.next e, _, L, _, ?_, ?_, k st.next⟩
      · simp only [growA, cond_false, appendA]
        rw [if_pos ⟨trivial, hroom⟩]
        simp
      · exact ((hF.tokNew hK).ttag _ _).put hn _
/-- append to nil, into an object. -/
theorem OD.appendNilO {ts tx e : TypeId} {s x : Operand} {sz' : Nat} {ys : List AV} {a : AV} {tys tyx et : Ty} (hn : Nat.blt d N = true) (hpol : Nat.beq (pol i) 1 = true) (hs : evL l s = some .nilsl) (hx : evL l x = some a)
    (h1 : E.ty ts = some tys) (h2 : E.ty tx = some tyx) (h3 : tys.d = .slice e) (h4 : E.ty e = some et) (h5 : Nat.blt 0 et.size = true) (h7 : (tyx.d = .string ∧ isStrA a = true) ∨ ((∃ e', tyx.d = .slice e') ∧ isStrA a = false)) (h8 : ∀ st, elemsA st a = some (sz', ys)) (h9 : okElems et ys = true) (h10 : (ys.isEmpty || Nat.beq sz' et.size) = true) (h11 : ys ≠ [])
    (hroom : roomA et ys.length = true) (k : ∀ b, OS E false pol ops r (i + 1) N ((d, .sl et.size b 0 ys.length) :: l) ((b, .row et.size ys) :: L) K Q) :
    OD E false pol ops { dst := some d, op := .call { callee := .builtin .append, args := #[s, x], argTypes := #[ts, tx] }, type := ty, pos := pos, after := after, guard := guard } r i N l L K Q := by
  refine .loud rfl rfl (fun _ h => by cases h) fun tm st hF => ?_
  have h0 : Abs.loud E noCall (pol i) tm st { dst := some d, op := .call { callee := .builtin .append, args := #[s, x], argTypes := #[ts, tx] }, type := ty, pos := pos, after := after, guard := guard } = appendOpA E (pol i == 1) st ts tx (evalO tm s) (evalO tm x) := rfl
  have hp : (pol i == 1) = true := by
    have := Nat.eq_of_beq_eq_true hpol
    simp [this]
  rw [h0, hF.ev hs, hF.ev hx, hp, appendOp_key h1 h2 h3 h4 h5 h7 st (h8 st) h9 h10]
  refine ⟨.sl et.size st.next 0 ys.length, st.new (.row et.size ys), _, (st.next, .row et.size ys) :: L, K, ?_, (hF.new _).put hn _, k st.next⟩
  cases ys with
  | nil => exact absurd rfl h11
  | cons y ys =>
    simp only [appendA]
    rw [if_pos hroom]
    rfl
/-- append of one element to a row of one's own. -/
theorem OD.appendSl1 (kk : Nat) {α : Type} {f : α → AV} {xs : List α} {y0 : α} {ts tx e : TypeId} {s x : Operand} {sz sz' b : Nat} {a : AV} {tys tyx et : Ty} (hn : Nat.blt d N = true) (hs : evL l s = some (.sl sz b 0 xs.length)) (hL : L[kk]? = some (b, .row sz (xs.map f))) (hx : evL l x = some a)
    (h1 : E.ty ts = some tys) (h2 : E.ty tx = some tyx) (h3 : tys.d = .slice e) (h4 : E.ty e = some et) (h5 : Nat.blt 0 et.size = true) (h6 : sz = et.size) (h7 : (∃ e', tyx.d = .slice e') ∧ isStrA a = false) (h8 : ∀ st, SFa L K st → elemsA st a = some (sz', [f y0])) (h9 : okElems et [f y0] = true) (h10 : Nat.beq sz' et.size = true)
    (hroom : roomA et (xs.length + 1) = true) (k : ∀ b', OS E false pol ops r (i + 1) N ((d, .sl sz b' 0 (xs ++ [y0]).length) :: l) (L.set kk (b', .row sz ((xs ++ [y0]).map f))) K Q) :
    OD E false pol ops { dst := some d, op := .call { callee := .builtin .append, args := #[s, x], argTypes := #[ts, tx] }, type := ty, pos := pos, after := after, guard := guard } r i N l L K Q := by
  refine OD.appendSl kk hn hs hx hL (Nat.le_of_eq (List.length_map _).symm) h1 h2 h3 h4 h5 h6 h7 h8 h9 (by simpa using h10) (by simpa using hroom) fun b' => ?_
  have e1 : (xs.map f).take xs.length ++ [f y0] = (xs ++ [y0]).map f := by
    rw [List.take_of_length_le (by simp), List.map_append]; rfl
  have e2 : xs.length + [f y0].length = (xs ++ [y0]).length := by simp
  rw [e1, e2]
  exact k b'
end
end Go.Abs

/- All, where the registers' bits lie in memory. -/
namespace Go.OptEnv
open Go Go.Proofs Go.Abs Go.RowKit Go.NetM
set_option maxRecDepth 10000
attribute [local irreducible] WS QS OS OD Abs.Sub SubO SubK CW GSl.av accA growA
theorem SFa.tail' {p : Nat × AObj} {L : List (Nat × AObj)} {K : List (Nat × Bool)} {st : St} (h : SFa (p :: L) K st) : SFa L K st := h.tail
/-- Bits that lie in memory, or not. -/
structure BArg (L : List (Nat × AObj)) (x : AV) (xs : List UInt8) : Prop where
  str : isStrA x = false
  els : ∃ z, ((xs.map bitAV).isEmpty || Nat.beq z 1) = true ∧ ∀ st, SFa L [] st → elemsA st x = some (z, xs.map bitAV)
  len : ∀ st e, SFa L [] st → lenT st (.slice e) x = some xs.length
  view : ∃ s : GSl UInt8, s.xs = xs ∧ ∀ st, SFa L [] st → viewA st 9 x = some (s.av 1 bitAV)
theorem BArg.up {p : Nat × AObj} {L : List (Nat × AObj)} {x : AV} {xs : List UInt8} (h : BArg L x xs) : BArg (p :: L) x xs := by
  obtain ⟨h1, ⟨z, h2, h3⟩, h4, s, h5, h6⟩ := h
  exact ⟨h1, ⟨z, h2, fun st hs => h3 st hs.tail⟩, fun st e hs => h4 st e hs.tail, s, h5, fun st hs => h6 st hs.tail⟩
theorem BArg.gsl {L : List (Nat × AObj)} {s : GSl UInt8} : BArg L (s.av 1 bitAV) s.xs :=
  ⟨isStr_gsl, ⟨szOf s 1, szOf_ok, fun st _ => elemsA_gsl st⟩, fun _ _ _ => lenT_av, s, rfl, fun st _ => by rw [viewA_free 8 (free_av bit_free), plain_av bit_plain]⟩
theorem BArg.obj {L : List (Nat × AObj)} {kk b : Nat} {xs : List UInt8} (hL : L[kk]? = some (b, .row 1 (xs.map bitAV))) : BArg L (.sl 1 b 0 xs.length) xs := by
  refine ⟨rfl, ⟨1, by simp [Nat.beq_refl], fun st hs => ?_⟩, fun st e hs => rfl, GSl.some xs, rfl, fun st hs => ?_⟩
  · have hg := (hs.obj kk b _ hL).1
    simp only [elemsA, hg, List.length_map, Nat.zero_add, Nat.le_refl, if_true, List.drop_zero]
    rw [List.take_of_length_le (by simp)]
  · have hg := (hs.obj kk b _ hL).1
    have hm : mapO (viewA st 8) (xs.map bitAV) = some (xs.map bitAV) := by
      have := mapO_free (st := st) 7 (xs := xs.map bitAV) (freeL_map bit_free _)
      rwa [plainL_map bit_plain] at this
    have e : viewA st 9 (.sl 1 b 0 xs.length) = (match st.get b with | some (.row sz' zs) => if sz' = 1 ∧ 0 + xs.length ≤ zs.length then (mapO (viewA st 8) ((zs.drop 0).take xs.length)).map (.vs 1 .any ·) else none | _ => none) := rfl
    rw [e, hg]
    dsimp only
    rw [if_pos ⟨rfl, by simp⟩, List.drop_zero, List.take_of_length_le (by simp), hm]
    unfold GSl.av
    rfl
theorem BArg.lenTy {L : List (Nat × AObj)} {x : AV} {xs : List UInt8} (h : BArg L x xs) {E : Env} {t e : TypeId} {y : Ty} (h1 : E.ty t = some y) (h2 : y.d = .slice e) (st : St) (hs : SFa L [] st) : Abs.lenTy E st t x = some (.int .i64 (xs.length : Int)) := by
  unfold Abs.lenTy
  rw [h1]
  dsimp only
  rw [h2, h.len st e hs]
  rfl
theorem BArg.use131 {pr : Prims} {L : List (Nat × AObj)} {x : AV} {xs : List UInt8} (h : BArg L x xs) (h131 : Has pr 131 Rel131) (hl : xs.length ≤ 140737488355328) {k : Int} {st : St} (hs : SFa L [] st) : primOf Rel131 [x, .int .i64 k] st = some (.bool (decide ((xs.length : Int) = k) && le2 xs), st) := by
  obtain ⟨s, rfl, hv⟩ := h.view
  refine h131.view (a := [s.av 1 bitAV, .int .i64 k]) ?_ ⟨(s, k), hl, rfl, rfl⟩ rfl
  have e2 : viewA st 9 (.int .i64 k) = some (.int .i64 k) := rfl
  simp only [mapO, hv st hs, e2]
section
variable {pr : Prims}
set_option maxHeartbeats 1000000 in
theorem run109o (h1 : pr 109 = none) (h57 : Has pr 57 Rel57) (h131 : Has pr 131 Rel131) (h110 : Has pr 110 Rel110) (h132 : pr 132 = some (tabPrim tab132)) (n : GNet) (hn : FitsN n) (ins : GSl UInt8) (regs : List UInt8) (hi : ins.xs.length ≤ 100000000000) (hr : regs.length ≤ 100000000000) {L : List (Nat × AObj)} {RA : AV} (hRA : BArg L RA regs) {st : St} (hS : SFa L [] st) :
    CW (En pr) 109 [netAV n, ins.av 1 bitAV, RA] st fun r st' => ((allR n ins.xs regs = none ∧ r = .tup [.nilsl, .int .i64 2]) ∨ ∃ v b t, allR n ins.xs regs = some v ∧ r = .tup [growA b t 1 (v.map bitAV), .int .i64 0]) ∧ SFa L [] st' := by
  have hn' := hn
  obtain ⟨f1, f2, f3, f4, _, _, _, _, _, _⟩ := hn'
  have u1 := use57 h57 hn
  have u2 := fun (k : Int) => use131 h131 (s := ins) (by omega) (k := k)
  obtain ⟨z, hz1, hz2⟩ := hRA.els
  refine CW.startS (N := 71) h1 rfl rfl hS ?_
  repeat' (first | (refine OS.do rfl ?_; first | refine OD.box rfl rfl rfl rfl (net_ok _) rfl (fun b1 => ?_) | refine OD.loadP 0 rfl rfl rfl rfl rfl rfl ?_ | refine OD.auto rfl rfl ?_ | refine OD.len rfl rfl (fun _ => lenTy_av rfl rfl) ?_ | refine OD.call rfl rfl rfl h57.eq u1 (fun _ => rfl) ?_ | refine OD.call rfl rfl rfl h131.eq (u2 _) (fun _ => rfl) ?_ | refine OD.callV rfl rfl rfl h131.eq (fun st hs => hRA.up.use131 h131 (by omega) hs) (fun _ => rfl) ?_ | refine OD.lenG rfl rfl (hRA.up.lenTy rfl rfl) ?_) | refine OS.nil ?_ | refine OS.skip rfl rfl rfl ?_ | refine WS.seq ?_ | refine QS.seqN ?_ | refine WS.region ?_ | refine WS.condT rfl ?_ | refine WS.skip ?_ | refine WS.ret ?_ | refine QS.seqR ?_ | refine WS.condN rfl (fun _ => ?_) (fun _ => ?_) | ((fail_if_success (refine OS.do rfl ?_)); first | refine OS.splitN rfl rfl rfl (fun _ => ?_) (fun _ => ?_)))
  all_goals try (refine QS.retRS (by rfl) fun _ hS => ⟨.inl ⟨allR_no (by first | exact and_f1 (and_f1 (by assumption)) | exact and_f1 (and_f2 (by assumption)) | exact and_f2 (by assumption)), rfl⟩, hS.tail.noK⟩)
  rename_i hV hI hR
  have v := validM_iff.1 hV
  have hil : (ins.xs.length : Int) = n.ins.xs.length := of_decide_eq_true (Bool.and_eq_true _ _ ▸ hI).1
  have hrl : (regs.length : Int) = n.regs.xs.length := of_decide_eq_true (Bool.and_eq_true _ _ ▸ hR).1
  have hi2 : le2 ins.xs = true := (Bool.and_eq_true _ _ ▸ hI).2
  have hr2 : le2 regs = true := (Bool.and_eq_true _ _ ▸ hR).2
  have hgn := v.gatesN
  have l0 : ([0] ++ ins.xs ++ regs : List UInt8) = 0 :: (ins.xs ++ regs) := by simp
  have k0 : le2 ([0] ++ ins.xs ++ regs) = true := by rw [l0]; simpa [le2] using le2_app hi2 hr2
  have hfst : n.first = ([0] ++ ins.xs ++ regs : List UInt8).length := by simp only [GNet.first, List.length_append, List.length_cons, List.length_nil]; omega
  have hcw : IntKind.i64.wrap (IntKind.i64.wrap (IntKind.i64.wrap (1 + (ins.xs.length : Int)) + (regs.length : Int)) + (n.gates.xs.length : Int)) = 1 + ins.xs.length + regs.length + n.gates.xs.length := by
    rw [wrap64 (n := 1 + (ins.xs.length : Int)) (by omega) (by omega), wrap64 (n := 1 + (ins.xs.length : Int) + (regs.length : Int)) (by omega) (by omega)]
    exact wrap64 (by omega) (by omega)
  refine OS.do rfl (OD.makeSlice0 rfl rfl (by rw [hcw]; omega) rfl rfl rfl rfl (roomB rfl (by rw [hcw]; omega)) (fun tk0 => ?_))
  repeat' (first | (refine OS.do rfl ?_; first | refine OD.loadP 0 rfl rfl rfl rfl rfl rfl ?_ | refine OD.auto rfl rfl ?_ | refine OD.len rfl rfl (fun _ => lenTy_av rfl rfl) ?_ | refine OD.appendGS (f := bitAV) (ys := [0]) 0 rfl rfl rfl rfl rfl rfl rfl rfl rfl rfl rfl ⟨_, rfl⟩ (fun _ => ⟨rfl, rfl⟩) (roomB rfl (by simp only [List.length_append, List.length_cons, List.length_nil]; omega)) (fun tk' => ?_) | refine OD.appendG 0 rfl rfl rfl rfl rfl rfl rfl rfl rfl rfl rfl (.inr ⟨⟨_, rfl⟩, rfl⟩) (fun _ => rfl) rfl rfl (roomB rfl (by simp only [List.length_map, List.length_append, List.length_take, List.length_cons, List.length_nil]; omega)) (fun tk' => ?_) | refine OD.appendGF 0 rfl rfl rfl rfl rfl rfl rfl rfl rfl rfl rfl (.inr ⟨⟨_, rfl⟩, hRA.str⟩) (fun st hs => hz2 st hs.tail) (okElems_map (n := 1) rfl (fun _ => ⟨rfl, rfl⟩) _) hz1 (roomB rfl (by simp only [List.length_map, List.length_append, List.length_cons, List.length_nil]; omega)) (fun tk' => ?_)) | refine OS.nil ?_ | refine WS.seq ?_ | refine QS.seqN ?_ | refine WS.region ?_ | refine WS.block ?_)
  rw [← List.map_append]
  skip
  refine WS.range (A := Bool × Nat × List UInt8) (n := n.gates.xs.length) ⟨53, _, fun a => [(8, growA a.1 a.2.1 1 (a.2.2.map bitAV))], fun _ => (b1, .row 4 [netAV n]) :: L, fun a => [(a.2.1, a.1)], fun i a => a.2.2 = gatesM ([0] ++ ins.xs ++ regs) (n.gates.xs.take i)⟩ ((true || !([ofValue (Value.int IntKind.u8 0)] : List AV).isEmpty || !ins.xs.isEmpty || !(regs.map bitAV).isEmpty, tk', [0] ++ ins.xs ++ regs)) [51, 52] (by rfl) (by omega) (rfl) (by rfl) (by (try dsimp only); repeat' (first | exact Sub.nil _ | refine Sub.cons (congrArg (fun z => some (AV.int .i64 z)) (wrap_succ (by omega))) ?_ | refine Sub.cons rfl ?_)) (by (try dsimp only); repeat' (first | exact SubO.nil _ | exact SubO.refl _ | refine SubO.keep ?_ | refine SubO.drop ?_)) (by (try dsimp only); repeat' (first | exact SubK.nil _ | exact SubK.refl _ | refine SubK.keep (by simp) ?_ | refine SubK.new ?_ | refine SubK.drop ?_)) (by rfl) (by rfl) (by rfl) (by rfl) (by rfl) (by rfl) (fun _ _ => by rfl) (fun _ => by rfl) (fun _ _ => by rfl) (fun _ _ => by rfl) ?_ ?_
  · rintro i ⟨b, tk, w⟩ hi ha
    try dsimp only at ha
    have hwl : w.length = ([0] ++ ins.xs ++ regs : List UInt8).length + i := by rw [ha, gatesM_len, List.length_take]; omega
    have hwb : w.length ≤ 300000 := by
      have := names_len v.ins
      have := names_len v.regs
      simp only [List.length_map] at this
      rw [hwl]; simp only [List.length_append, List.length_cons, List.length_nil]; omega
    have hw2 : le2 w = true := by rw [ha]; exact gatesM_le2 _ k0
    have hg := gatesOk_take (k := n.first) hi
    have hg2 : gatesOk n.first (n.gates.xs.take (i + 1)) = true := by
      have := v.gates
      rw [← List.take_append_drop (i + 1) n.gates.xs] at this
      exact gatesOk_app _ _ _ this
    rw [hg2] at hg
    have hg := (Bool.and_eq_true _ _ ▸ hg.symm).2
    have hg1 := lit_of (Bool.and_eq_true _ _ ▸ hg).1
    have hg2 := lit_of (Bool.and_eq_true _ _ ▸ hg).2
    have c1 := use110g h110 (k := n.gates.xs[i].1) (v := w) (b := b) (t := tk) ⟨hg1.1, by omega⟩ (by omega) hw2
    have c2 := use110g h110 (k := n.gates.xs[i].2) (v := w) (b := b) (t := tk) ⟨hg2.1, by omega⟩ (by omega) hw2
    have c3 := use132 (ofL_le2 hw2 n.gates.xs[i].1) (ofL_le2 hw2 n.gates.xs[i].2)
    dsimp only [RSt.at, List.cons_append, List.nil_append]
    repeat' (first | (refine OS.do rfl ?_; first | refine OD.auto rfl rfl ?_ | refine OD.indexAddr rfl rfl rfl (indexAddrA_nat rfl rfl rfl rfl (by first | assumption | exact List.getElem?_eq_getElem (by omega))) ?_ | refine OD.alloc rfl rfl rfl rfl (fun _ => ?_) | refine OD.storeW 0 rfl rfl rfl rfl (by first | rfl | exact net_ok _) rfl rfl rfl ?_) | refine OS.nil ?_ | refine WS.seq ?_ | refine QS.seqN ?_ | refine WS.region ?_)
    refine WS.drawT 10 rfl rfl rfl rfl ?_; (repeat' (first | refine SegT.nil ?_ | refine SegT.auto rfl rfl rfl rfl ?_ | refine SegT.loadP 0 rfl rfl rfl rfl rfl rfl rfl ?_ | refine SegT.loadP 1 rfl rfl rfl rfl rfl rfl rfl ?_ | refine SegT.loadP 2 rfl rfl rfl rfl rfl rfl rfl ?_ | refine SegT.len rfl rfl rfl (fun _ => lenTy_av rfl rfl) ?_ | refine SegT.len rfl rfl rfl (fun _ => rfl) ?_ | refine SegT.indexAddr rfl rfl rfl rfl rfl ?_ | refine SegT.skip rfl rfl rfl ?_ | refine SegT.call rfl rfl rfl rfl h110.eq c1 (fun _ => rfl) ?_ | refine SegT.call rfl rfl rfl rfl h110.eq c2 (fun _ => rfl) ?_ | refine SegT.call rfl rfl rfl rfl h132 c3 (fun _ => rfl) ?_))
    dsimp only [RSt.at, List.cons_append, List.nil_append]
    repeat' (first | (refine OS.do rfl ?_; first | refine OD.auto rfl rfl ?_ | refine OD.appendG 0 rfl rfl rfl rfl rfl rfl rfl rfl rfl rfl rfl (.inr ⟨⟨_, rfl⟩, rfl⟩) (fun _ => rfl) rfl rfl (roomB rfl (by simp only [List.length_map, List.length_append, List.length_take, List.length_cons, List.length_nil]; omega)) (fun tk' => ?_)) | refine OS.nil ?_)
    refine QS.rangeN ((b || true, tk', w ++ [andB (ofL w n.gates.xs[i].1) (ofL w n.gates.xs[i].2)])) (by (try dsimp only) <;> exact (by rw [← l0, gatesM_take hi, ← ha])) (by (try dsimp only [RSt.at, List.cons_append, List.nil_append]); repeat' (first | exact Sub.nil _ | refine Sub.cons (by rw [List.map_append]; rfl) ?_ | refine Sub.cons (congrArg (fun z => some (AV.int .i64 z)) (wrap_succ (by omega))) ?_ | refine Sub.cons rfl ?_)) (by (try dsimp only); repeat' (first | exact SubO.nil _ | exact SubO.refl _ | refine SubO.keep ?_ | refine SubO.drop ?_)) (by (try dsimp only); repeat' (first | exact SubK.nil _ | exact SubK.refl _ | refine SubK.keep (by simp) ?_ | refine SubK.new ?_ | refine SubK.drop ?_))
  rintro ⟨b, tk, w⟩ ha
  try dsimp only at ha
  rw [List.take_of_length_le (Nat.le_refl _)] at ha
  dsimp only [RSt.at, List.cons_append, List.nil_append]
  repeat' (first | (refine OS.do rfl ?_; first | refine OD.auto rfl rfl ?_) | refine OS.nil ?_ | refine WS.seq ?_ | refine QS.seqN ?_ | refine WS.region ?_ | refine WS.ret ?_)
  refine QS.retRS (by rfl) fun _ hS => ⟨.inr ⟨w, b, tk, ?_, rfl⟩, hS.tail.noK⟩
  rw [allR_yes hV hI hR, ha, l0]; rfl
end
end Go.OptEnv
