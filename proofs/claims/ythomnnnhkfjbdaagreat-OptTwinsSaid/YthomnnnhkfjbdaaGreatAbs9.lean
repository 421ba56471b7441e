/- Own text of this claim: part 9 of an interpreter that is proved sound against the model, and of what it shows of the law. -/
import Derived.SizedLaws
import Derived.Laws.Strings
import Derived.Test.YthomnnnhkfjbdaaGreatAbs8
import Derived.Test.YthomnnnhkfjbdaaGreatAbs6
/- Appending to what is one's own; results that are new rows; copying. -/
namespace Go.Abs
section
variable {E : Env} {fid N : Nat} {l : List (Nat × AV)} {L : List (Nat × AObj)} {K : List (Nat × Bool)} {Q : AExit → TM → St → Prop}
variable {c : Bool} {pol : Nat → Nat} {ops : Array Oper} {r : List Oper} {i : Nat}
variable {d : Nat} {ty : TypeId} {pos : String} {after : Array Edge} {guard : Option (Nat × Bool)}

theorem Fa.withS2 {L' : List (Nat × AObj)} {K' : List (Nat × Bool)} {tm : TM} {st st' : St} (h : Fa N l L K tm st) (hs : SFa L' K' st') : Fa N l L' K' tm st' := ⟨h.n, h.get, hs.obj, hs.uniq, hs.tok, hs.uniqT⟩
theorem SFa.swap {st : St} (h : SFa L K st) {kk b : Nat} {o : AObj} (hk : L[kk]? = some (b, o)) (o' : AObj) : SFa (L.set kk (st.next, o')) K ((st.drop b).new o') := by
  have hl := (List.getElem?_eq_some_iff.1 hk).1
  have hget : ∀ j, ((st.drop b).new o').get j = if st.next = j then some o' else if b = j then none else st.get j := by
    intro j; rw [St.get_new, St.next_drop, St.get_drop]
  have hnext : ((st.drop b).new o').next = st.next + 1 := by simp
  refine ⟨fun k b1 o1 h1 => ?_, fun k1 k2 b1 o1 o2 h1 h2 => ?_, fun k t hk => ⟨by simpa using (h.tok k t hk).1, by rw [hnext]; have := (h.tok k t hk).2; omega⟩, h.uniqT⟩
  · rw [List.getElem?_set] at h1
    rw [hnext, hget]
    by_cases e : kk = k
    · subst e
      rw [if_pos rfl, if_pos hl] at h1
      simp only [Option.some.injEq, Prod.mk.injEq] at h1
      obtain ⟨rfl, rfl⟩ := h1
      exact ⟨by rw [if_pos rfl], by omega⟩
    · rw [if_neg e] at h1
      have h2 := h.obj k b1 o1 h1
      refine ⟨?_, by omega⟩
      rw [if_neg (by omega), if_neg]
      · exact h2.1
      · rintro rfl
        exact e (h.uniq kk k b _ _ hk h1)
  · rw [List.getElem?_set] at h1 h2
    by_cases e1 : kk = k1
    · by_cases e2 : kk = k2
      · omega
      · rw [if_pos e1, if_pos hl] at h1
        rw [if_neg e2] at h2
        simp only [Option.some.injEq, Prod.mk.injEq] at h1
        have := (h.obj k2 b1 o2 h2).2
        omega
    · by_cases e2 : kk = k2
      · rw [if_neg e1] at h1
        rw [if_pos e2, if_pos hl] at h2
        simp only [Option.some.injEq, Prod.mk.injEq] at h2
        have := (h.obj k1 b1 o1 h1).2
        omega
      · rw [if_neg e1] at h1
        rw [if_neg e2] at h2
        exact h.uniq _ _ _ _ _ h1 h2
theorem SFa.freeze {st : St} {b : Nat} {o : AObj} (h : SFa ((b, o) :: L) K st) : SFa L K (st.drop b).newTok := by
  refine ⟨fun k b1 o1 h1 => ?_, fun k1 k2 b1 o1 o2 h1 h2 => ?_, fun k t hk => ?_, fun k1 k2 t h1 h2 => h.uniqT k1 k2 t h1 h2⟩
  · have h2 := h.obj (k + 1) b1 o1 h1
    refine ⟨?_, by simp; omega⟩
    have hne : b ≠ b1 := by
      rintro rfl
      have := h.uniq 0 (k + 1) b o o1 rfl h1
      omega
    simp [hne, h2.1]
  · have := h.uniq (k1 + 1) (k2 + 1) b1 o1 o2 h1 h2
    omega
  · have h2 := h.tok k t hk
    exact ⟨by simp [h2.1], by simp; omega⟩
theorem SFa.tail {st : St} {p : Nat × AObj} (h : SFa (p :: L) K st) : SFa L K st :=
  ⟨fun k b o hk => h.obj (k + 1) b o hk, fun k k' b o o' h1 h2 => by have := h.uniq (k + 1) (k' + 1) b o o' h1 h2; omega, h.tok, h.uniqT⟩

/-- append to a whole slice of its own length: there is something to append. -/
theorem OD.appendFull {ts tx e : TypeId} {s x : Operand} {sz sz' : Nat} {xs ys : List AV} {a : AV} {tys tyx et : Ty} (hn : Nat.blt d N = true) (hpol : Nat.beq (pol i) 1 = false) (hs : evL l s = some (.vs sz .full xs)) (hx : evL l x = some a)
    (h1 : E.ty ts = some tys) (h2 : E.ty tx = some tyx) (h3 : tys.d = .slice e) (h4 : E.ty e = some et) (h5 : Nat.blt 0 et.size = true) (h6 : sz = et.size) (h7 : (∃ e', tyx.d = .slice e') ∧ isStrA a = false) (h8 : ∀ st, elemsA st a = some (sz', ys)) (h9 : okElems et ys = true) (h10 : ys.isEmpty || Nat.beq sz' et.size) (h11 : ys ≠ [])
    (hroom : roomA et (xs.length + ys.length) = true) (k : ∀ t', OS E false pol ops r (i + 1) N ((d, .vs sz (.tok t') (xs ++ ys)) :: l) L K Q) :
    OD E false pol ops { dst := some d, op := .call { callee := .builtin .append, args := #[s, x], argTypes := #[ts, tx] }, type := ty, pos := pos, after := after, guard := guard } r i N l L K Q := by
  subst h6
  refine .loud rfl rfl (fun _ h => by cases h) fun tm st hF => ?_
  have h0 : Abs.loud E noCall (pol i) tm st { dst := some d, op := .call { callee := .builtin .append, args := #[s, x], argTypes := #[ts, tx] }, type := ty, pos := pos, after := after, guard := guard } = appendOpA E (pol i == 1) st ts tx (evalO tm s) (evalO tm x) := rfl
  have hp : (pol i == 1) = false := by
    have := Nat.ne_of_beq_eq_false hpol
    simpa using this
  rw [h0, hF.ev hs, hF.ev hx, hp]
  refine ⟨.vs et.size (.tok st.next) (xs ++ ys), st.newTok.ttag st.next e, _, L, K, ?_, ?_, k st.next⟩
  · unfold appendOpA
    rw [h1, h2]
    dsimp only
    rw [h3]
    dsimp only
    rw [h4]
    dsimp only
    rw [if_pos (Eq.mp Nat.blt_eq h5)]
    obtain ⟨⟨e', h7⟩, h7'⟩ := h7
    have h10' : (ys.isEmpty || sz' == et.size) = true := by
      cases hy : ys.isEmpty with
      | true => rfl
      | false =>
        rw [hy] at h10
        simp only [Bool.false_or] at h10
        simp [Nat.eq_of_beq_eq_true h10]
    rw [h7]; dsimp only; rw [h8 st]; dsimp only; rw [if_pos ⟨h9, h10', by simp [h7']⟩]
    cases ys with
    | nil => exact absurd rfl h11
    | cons y ys =>
      simp only [appendA]
      rw [if_pos ⟨trivial, hroom⟩]
      simp
  · have hF' : Fa N l L K tm st.newTok := by
      refine ⟨hF.n, hF.get, fun k b o hk => ⟨(hF.obj k b o hk).1, by have := (hF.obj k b o hk).2; simp; omega⟩, hF.uniq, fun k u hu => ?_, hF.uniqT⟩
      have := hF.tok k u hu
      exact ⟨by simp [this.1], by simp; omega⟩
    exact (hF'.ttag _ _).put hn _
/-- append to a row of one's own. -/
theorem OD.appendSl (kk : Nat) {ts tx e : TypeId} {s x : Operand} {sz sz' b len : Nat} {xs ys : List AV} {a : AV} {tys tyx et : Ty} (hn : Nat.blt d N = true) (hs : evL l s = some (.sl sz b 0 len)) (hx : evL l x = some a) (hL : L[kk]? = some (b, .row sz xs)) (hlen : len ≤ xs.length)
    (h1 : E.ty ts = some tys) (h2 : E.ty tx = some tyx) (h3 : tys.d = .slice e) (h4 : E.ty e = some et) (h5 : Nat.blt 0 et.size = true) (h6 : sz = et.size) (h7 : (∃ e', tyx.d = .slice e') ∧ isStrA a = false) (h8 : ∀ st, SFa L K st → elemsA st a = some (sz', ys)) (h9 : okElems et ys = true) (h10 : ys.isEmpty || Nat.beq sz' et.size)
    (hroom : roomA et (len + ys.length) = true) (k : ∀ b', OS E false pol ops r (i + 1) N ((d, .sl sz b' 0 (len + ys.length)) :: l) (L.set kk (b', .row sz (xs.take len ++ ys))) K Q) :
    OD E false pol ops { dst := some d, op := .call { callee := .builtin .append, args := #[s, x], argTypes := #[ts, tx] }, type := ty, pos := pos, after := after, guard := guard } r i N l L K Q := by
  subst h6
  refine .loud rfl rfl (fun _ h => by cases h) fun tm st hF => ?_
  have h0 : Abs.loud E noCall (pol i) tm st { dst := some d, op := .call { callee := .builtin .append, args := #[s, x], argTypes := #[ts, tx] }, type := ty, pos := pos, after := after, guard := guard } = appendOpA E (pol i == 1) st ts tx (evalO tm s) (evalO tm x) := rfl
  rw [h0, hF.ev hs, hF.ev hx]
  have hg := (hF.obj kk b _ hL).1
  refine ⟨.sl et.size st.next 0 (len + ys.length), (st.drop b).new (.row et.size (xs.take len ++ ys)), _, L.set kk (st.next, _), K, ?_, (hF.withS2 (hF.s.swap hL _)).put hn _, k st.next⟩
  unfold appendOpA
  rw [h1, h2]
  dsimp only
  rw [h3]
  dsimp only
  rw [h4]
  dsimp only
  rw [if_pos (Eq.mp Nat.blt_eq h5)]
  obtain ⟨⟨e', h7⟩, h7'⟩ := h7
  have h10' : (ys.isEmpty || sz' == et.size) = true := by
    cases hy : ys.isEmpty with
    | true => rfl
    | false =>
      rw [hy] at h10
      simp only [Bool.false_or] at h10
      simp [Nat.eq_of_beq_eq_true h10]
  rw [h7]; dsimp only; rw [h8 st hF.s]; dsimp only; rw [if_pos ⟨h9, h10', by simp [h7']⟩]
  simp only [appendA, hg]
  rw [if_pos ⟨trivial, trivial, by omega, hroom⟩, List.drop_zero]
/-- So many zeros, appended to nothing. -/
theorem OD.appendZ {ts tx e : TypeId} {s x : Operand} {n : Nat} {kd : IntKind} {tys tyx et : Ty} (hn : Nat.blt d N = true) (hs : evL l s = some .nilsl) (hx : evL l x = some (.int .i64 (n : Int)))
    (h1 : E.ty ts = some tys) (h2 : E.ty tx = some tyx) (h3 : tys.d = .slice e) (h4 : E.ty e = some et) (h5 : Nat.blt 0 et.size = true) (h7 : tyx.d = .int kd) (h0 : 0 < n) (hroom : roomA et n = true)
    (k : ∀ b, OS E false pol ops r (i + 1) N ((d, .sl et.size b 0 n) :: l) ((b, .row et.size (List.replicate n et.zeroV)) :: L) K Q) :
    OD E false pol ops { dst := some d, op := .call { callee := .builtin .append, args := #[s, x], argTypes := #[ts, tx] }, type := ty, pos := pos, after := after, guard := guard } r i N l L K Q := by
  refine .loud rfl rfl (fun _ h => by cases h) fun tm st hF => ?_
  have hh : Abs.loud E noCall (pol i) tm st { dst := some d, op := .call { callee := .builtin .append, args := #[s, x], argTypes := #[ts, tx] }, type := ty, pos := pos, after := after, guard := guard } = appendOpA E (pol i == 1) st ts tx (evalO tm s) (evalO tm x) := rfl
  rw [hh, hF.ev hs, hF.ev hx]
  refine ⟨.sl et.size st.next 0 n, st.new (.row et.size (List.replicate n et.zeroV)), _, _, K, ?_, (hF.new _).put hn _, k st.next⟩
  unfold appendOpA
  rw [h1, h2]
  dsimp only
  rw [h3]
  dsimp only
  rw [h4]
  dsimp only
  rw [if_pos (Eq.mp Nat.blt_eq h5), h7]
  dsimp only
  rw [if_pos ⟨by omega, by simpa using hroom⟩]
  simp
/-- How much a slice may grow: nothing has no room. -/
theorem OD.capNil {t e : TypeId} {x : Operand} {y : Ty} (hn : Nat.blt d N = true) (hx : evL l x = some .nilsl) (ht : E.ty t = some y) (hd : y.d = .slice e) (k : OS E c pol ops r (i + 1) N ((d, .int .i64 0) :: l) L K Q) :
    OD E c pol ops { dst := some d, op := .call { callee := .builtin .cap, args := #[x], argTypes := #[t] }, type := ty, pos := pos, after := after, guard := guard } r i N l L K Q :=
  .quiet rfl hn rfl (fun tm st hF => by
    have : Abs.quiet E tm st { dst := some d, op := .call { callee := .builtin .cap, args := #[x], argTypes := #[t] }, type := ty, pos := pos, after := after, guard := guard } = (match E.ty t with | some ty => (match ty.d, evalO tm x with | .slice _, .nilsl => some (.int .i64 0) | _, _ => none) | none => none) := rfl
    rw [this, ht, hF.ev hx]
    dsimp only
    rw [hd]) k
/-- copy, where something goes over. -/
theorem OD.copy (kk : Nat) {td tx e e' : TypeId} {x z : Operand} {b off len sz' : Nat} {xs ys : List AV} {a : AV} {tyd tyx et : Ty} (hn : Nat.blt d N = true) (hx : evL l x = some (.sl 1 b off len)) (hz : evL l z = some a) (hL : L[kk]? = some (b, .row 1 xs)) (hlen : off + len ≤ xs.length)
    (h1 : E.ty td = some tyd) (h2 : E.ty tx = some tyx) (h3 : tyd.d = .slice e) (h4 : tyx.d = .slice e') (h5 : E.ty e = some et) (h6 : et.size = 1) (h7 : isStrA a = false) (h8 : ∀ st, elemsA st a = some (sz', ys)) (h9 : okElems et ys = true) (h10 : ys.isEmpty || Nat.beq sz' 1) (h11 : 0 < Min.min ys.length len)
    (k : OS E false pol ops r (i + 1) N ((d, .int .i64 ((Min.min ys.length len : Nat) : Int)) :: l) (L.set kk (b, .row 1 (xs.take off ++ ys.take (Min.min ys.length len) ++ xs.drop (off + Min.min ys.length len)))) K Q) :
    OD E false pol ops { dst := some d, op := .call { callee := .builtin .copy, args := #[x, z], argTypes := #[td, tx] }, type := ty, pos := pos, after := after, guard := guard } r i N l L K Q := by
  refine .loud rfl rfl (fun _ h => by cases h) fun tm st hF => ?_
  have h0 : Abs.loud E noCall (pol i) tm st { dst := some d, op := .call { callee := .builtin .copy, args := #[x, z], argTypes := #[td, tx] }, type := ty, pos := pos, after := after, guard := guard } = copyA E st td tx (evalO tm x) (evalO tm z) := rfl
  rw [h0, hF.ev hx, hF.ev hz]
  have hg := (hF.obj kk b _ hL).1
  refine ⟨_, st.put b (.row 1 (xs.take off ++ ys.take (Min.min ys.length len) ++ xs.drop (off + Min.min ys.length len))), _, _, K, ?_, (hF.set hL _).put hn _, k⟩
  unfold copyA
  rw [h1, h2]
  dsimp only
  rw [h3, h4]
  dsimp only
  rw [h5]
  dsimp only
  rw [hg, h8 st]
  dsimp only
  have h10' : (ys.isEmpty || sz' == 1) = true := by
    cases hy : ys.isEmpty with
    | true => rfl
    | false =>
      rw [hy] at h10
      simp only [Bool.false_or] at h10
      simp [Nat.eq_of_beq_eq_true h10]
  rw [if_pos ⟨h6, rfl, rfl, hlen, h9, h10', h7⟩, if_neg (by omega)]

theorem callN_step {f : Operand} {args : Array Operand} {argTypes : Array TypeId} {g : FuncId} {first cap vs : List AV} {tm : TM} {st st' : St} {x : AV} {n1 n : Nat} (hF : Fa N l L K tm st) (hf : evL l f = some (.fn g first cap)) (ha : evLs l args.toList = some vs) (hc : callF E n1 g (first ++ vs ++ cap) st = some (x, st')) (hle : n1 ≤ n) :
    Abs.loud E (callF E n) (pol i) tm st { dst := some d, op := .call { callee := .value f, args := args, argTypes := argTypes }, type := ty, pos := pos, after := after, guard := guard } = some (x, st') := by
  have : Abs.loud E (callF E n) (pol i) tm st { dst := some d, op := .call { callee := .value f, args := args, argTypes := argTypes }, type := ty, pos := pos, after := after, guard := guard } = (match evalO tm f with | .fn g first cap => callF E n g (first ++ args.toList.map (evalO tm) ++ cap) st | _ => none) := rfl
  rw [this, hF.ev hf, hF.evs ha]
  exact callF_mono n1 n hle _ _ _ _ hc
/-- A call that gives a new row, which is kept as such. -/
theorem OD.callN {f : Operand} {args : Array Operand} {argTypes : Array TypeId} {g : FuncId} {first cap vs : List AV} {sz len : Nat} {xs : List AV} (hpol : Nat.beq (pol i) 2 = false) (hn : Nat.blt d N = true) (hf : evL l f = some (.fn g first cap)) (ha : evLs l args.toList = some vs)
    (hr : ∀ st, SFa L K st → CW E g (first ++ vs ++ cap) st fun x st' => ∃ b, x = .sl sz b 0 len ∧ SFa ((b, .row sz xs) :: L) K st')
    (k : ∀ b, OS E false pol ops r (i + 1) N ((d, .sl sz b 0 len) :: l) ((b, .row sz xs) :: L) K Q) : OD E false pol ops { dst := some d, op := .call { callee := .value f, args := args, argTypes := argTypes }, type := ty, pos := pos, after := after, guard := guard } r i N l L K Q := by
  intro pre tm st hF hp' hw
  obtain ⟨n1, x, st', hc, b, rfl, hS⟩ := hr st hF.s
  have hF' : Fa N l ((b, .row sz xs) :: L) K tm st' := ⟨hF.n, hF.get, hS.obj, hS.uniq, hS.tok, hS.uniqT⟩
  obtain ⟨n, tr, tm1, st1, h1, _, h2⟩ := k b pre (tm.put d _) st' (hF'.put hn _) hp'
  refine ⟨Nat.max n n1, ⟨tm, st, st', .sl sz b 0 len, true⟩ :: tr, tm1, st1, ?_, (fun hc => by cases hc), h2⟩
  have hl := callN_step (ty := ty) (pos := pos) (after := after) (guard := guard) (d := d) (pol := pol) (i := i) (argTypes := argTypes) hF hf ha hc (Nat.le_max_right n n1)
  have hst : stepPre E (callF E (Nat.max n n1)) pre (pol i) i tm st { dst := some d, op := .call { callee := .value f, args := args, argTypes := argTypes }, type := ty, pos := pos, after := after, guard := guard } = some (.sl sz b 0 len, st') := by
    have hp : ¬ pol i = 2 := Nat.ne_of_beq_eq_false hpol
    simp only [stepPre, stepOp, isLoud, if_true, hl, isFnCall, Bool.and_true, decide_eq_true_eq]
    rw [if_neg hp]
  simp only [runOpsT]
  rw [hw]
  dsimp only
  rw [hst]
  dsimp only [putO]
  rw [runOpsT_mono (callF_mono n (Nat.max n n1) (Nat.le_max_left _ _)) _ _ _ _ h1]
/-- A call that gives a new row, which is never written again. -/
theorem OD.callFz {f : Operand} {args : Array Operand} {argTypes : Array TypeId} {g : FuncId} {first cap vs : List AV} {sz len : Nat} {xs : List AV} (hpol : Nat.beq (pol i) 2 = true) (hn : Nat.blt d N = true) (hf : evL l f = some (.fn g first cap)) (ha : evLs l args.toList = some vs) (hlen : xs.length = len)
    (hr : ∀ st, SFa L K st → CW E g (first ++ vs ++ cap) st fun x st' => ∃ b, x = .sl sz b 0 len ∧ SFa ((b, .row sz xs) :: L) K st')
    (k : ∀ t, OS E false pol ops r (i + 1) N ((d, .vs sz (.tok t) xs) :: l) L K Q) : OD E false pol ops { dst := some d, op := .call { callee := .value f, args := args, argTypes := argTypes }, type := ty, pos := pos, after := after, guard := guard } r i N l L K Q := by
  intro pre tm st hF hp' hw
  obtain ⟨n1, x, st', hc, b, rfl, hS⟩ := hr st hF.s
  obtain ⟨n, tr, tm1, st1, h1, _, h2⟩ := k st'.next pre (tm.put d _) (st'.drop b).newTok ((hF.withS hS.freeze).put hn _) hp'
  refine ⟨Nat.max n n1, ⟨tm, st, (st'.drop b).newTok, .vs sz (.tok st'.next) xs, true⟩ :: tr, tm1, st1, ?_, (fun hc => by cases hc), h2⟩
  have hl := callN_step (ty := ty) (pos := pos) (after := after) (guard := guard) (d := d) (pol := pol) (i := i) (argTypes := argTypes) hF hf ha hc (Nat.le_max_right n n1)
  have hst : stepPre E (callF E (Nat.max n n1)) pre (pol i) i tm st { dst := some d, op := .call { callee := .value f, args := args, argTypes := argTypes }, type := ty, pos := pos, after := after, guard := guard } = some (.vs sz (.tok st'.next) xs, (st'.drop b).newTok) := by
    have hp : pol i = 2 := Nat.eq_of_beq_eq_true hpol
    simp only [stepPre, stepOp, isLoud, if_true, hl, isFnCall, Bool.and_true, decide_eq_true_eq]
    rw [if_pos hp]
    show freezeC st' (.sl sz b 0 len) = _
    simp only [freezeC, (hS.obj 0 b _ rfl).1]
    rw [if_pos ⟨trivial, by omega⟩, if_pos (by omega)]
    simp [← hlen]
  simp only [runOpsT]
  rw [hw]
  dsimp only
  rw [hst]
  dsimp only [putO]
  rw [runOpsT_mono (callF_mono n (Nat.max n n1) (Nat.le_max_left _ _)) _ _ _ _ h1]
end
end Go.Abs

/- A region that draws its order, in which a row is made. -/
namespace Go.Abs
section
variable {E : Env} {fid N : Nat} {l : List (Nat × AV)} {L : List (Nat × AObj)} {K : List (Nat × Bool)} {Q : AExit → TM → St → Prop}
variable {c : Bool} {pol : Nat → Nat} {ops : Array Oper} {r : List Oper} {i : Nat}
variable {d : Nat} {ty : TypeId} {pos : String} {after : Array Edge} {guard : Option (Nat × Bool)}

theorem quietS_sound {op : Op} {v : AV} (h : quietS E l op = some v) {tm : TM} {st : St} (hF : Fa N l L K tm st) : quiet E tm st { dst := some d, op := op, type := ty, pos := pos, after := after, guard := guard } = some v := by
  cases op with
  | move x =>
    show some (evalO tm x) = some v
    rw [hF.ev h]
  | assign x =>
    show some (evalO tm x) = some v
    rw [hF.ev h]
  | load t a =>
    simp only [quietS] at h
    split at h
    · rename_i hx
      have : Abs.quiet E tm st { dst := some d, op := .load t a, type := ty, pos := pos, after := after, guard := guard } = (match loadCells st (evalO tm a) with | none => none | some cs => partA E t cs 0) := rfl
      rw [this, hF.ev hx]; exact h
    · cases h
  | binOp op t x y t2 =>
    simp only [quietS] at h
    split at h
    · rename_i hx hy
      show binA E op t x y (evalO tm x) (evalO tm y) = some v
      rw [hF.ev hx, hF.ev hy]; exact h
    · cases h
  | fieldAddr s x f =>
    simp only [quietS] at h
    split at h
    · rename_i hx
      show fieldAddrA E s (evalO tm x) f = some v
      rw [hF.ev hx]; exact h
    · cases h
  | pick x y z =>
    simp only [quietS] at h
    have e : Abs.quiet E tm st { dst := some d, op := .pick x y z, type := ty, pos := pos, after := after, guard := guard } = (match evalO tm x with | .bool t => some (if t then evalO tm y else evalO tm z) | _ => none) := rfl
    split at h
    · rename_i hx; rw [e, hF.ev hx, ← hF.ev h]; rfl
    · rename_i hx; rw [e, hF.ev hx, ← hF.ev h]; rfl
    · cases h
  | unOp op t x =>
    simp only [quietS] at h
    split at h
    · rename_i hx
      show unA op (evalO tm x) = some v
      rw [hF.ev hx]; exact h
    · cases h
  | convert s t x =>
    simp only [quietS] at h
    split at h
    · rename_i hx
      show convertA E s t (evalO tm x) = some v
      rw [hF.ev hx]; exact h
    · cases h
  | makeFunc f first cap =>
    cases f with
    | func f =>
      simp only [quietS] at h
      split at h
      · rename_i hx hy
        cases h
        show some (AV.fn f (first.toList.map (evalO tm)) (cap.toList.map (evalO tm))) = _
        rw [hF.evs hx, hF.evs hy]
      · cases h
    | _ => simp [quietS] at h
  | field s x f =>
    simp only [quietS] at h
    split at h
    · rename_i hx
      show fieldA E s (evalO tm x) f = some v
      rw [hF.ev hx]; exact h
    · cases h
  | extract x j =>
    simp only [quietS] at h
    split at h
    · rename_i hx
      have : Abs.quiet E tm st { dst := some d, op := .extract x j, type := ty, pos := pos, after := after, guard := guard } = (match evalO tm x with | .tup xs => xs[j]? | _ => none) := rfl
      rw [this, hF.ev hx]; exact h
    · cases h
  | build t ps =>
    simp only [quietS] at h
    split at h
    · rename_i hx
      show buildA E t (ps.toList.map fun (p : Nat × Operand) => (p.1, evalO tm p.2)) = some v
      rw [hF.evps hx]; exact h
    · cases h
  | buildSlice t n ps =>
    simp only [quietS] at h
    split at h
    · rename_i hx
      show buildSliceA E t n (ps.toList.map fun (p : Nat × Operand) => (p.1, evalO tm p.2)) = some v
      rw [hF.evps hx]; exact h
    · cases h
  | _ => simp [quietS] at h
theorem quiet_loadP (kk : Nat) {t : TypeId} {x : Operand} {b j off sz : Nat} {xs : List AV} {e v : AV} (hx : evL l x = some (.ptr b j off)) (hL : L[kk]? = some (b, .row sz xs)) (he : xs[j]? = some e) (ho : Nat.ble off e.cells.length = true)
    (hp : partA E t (e.cells.drop off) 0 = some v) {tm : TM} {st : St} (hF : Fa N l L K tm st) : quiet E tm st { dst := some d, op := .load t x, type := ty, pos := pos, after := after, guard := guard } = some v := by
  have : Abs.quiet E tm st { dst := some d, op := .load t x, type := ty, pos := pos, after := after, guard := guard } = (match loadCells st (evalO tm x) with | none => none | some cs => partA E t cs 0) := rfl
  rw [this, hF.ev hx]
  simp only [loadCells, (hF.obj kk b _ hL).1, he]
  rw [if_pos (Nat.le_of_ble_eq_true ho)]
  exact hp
theorem quiet_indexAddr {t : TypeId} {x y : Operand} {a b v : AV} (hx : evL l x = some a) (hy : evL l y = some b) (h : indexAddrA E t a b = some v) {tm : TM} {st : St} (hF : Fa N l L K tm st) :
    quiet E tm st { dst := some d, op := .indexAddr t x y, type := ty, pos := pos, after := after, guard := guard } = some v := by
  show indexAddrA E t (evalO tm x) (evalO tm y) = some v
  rw [hF.ev hx, hF.ev hy]; exact h
/-- Operations one behind the other that leave the state, and what they read. -/
def Seg (E : Env) (ops : Array Oper) (N : Nat) (L : List (Nat × AObj)) (K : List (Nat × Bool)) (r : List Oper) (l l' : List (Nat × AV)) : Prop :=
  ∀ (tm : TM) (s0 : St), Fa N l L K tm s0 → ∃ tr tm', (∀ n pre pol i, runOpsT E (callF E (n + 1)) pre pol ops r i tm s0 = some (tr, tm', s0)) ∧ Fa N l' L K tm' s0 ∧
    ∀ (k : Nat) (t : Tr) (o : Oper), tr[k]? = some t → r[k]? = some o → (t.was = s0 ∧ t.now = s0) ∧ (isLoud o.op = false → ∀ s, SFa L K s → quiet E t.tm s o = some t.v)
theorem Seg.nil : Seg E ops N L K [] l l := fun tm s0 hF => ⟨[], tm, fun _ _ _ _ => rfl, hF, fun k t o h => by simp at h⟩
theorem Seg.cons {o : Oper} {v : AV} {l' : List (Nat × AV)} (hw : wantS ops l o = some true) (hd : o.dst = some d) (hn : Nat.blt d N = true) (hl : isLoud o.op = false) (hq : ∀ tm st, Fa N l L K tm st → quiet E tm st o = some v) (k : Seg E ops N L K r ((d, v) :: l) l') : Seg E ops N L K (o :: r) l l' := by
  intro tm s0 hF
  obtain ⟨tr, tm', h1, h2, h3⟩ := k (tm.put d v) s0 (hF.put hn v)
  refine ⟨⟨tm, s0, s0, v, true⟩ :: tr, tm', fun c pre pol i => ?_, h2, fun k t o' ht ho => ?_⟩
  · simp only [runOpsT]
    rw [hF.want hw]
    dsimp only
    rw [stepPre_quiet hl (hq tm s0 hF), hd]
    dsimp only [putO]
    rw [h1]
  · cases k with
    | zero =>
      simp only [List.getElem?_cons_zero, Option.some.injEq] at ht ho
      subst ht; subst ho
      exact ⟨⟨rfl, rfl⟩, fun _ s hs => hq tm s (hF.withS hs)⟩
    | succ k =>
      simp only [List.getElem?_cons_succ] at ht ho
      exact h3 k t o' ht ho
theorem Seg.call {f : Operand} {args : Array Operand} {argTypes : Array TypeId} {g : FuncId} {first cap vs : List AV} {p : List AV → St → Option (AV × St)} {v : AV} {l' : List (Nat × AV)} (hn : Nat.blt d N = true) (hf : evL l f = some (.fn g first cap)) (ha : evLs l args.toList = some vs) (hp : E.prim g = some p) (hr : ∀ st, p (first ++ vs ++ cap) st = some (v, st)) (hz : ∀ st, freezeA st v = some (v, st))
    (k : Seg E ops N L K r ((d, v) :: l) l') : Seg E ops N L K ({ dst := some d, op := .call { callee := .value f, args := args, argTypes := argTypes }, type := ty, pos := pos, after := after, guard := none } :: r) l l' := by
  intro tm s0 hF
  obtain ⟨tr, tm', h1, h2, h3⟩ := k (tm.put d v) s0 (hF.put hn v)
  refine ⟨⟨tm, s0, s0, v, true⟩ :: tr, tm', fun n pre pol i => ?_, h2, fun k t o' ht ho => ?_⟩
  · have hl : Abs.loud E (callF E (n + 1)) (pol i) tm s0 { dst := some d, op := .call { callee := .value f, args := args, argTypes := argTypes }, type := ty, pos := pos, after := after, guard := none } = some (v, s0) := by
      have : Abs.loud E (callF E (n + 1)) (pol i) tm s0 { dst := some d, op := .call { callee := .value f, args := args, argTypes := argTypes }, type := ty, pos := pos, after := after, guard := none } = (match evalO tm f with | .fn g first cap => callF E (n + 1) g (first ++ args.toList.map (evalO tm) ++ cap) s0 | _ => none) := rfl
      rw [this, hF.ev hf, hF.evs ha]
      simp only [callF, hp]
      exact hr s0
    have hst : stepPre E (callF E (n + 1)) pre (pol i) i tm s0 { dst := some d, op := .call { callee := .value f, args := args, argTypes := argTypes }, type := ty, pos := pos, after := after, guard := none } = some (v, s0) := by
      simp only [stepPre, stepOp, isLoud, if_true, hl, isFnCall, Bool.and_true, decide_eq_true_eq]
      split
      · exact hz s0
      · rfl
    simp only [runOpsT]
    rw [show wantedA ops tm { dst := some d, op := .call { callee := .value f, args := args, argTypes := argTypes }, type := ty, pos := pos, after := after, guard := none } = some true from rfl]
    dsimp only
    rw [hst]
    dsimp only [putO]
    rw [h1]
  · cases k with
    | zero =>
      simp only [List.getElem?_cons_zero, Option.some.injEq] at ht ho
      subst ht; subst ho
      exact ⟨⟨rfl, rfl⟩, fun h => by simp [isLoud] at h⟩
    | succ k =>
      simp only [List.getElem?_cons_succ] at ht ho
      exact h3 k t o' ht ho
theorem runOpsT_append {call : Call1} {pre : Pre} : ∀ (a b : List Oper) (i : Nat) (tm : TM) (st : St) {tr : List Tr} {tm1 tm2 : TM} {st1 st2 : St} {tr2 : List Tr}, runOpsT E call pre pol ops a i tm st = some (tr, tm1, st1) → runOpsT E call pre pol ops b (i + a.length) tm1 st1 = some (tr2, tm2, st2) →
    runOpsT E call pre pol ops (a ++ b) i tm st = some (tr ++ tr2, tm2, st2)
  | [], b, i, tm, st, tr, tm1, tm2, st1, st2, tr2, h1, h2 => by
    simp only [runOpsT, Option.some.injEq, Prod.mk.injEq] at h1
    obtain ⟨rfl, rfl, rfl⟩ := h1
    exact h2
  | o :: a, b, i, tm, st, tr, tm1, tm2, st1, st2, tr2, h1, h2 => by
    have hi : i + (o :: a).length = i + 1 + a.length := by simp; omega
    rw [hi] at h2
    simp only [runOpsT] at h1
    simp only [List.cons_append, runOpsT]
    split at h1
    · rename_i hw
      split at h1
      · rename_i v st' hs
        split at h1
        · rename_i l' q hq
          simp only [Option.some.injEq, Prod.mk.injEq] at h1
          obtain ⟨rfl, rfl⟩ := h1
          rw [runOpsT_append a b (i + 1) _ _ hq h2]
          rfl
        · cases h1
      · cases h1
    · rename_i hw
      split at h1
      · rename_i l' q hq
        simp only [Option.some.injEq, Prod.mk.injEq] at h1
        obtain ⟨rfl, rfl⟩ := h1
        rw [runOpsT_append a b (i + 1) _ _ hq h2]
        rfl
      · cases h1
    · cases h1
theorem runOpsT_len {call : Call1} {pre : Pre} {a : List Oper} {i : Nat} {tm : TM} {st : St} {tr : List Tr} {q : TM × St} (h : runOpsT E call pre pol ops a i tm st = some (tr, q)) : tr.length = a.length := (runOps_of_T a i tm st h).2
/-- The region: quiet ones, a row that is made, quiet ones, and the rest, on which no pair looks. -/
theorem WS.drawP {id : Nat} {ops : Array Oper} {dy : List (Nat × Nat)} {A B C : List Oper} {t e : TypeId} {x y : Operand} {ty1 et : Ty} {n m : Nat} {l1 : List (Nat × AV)} {l2 : Nat → List (Nat × AV)}
    (hd : E.dyn fid id = dy) (ho : hasAlloc ops = false) (hops : ops.toList = A ++ { dst := some d, op := .makeSlice t x y, type := ty, pos := pos, after := after, guard := none } :: (B ++ C)) (hm : m = A.length + 1 + B.length)
    (hc : (dy.all fun p => Nat.beq p.1 A.length && (Nat.blt p.2 A.length || (Nat.blt A.length p.2 && Nat.blt p.2 m)) && (match ops.toList[p.2]? with | some o => !isLoud o.op | none => false)) = true)
    (hA : Seg E ops N L K A l l1) (hn : Nat.blt d N = true) (hx : evL l1 x = some (.int .i64 (n : Int))) (hy : evL l1 y = some (.int .i64 (n : Int))) (hcx : isConstO x = false) (ht : E.ty t = some ty1) (hd1 : ty1.d = .slice e) (he : E.ty e = some et) (hs : Nat.blt 0 et.size = true) (hroom : roomA et n = true)
    (hB : ∀ b, Seg E ops N L K B ((d, .sl et.size b 0 n) :: l1) (l2 b))
    (h : ∀ b, OS E false (E.pol fid id) ops C m N (l2 b) ((b, .row et.size (List.replicate n et.zeroV)) :: L) K Q) (hk : E.mks fid id = false := by rfl) : WS E fid N (.region id ops true) l L K Q := by
  intro tm st hF
  subst hm
  have hF0 := hF.at (m := st.next + ops.size) (by omega)
  generalize hs0 : st.at (st.next + ops.size) = s0 at hF0
  obtain ⟨tr1, tm1, a1, a2, a3⟩ := hA tm s0 hF0
  -- the row
  have hmk : ∀ (call : Call1) (i : Nat), stepPre E call (some (st.next, false)) (E.pol fid id i) i tm1 s0 { dst := some d, op := .makeSlice t x y, type := ty, pos := pos, after := after, guard := none } = some (.sl et.size s0.next 0 n, s0.new (.row et.size (List.replicate n et.zeroV))) := by
    intro call i
    have : stepPre E call (some (st.next, false)) (E.pol fid id i) i tm1 s0 { dst := some d, op := .makeSlice t x y, type := ty, pos := pos, after := after, guard := none } = (match makeSliceA E s0 (isConstO x) t (evalO tm1 x) (evalO tm1 y) with | some (v, st') => if E.pol fid id i = 2 && false then freezeA st' v else some (v, st') | none => none) := by
      rfl
    rw [this]
    unfold makeSliceA
    rw [ht, a2.ev hx, a2.ev hy, hcx]
    dsimp only
    rw [hd1]
    dsimp only
    rw [he]
    dsimp only
    rw [if_pos ⟨Eq.mp Nat.blt_eq hs, by omega, by omega, by simpa using hroom⟩]
    simp
  have hFb : Fa N ((d, .sl et.size s0.next 0 n) :: l1) ((s0.next, .row et.size (List.replicate n et.zeroV)) :: L) K (tm1.put d (.sl et.size s0.next 0 n)) (s0.new (.row et.size (List.replicate n et.zeroV))) := (a2.new _).put hn _
  have hSb : SFa L K (s0.new (.row et.size (List.replicate n et.zeroV))) := hFb.s.tail
  obtain ⟨tr3, tm3, b1, b2, b3⟩ := hB s0.next (tm1.put d (.sl et.size s0.next 0 n)) (s0.new (.row et.size (List.replicate n et.zeroV))) ((a2.put hn _).withS hSb)
  obtain ⟨n5, tr4, tm4, st4, c1, _, c3⟩ := h s0.next (some (st.next, false)) tm3 _ (b2.withS2 hFb.s) (fun b hb => ⟨ho, by cases hb; rfl⟩)
  have c1 := runOpsT_mono (callF_mono n5 (n5 + 1) (by omega)) _ _ _ _ c1
  generalize hn5 : n5 + 1 = n4 at c1
  have a1 := fun pre pol i => hn5 ▸ a1 n5 pre pol i
  have b1 := fun pre pol i => hn5 ▸ b1 n5 pre pol i
  have hl1 := runOpsT_len (a1 (some (st.next, false)) (E.pol fid id) 0)
  have hl3 := runOpsT_len (b1 (some (st.next, false)) (E.pol fid id) (A.length + 1))
  have hrun : runOpsT E (callF E n4) (some (st.next, false)) (E.pol fid id) ops ops.toList 0 tm s0 = some (tr1 ++ (⟨tm1, s0, s0.new (.row et.size (List.replicate n et.zeroV)), .sl et.size s0.next 0 n, true⟩ :: (tr3 ++ tr4)), tm4, st4) := by
    rw [hops]
    refine runOpsT_append _ _ _ _ _ (a1 _ _ _) ?_
    rw [Nat.zero_add]
    simp only [runOpsT]
    rw [show wantedA ops tm1 { dst := some d, op := .makeSlice t x y, type := ty, pos := pos, after := after, guard := none } = some true from rfl]
    dsimp only
    rw [hmk]
    dsimp only [putO]
    rw [runOpsT_append B C (A.length + 1) _ _ (b1 _ _ _) (by rw [← hl3] at c1 ⊢; exact c1)]
  refine ⟨n4 + 1, .normal, tm4, st4, ?_, c3⟩
  have hpre : preObjs E st.next ops.toList 0 st.objs = some st.objs := preObjs_none _ _ _ ho
  have h1' := runOpsT_mono (callF_mono n4 (n4 + 1) (by omega)) _ _ _ _ hrun
  rw [← hs0] at h1'
  unfold St.at at h1'
  simp only [exec, execReg, if_true, hpre, hd, hk]
  cases dy with
  | nil =>
    dsimp only
    rw [(runOps_of_T _ _ _ _ h1').1]
  | cons p0 ps =>
    dsimp only
    rw [h1']
    dsimp only
    rw [if_pos]
    · rw [List.all_eq_true] at hc ⊢
      intro p hp
      have hp' := hc p hp
      simp only [Bool.and_eq_true, Bool.or_eq_true] at hp'
      obtain ⟨⟨p1, p2⟩, p4⟩ := hp'
      have p1 : p.1 = A.length := Nat.eq_of_beq_eq_true p1
      have hst : St.at st (st.next + ops.size) = s0 := hs0
      unfold St.at at hst
      have hnx : s0.next = st.next + ops.size := by rw [← hs0]; rfl
      rw [hst, ← hnx]
      have key : ∃ (q : Tr) (o : Oper), (tr1 ++ (⟨tm1, s0, s0.new (.row et.size (List.replicate n et.zeroV)), .sl et.size s0.next 0 n, true⟩ :: (tr3 ++ tr4)))[p.2]? = some q ∧ ops[p.2]? = some o ∧ ∀ s, SFa L K s → quiet E q.tm s o = some q.v := by
        rw [hops] at p4
        rw [← Array.getElem?_toList, hops]
        rcases p2 with p2 | ⟨p2, p3⟩
        · have p2 : p.2 < A.length := Eq.mp Nat.blt_eq p2
          have g1 : (A ++ ({ dst := some d, op := .makeSlice t x y, type := ty, pos := pos, after := after, guard := none } :: (B ++ C)))[p.2]? = some A[p.2] := by
            rw [List.getElem?_append_left (by omega)]; exact List.getElem?_eq_getElem _
          rw [g1] at p4
          refine ⟨tr1[p.2]'(by omega), A[p.2], ?_, ?_, (a3 p.2 _ _ (List.getElem?_eq_getElem (by omega)) (List.getElem?_eq_getElem (by omega))).2 (by simpa using p4)⟩
          · rw [List.getElem?_append_left (by omega)]; exact List.getElem?_eq_getElem _
          · rw [List.getElem?_append_left (by omega)]; exact List.getElem?_eq_getElem _
        · have p2 : A.length < p.2 := Eq.mp Nat.blt_eq p2
          have p3 : p.2 < A.length + 1 + B.length := Eq.mp Nat.blt_eq p3
          obtain ⟨k, hk⟩ : ∃ k, p.2 = A.length + 1 + k := ⟨p.2 - (A.length + 1), by omega⟩
          have g1 : (A ++ ({ dst := some d, op := .makeSlice t x y, type := ty, pos := pos, after := after, guard := none } :: (B ++ C)))[p.2]? = some (B[k]'(by omega)) := by
            rw [List.getElem?_append_right (by omega), show p.2 - A.length = k + 1 by omega, List.getElem?_cons_succ, List.getElem?_append_left (by omega)]; exact List.getElem?_eq_getElem _
          rw [g1] at p4
          refine ⟨tr3[k]'(by omega), B[k]'(by omega), ?_, ?_, (b3 k _ _ (List.getElem?_eq_getElem (by omega)) (List.getElem?_eq_getElem (by omega))).2 (by simpa using p4)⟩
          · rw [List.getElem?_append_right (by omega), show p.2 - tr1.length = k + 1 by omega, List.getElem?_cons_succ, List.getElem?_append_left (by omega)]; exact List.getElem?_eq_getElem _
          · rw [List.getElem?_append_right (by omega), show p.2 - A.length = k + 1 by omega, List.getElem?_cons_succ, List.getElem?_append_left (by omega)]; exact List.getElem?_eq_getElem _
      obtain ⟨q, o, k1, k2, k3⟩ := key
      unfold dynOk
      rw [k1, k2, p1, List.getElem?_append_right (by omega), show A.length - tr1.length = 0 by omega, List.getElem?_cons_zero]
      dsimp only
      rw [k3 s0 a2.s, k3 _ hSb]
      simp [AV.beq_refl]
/-- The region: first what leaves the state, on which all pairs look, then the rest. -/
theorem WS.drawQ {id : Nat} {ops : Array Oper} {dy : List (Nat × Nat)} {A C : List Oper} {m : Nat} {l1 : List (Nat × AV)}
    (hd : E.dyn fid id = dy) (ho : hasAlloc ops = false) (hops : ops.toList = A ++ C) (hm : m = A.length)
    (hc : (dy.all fun p => Nat.blt p.1 m && Nat.blt p.2 m && (match ops.toList[p.2]? with | some o => !isLoud o.op | none => false)) = true)
    (hA : Seg E ops N L K A l l1) (h : OS E false (E.pol fid id) ops C m N l1 L K Q) (hk : E.mks fid id = false := by rfl) : WS E fid N (.region id ops true) l L K Q := by
  intro tm st hF
  subst hm
  have hF0 := hF.at (m := st.next + ops.size) (by omega)
  generalize hs0 : st.at (st.next + ops.size) = s0 at hF0
  obtain ⟨tr1, tm1, a1, a2, a3⟩ := hA tm s0 hF0
  obtain ⟨n5, tr4, tm4, st4, c1, _, c3⟩ := h (some (st.next, false)) tm1 _ a2 (fun b hb => ⟨ho, by cases hb; rfl⟩)
  have c1 := runOpsT_mono (callF_mono n5 (n5 + 1) (by omega)) _ _ _ _ c1
  have hl1 := runOpsT_len (a1 n5 (some (st.next, false)) (E.pol fid id) 0)
  have hrun : runOpsT E (callF E (n5 + 1)) (some (st.next, false)) (E.pol fid id) ops ops.toList 0 tm s0 = some (tr1 ++ tr4, tm4, st4) := by
    rw [hops]
    exact runOpsT_append _ _ _ _ _ (a1 _ _ _ _) (by rw [Nat.zero_add]; exact c1)
  refine ⟨n5 + 1 + 1, .normal, tm4, st4, ?_, c3⟩
  have hpre : preObjs E st.next ops.toList 0 st.objs = some st.objs := preObjs_none _ _ _ ho
  have h1' := runOpsT_mono (callF_mono (n5 + 1) (n5 + 1 + 1) (by omega)) _ _ _ _ hrun
  rw [← hs0] at h1'
  unfold St.at at h1'
  simp only [exec, execReg, if_true, hpre, hd, hk]
  cases dy with
  | nil =>
    dsimp only
    rw [(runOps_of_T _ _ _ _ h1').1]
  | cons p0 ps =>
    dsimp only
    rw [h1']
    dsimp only
    rw [if_pos]
    · rw [List.all_eq_true] at hc ⊢
      intro p hp
      have hp' := hc p hp
      simp only [Bool.and_eq_true] at hp'
      obtain ⟨⟨p1, p2⟩, p4⟩ := hp'
      have p1 : p.1 < A.length := Eq.mp Nat.blt_eq p1
      have p2 : p.2 < A.length := Eq.mp Nat.blt_eq p2
      have g1 : ops.toList[p.1]? = some A[p.1] := by rw [hops, List.getElem?_append_left (by omega)]; exact List.getElem?_eq_getElem _
      have g2 : ops.toList[p.2]? = some A[p.2] := by rw [hops, List.getElem?_append_left (by omega)]; exact List.getElem?_eq_getElem _
      rw [g2] at p4
      obtain ⟨⟨e1, e2⟩, _⟩ := a3 p.1 (tr1[p.1]'(by omega)) _ (List.getElem?_eq_getElem (by omega)) (List.getElem?_eq_getElem (by omega))
      obtain ⟨_, e4⟩ := a3 p.2 (tr1[p.2]'(by omega)) _ (List.getElem?_eq_getElem (by omega)) (List.getElem?_eq_getElem (by omega))
      have e4 := e4 (by simpa using p4)
      have t1 : (tr1 ++ tr4)[p.1]? = some (tr1[p.1]'(by omega)) := by rw [List.getElem?_append_left (by omega)]; exact List.getElem?_eq_getElem _
      have t2 : (tr1 ++ tr4)[p.2]? = some (tr1[p.2]'(by omega)) := by rw [List.getElem?_append_left (by omega)]; exact List.getElem?_eq_getElem _
      unfold dynOk
      rw [t1, t2, ← Array.getElem?_toList, g2]
      dsimp only
      rw [e1, e2, e4 s0 a2.s]
      simp [AV.beq_refl]
/-- A load whose address is read by what is known. -/
theorem OD.loadG {t : TypeId} {x : Operand} {p v : AV} (hn : Nat.blt d N = true) (hx : evL l x = some p) (h : ∀ st, SFa L K st → ∃ cs, loadCells st p = some cs ∧ partA E t cs 0 = some v) (k : OS E c pol ops r (i + 1) N ((d, v) :: l) L K Q) :
    OD E c pol ops { dst := some d, op := .load t x, type := ty, pos := pos, after := after, guard := guard } r i N l L K Q :=
  .quiet rfl hn rfl (fun tm st hF => by
    have : Abs.quiet E tm st { dst := some d, op := .load t x, type := ty, pos := pos, after := after, guard := guard } = (match loadCells st (evalO tm x) with | none => none | some cs => partA E t cs 0) := rfl
    obtain ⟨cs, h1, h2⟩ := h st hF.s
    rw [this, hF.ev hx, h1]; exact h2) k
end
end Go.Abs

/- Regions that draw their order: the rules, to be stepped through. -/
namespace Go.Abs
section
variable {E : Env} {fid N : Nat} {l : List (Nat × AV)} {L : List (Nat × AObj)} {K : List (Nat × Bool)} {Q : AExit → TM → St → Prop}
variable {c : Bool} {pol : Nat → Nat} {ops : Array Oper} {r : List Oper} {i : Nat} {o : Oper}
variable {d : Nat} {op : Op} {ty : TypeId} {pos : String} {after : Array Edge}
def SegK (E : Env) (ops : Array Oper) (N : Nat) (L : List (Nat × AObj)) (K : List (Nat × Bool)) (r : List Oper) (l : List (Nat × AV)) (k : List (Nat × AV) → Prop) : Prop := ∃ l', Seg E ops N L K r l l' ∧ k l'
theorem SegK.nil {k : List (Nat × AV) → Prop} (h : k l) : SegK E ops N L K [] l k := ⟨l, .nil, h⟩
theorem SegK.cons {k : List (Nat × AV) → Prop} {v : AV} (hw : wantS ops l o = some true) (hd : o.dst = some d) (hn : Nat.blt d N = true) (hl : isLoud o.op = false) (hq : ∀ tm st, Fa N l L K tm st → quiet E tm st o = some v) (h : SegK E ops N L K r ((d, v) :: l) k) : SegK E ops N L K (o :: r) l k := by
  obtain ⟨l', h1, h2⟩ := h
  exact ⟨l', .cons hw hd hn hl hq h1, h2⟩
theorem SegK.auto {k : List (Nat × AV) → Prop} {v : AV} {guard : Option (Nat × Bool)} (hw : wantS ops l { dst := some d, op := op, type := ty, pos := pos, after := after, guard := guard } = some true) (hn : Nat.blt d N = true) (hl : isLoud op = false) (h : quietS E l op = some v) (k1 : SegK E ops N L K r ((d, v) :: l) k) : SegK E ops N L K ({ dst := some d, op := op, type := ty, pos := pos, after := after, guard := guard } :: r) l k :=
  .cons hw rfl hn hl (fun _ _ hF => quietS_sound h hF) k1
theorem SegK.indexAddr {k : List (Nat × AV) → Prop} {t : TypeId} {x y : Operand} {a b v : AV} {guard : Option (Nat × Bool)} (hw : wantS ops l { dst := some d, op := .indexAddr t x y, type := ty, pos := pos, after := after, guard := guard } = some true) (hn : Nat.blt d N = true) (hx : evL l x = some a) (hy : evL l y = some b) (h : indexAddrA E t a b = some v) (k1 : SegK E ops N L K r ((d, v) :: l) k) :
    SegK E ops N L K ({ dst := some d, op := .indexAddr t x y, type := ty, pos := pos, after := after, guard := guard } :: r) l k :=
  .cons hw rfl hn rfl (fun _ _ hF => quiet_indexAddr hx hy h hF) k1
theorem SegK.loadP {k : List (Nat × AV) → Prop} (kk : Nat) {t : TypeId} {x : Operand} {b j off sz : Nat} {xs : List AV} {e v : AV} {guard : Option (Nat × Bool)} (hw : wantS ops l { dst := some d, op := .load t x, type := ty, pos := pos, after := after, guard := guard } = some true) (hn : Nat.blt d N = true) (hx : evL l x = some (.ptr b j off)) (hL : L[kk]? = some (b, .row sz xs)) (he : xs[j]? = some e) (ho : Nat.ble off e.cells.length = true)
    (hp : partA E t (e.cells.drop off) 0 = some v) (k1 : SegK E ops N L K r ((d, v) :: l) k) :
    SegK E ops N L K ({ dst := some d, op := .load t x, type := ty, pos := pos, after := after, guard := guard } :: r) l k :=
  .cons hw rfl hn rfl (fun _ _ hF => quiet_loadP kk hx hL he ho hp hF) k1
theorem SegK.call {k : List (Nat × AV) → Prop} {f : Operand} {args : Array Operand} {argTypes : Array TypeId} {g : FuncId} {first cap vs : List AV} {p : List AV → St → Option (AV × St)} {v : AV} (hn : Nat.blt d N = true) (hf : evL l f = some (.fn g first cap)) (ha : evLs l args.toList = some vs) (hp : E.prim g = some p) (hr : ∀ st, p (first ++ vs ++ cap) st = some (v, st)) (hz : ∀ st, freezeA st v = some (v, st))
    (k1 : SegK E ops N L K r ((d, v) :: l) k) : SegK E ops N L K ({ dst := some d, op := .call { callee := .value f, args := args, argTypes := argTypes }, type := ty, pos := pos, after := after, guard := none } :: r) l k := by
  obtain ⟨l', h1, h2⟩ := k1
  exact ⟨l', .call hn hf ha hp hr hz h1, h2⟩
theorem SegK.bin {k : List (Nat × AV) → Prop} {bop : BinOp} {t t2 : TypeId} {x y : Operand} {a b v : AV} {guard : Option (Nat × Bool)} (hw : wantS ops l { dst := some d, op := .binOp bop t x y t2, type := ty, pos := pos, after := after, guard := guard } = some true) (hn : Nat.blt d N = true) (hx : evL l x = some a) (hy : evL l y = some b) (h : binA E bop t x y a b = some v) (k1 : SegK E ops N L K r ((d, v) :: l) k) :
    SegK E ops N L K ({ dst := some d, op := .binOp bop t x y t2, type := ty, pos := pos, after := after, guard := guard } :: r) l k :=
  .cons hw rfl hn rfl (fun tm st hF => by show binA E bop t x y (evalO tm x) (evalO tm y) = some v; rw [hF.ev hx, hF.ev hy]; exact h) k1
theorem SegK.slice {k : List (Nat × AV) → Prop} {t : TypeId} {x : Operand} {lo hi mx : Option Operand} {a : AV} {b1 b2 b3 : Option AV} {v : AV} {guard : Option (Nat × Bool)} (hw : wantS ops l { dst := some d, op := .slice t x lo hi mx, type := ty, pos := pos, after := after, guard := guard } = some true) (hn : Nat.blt d N = true) (hx : evL l x = some a) (h1 : evO l lo = some b1) (h2 : evO l hi = some b2) (h3 : evO l mx = some b3) (h : sliceA E t a b1 b2 b3 = some v) (k1 : SegK E ops N L K r ((d, v) :: l) k) :
    SegK E ops N L K ({ dst := some d, op := .slice t x lo hi mx, type := ty, pos := pos, after := after, guard := guard } :: r) l k :=
  .cons hw rfl hn rfl (fun tm st hF => by show sliceA E t (evalO tm x) (lo.map (evalO tm)) (hi.map (evalO tm)) (mx.map (evalO tm)) = some v; rw [hF.ev hx, hF.evo h1, hF.evo h2, hF.evo h3]; exact h) k1
/-- First what leaves the state, on which all pairs look, then the rest. -/
theorem WS.drawQK (m : Nat) {id : Nat} {ops : Array Oper} {dy : List (Nat × Nat)} (hd : E.dyn fid id = dy) (ho : hasAlloc ops = false) (hm : Nat.ble m ops.toList.length = true)
    (hc : (dy.all fun p => Nat.blt p.1 m && Nat.blt p.2 m && (match ops.toList[p.2]? with | some o => !isLoud o.op | none => false)) = true)
    (h : SegK E ops N L K (ops.toList.take m) l fun l1 => OS E false (E.pol fid id) ops (ops.toList.drop m) m N l1 L K Q) (hk : E.mks fid id = false := by rfl) : WS E fid N (.region id ops true) l L K Q := by
  obtain ⟨l', h1, h2⟩ := h
  exact .drawQ hd ho (List.take_append_drop m _).symm (by have := Nat.le_of_ble_eq_true hm; rw [List.length_take]; omega) hc h1 h2 hk
/-- The like, with a row that is made among them: at place a; the pairs look at it, and at what stands before place m. -/
theorem WS.drawPK (a m : Nat) {id : Nat} {ops : Array Oper} {dy : List (Nat × Nat)} {t e : TypeId} {x y : Operand} {ty1 et : Ty} {n : Nat}
    (hd : E.dyn fid id = dy) (ho : hasAlloc ops = false) (hm : Nat.blt a m = true) (hm2 : Nat.ble m ops.toList.length = true) (hop : ops.toList[a]? = some { dst := some d, op := .makeSlice t x y, type := ty, pos := pos, after := after, guard := none })
    (hc : (dy.all fun p => Nat.beq p.1 a && (Nat.blt p.2 a || (Nat.blt a p.2 && Nat.blt p.2 m)) && (match ops.toList[p.2]? with | some o => !isLoud o.op | none => false)) = true)
    (hn : Nat.blt d N = true) (hcx : isConstO x = false) (ht : E.ty t = some ty1) (hd1 : ty1.d = .slice e) (he : E.ty e = some et) (hs : Nat.blt 0 et.size = true) (hroom : roomA et n = true)
    (h : SegK E ops N L K (ops.toList.take a) l fun l1 => evL l1 x = some (.int .i64 (n : Int)) ∧ evL l1 y = some (.int .i64 (n : Int)) ∧ ∀ b, SegK E ops N L K ((ops.toList.take m).drop (a + 1)) ((d, .sl et.size b 0 n) :: l1) fun l2 =>
      OS E false (E.pol fid id) ops (ops.toList.drop m) m N l2 ((b, .row et.size (List.replicate n et.zeroV)) :: L) K Q) (hk : E.mks fid id = false := by rfl) : WS E fid N (.region id ops true) l L K Q := by
  obtain ⟨l1, h1, hx, hy, h2⟩ := h
  have hm : a < m := Eq.mp Nat.blt_eq hm
  have hm2 := Nat.le_of_ble_eq_true hm2
  have hla : (ops.toList.take a).length = a := by rw [List.length_take]; omega
  have hlb : ((ops.toList.take m).drop (a + 1)).length = m - (a + 1) := by rw [List.length_drop, List.length_take]; omega
  have hops : ops.toList = ops.toList.take a ++ { dst := some d, op := .makeSlice t x y, type := ty, pos := pos, after := after, guard := none } :: ((ops.toList.take m).drop (a + 1) ++ ops.toList.drop m) := by
    obtain ⟨hlt, ho1⟩ := List.getElem?_eq_some_iff.1 hop
    have e1 : ops.toList = ops.toList.take m ++ ops.toList.drop m := (List.take_append_drop m _).symm
    have e2 : ops.toList.take m = (ops.toList.take m).take a ++ (ops.toList.take m).drop a := (List.take_append_drop a _).symm
    have e3 : (ops.toList.take m).take a = ops.toList.take a := by rw [List.take_take, Nat.min_eq_left (by omega)]
    have e4 : (ops.toList.take m).drop a = (ops.toList.take m)[a]'(by rw [List.length_take]; omega) :: (ops.toList.take m).drop (a + 1) := List.drop_eq_getElem_cons _
    rw [e3] at e2
    rw [List.getElem_take, ho1] at e4
    calc ops.toList = ops.toList.take m ++ ops.toList.drop m := e1
      _ = (ops.toList.take a ++ (ops.toList.take m).drop a) ++ ops.toList.drop m := by rw [← e2]
      _ = _ := by rw [e4]; simp
  have hch := fun b => h2 b
  refine WS.drawP (l2 := fun b => Classical.choose (hch b)) (l1 := l1) (m := m) hd ho hops (by rw [hla, hlb]; omega) (by rw [hla]; exact hc) h1 hn hx hy hcx ht hd1 he hs hroom (fun b => (Classical.choose_spec (hch b)).1) (fun b => (Classical.choose_spec (hch b)).2) hk
end
end Go.Abs

/- Slices, read, with what they weigh. -/
namespace Go.Abs
open Go.RowKit
section
variable {H : Type} {enc : TypeId × Value → H} {P : Program} {w : World} {base : Nat} {spare : Nat → Bool} {held : Bool} {fuel n : Nat} {t e : TypeId} {cs : List Value} {x : DataW H × List MemPlace} {Γ : Ghost}
/-- A slice, read, with what its datum weighs. -/
theorem slice_readW {α : Type} (f : α → AV) (sz : Nat) (good : α → Prop) (hsz : 0 < sz) (ht : P.underlying t = some (.slice e)) (hc : P.cellsOf e = sz)
    (hel : ∀ n cs y, DataW.trod enc P w base spare held n e cs = some y → ∃ a, good a ∧ (f a).ok = true ∧ ∃ v : Value, v.cells.toList = cs ∧ R (Ghost.all w) (f a) v)
    (h : DataW.trod enc P w base spare held fuel t cs = some x) : ∃ s : GSl α, (∃ v, cs = [v] ∧ R (Ghost.all w) (s.av sz f) v) ∧ (∀ a ∈ s.xs, good a) ∧ s.xs.length ≤ maxLen ∧ (s.xs.length = 0 ∨ ∃ es rs, x.1 = .slice es rs ∧ s.xs.length = es.length) := by
  rcases DataW.trod_slice ht h with ⟨rfl, _⟩ | ⟨a, len, cap, elems, rest, n, _, rfl, hxd, _, hlc, hcm, hel', hget, _, _⟩
  · exact ⟨⟨some true, [], fun _ => rfl⟩, ⟨_, rfl, by simp only [GSl.av, R]⟩, (fun _ h => by cases h), Nat.zero_le _, .inl rfl⟩
  · by_cases h0 : len = 0
    · subst h0
      exact ⟨⟨some false, [], fun _ => rfl⟩, ⟨_, rfl, by simp only [GSl.av, R]; exact ⟨a, cap, rfl⟩⟩, (fun _ h => by cases h), Nat.zero_le _, .inl rfl⟩
    · have hb : ∀ i, i < len → ∃ l y, w.cells? base (a.add (i * sz)) sz = some l ∧ DataW.trod enc P w base spare held n e l = some y := fun i hi => by
        have := hget i hi
        rw [List.getElem?_eq_getElem (by omega), hc] at this
        obtain ⟨l, h1, h2⟩ := Option.bind_eq_some_iff.1 this
        exact ⟨l, _, h1, h2⟩
      have hspot : a.spot = none := by
        obtain ⟨l, y, h1, _⟩ := hb 0 (by omega)
        rw [Nat.zero_mul] at h1
        exact cells_spot hsz h1
      obtain ⟨b, o, sp⟩ := a
      dsimp only at hspot
      subst hspot
      have hch : ∀ i : Fin len, ∃ a : α, good a ∧ (f a).ok = true ∧ ∃ v : Value, v.cells.size = sz ∧ R (Ghost.all w) (f a) v ∧ ∀ (j : Nat) (u : Value), v.cells.toList[j]? = some u → w.cell? ⟨b, o + i * sz + j, none⟩ = some u := fun i => by
        obtain ⟨l, y, h1, h2⟩ := hb i i.2
        obtain ⟨a, ha, hok, v, hv, hr⟩ := hel n l y h2
        obtain ⟨h3, h4⟩ := cells_some h1
        exact ⟨a, ha, hok, v, by rw [← Array.length_toList, hv]; exact h3, hr, fun j u hj => h4 j u (by rw [← hv]; exact hj)⟩
      refine ⟨⟨none, List.ofFn fun i => Classical.choose (hch i), fun k => absurd rfl k⟩, ⟨_, rfl, ?_⟩, fun a ha => ?_, ?_, .inr ⟨elems.map (·.1), rest.map (·.1), by rw [hxd], by simp only [List.length_ofFn, List.length_map]; omega⟩⟩
      · simp only [GSl.av, R]
        refine ⟨b, o, cap, by simp, by simpa using hlc, hsz, by simp only [OwnOk], ?_⟩
        refine RE.mk fun i u hi => ?_
        rw [List.getElem?_map, List.getElem?_ofFn] at hi
        split at hi
        · rename_i hlt
          simp only [Option.map_some, Option.some.injEq] at hi
          subst hi
          obtain ⟨_, h2, v, h3, h4, h5⟩ := Classical.choose_spec (hch ⟨i, hlt⟩)
          exact ⟨v, h4, h2, h3, fun j u hj => h5 j u hj⟩
        · simp at hi
      · rw [List.mem_ofFn] at ha
        obtain ⟨i, rfl⟩ := ha
        exact (Classical.choose_spec (hch i)).1
      · simp only [List.length_ofFn]; omega
theorem weigh_slice {d : DataW H} {n : Nat} (hw : ∀ m ∈ d.weights P t, m ≤ reachBytes) (ht : P.underlying t = some (.slice e)) (hb : 1 ≤ P.bytesOf e) (h : n = 0 ∨ ∃ es rs, d = .slice es rs ∧ n = es.length) : n ≤ reachBytes := by
  rcases h with rfl | ⟨es, rs, rfl, rfl⟩
  · exact Nat.zero_le _
  · have := hw ((es.length + rs.length) * P.bytesOf e) (by simp [DataW.weights, ht])
    have h2 : es.length * 1 ≤ (es.length + rs.length) * P.bytesOf e := Nat.mul_le_mul (by omega) hb
    omega
theorem weigh_field {fs : Array Field} {xs : List (DataW H × List MemPlace)} (ht : P.underlying t = some (.struct fs)) (hw : ∀ m ∈ (DataW.agg (xs.map (·.1))).weights P t, m ≤ reachBytes) {i : Nat} {f : Field} {y : DataW H × List MemPlace} (hf : fs[i]? = some f) (hy : xs[i]? = some y) : ∀ m ∈ y.1.weights P f.type, m ≤ reachBytes := by
  intro m hm
  refine hw m ?_
  simp only [DataW.weights, ht]
  exact DataW.weights_mem_each (j := i) (by simp [hf]) (by rw [List.getElem?_map, hy]; rfl) m hm
theorem weigh_arg {ts : List TypeId} {ds : List (DataW H)} (h : (DataW.weightsEach P ts ds).all (· ≤ reachBytes) = true) {j : Nat} {d : DataW H} (ht : ts[j]? = some t) (hd : ds[j]? = some d) : ∀ m ∈ d.weights P t, m ≤ reachBytes := by
  intro m hm
  have := List.all_eq_true.1 h _ (DataW.weights_mem_each ht hd m hm)
  simpa using this
end
end Go.Abs

/- Slices, read, of data that weigh little. -/
namespace Go.Abs
open Go.RowKit
section
variable {H : Type} {enc : TypeId × Value → H} {P : Program} {w : World} {base : Nat} {spare : Nat → Bool} {held : Bool} {fuel n : Nat} {t e : TypeId} {cs : List Value} {x : DataW H × List MemPlace} {Γ : Ghost}
theorem weights_all {d : DataW H} : ∀ {l : List (DataW H)}, d ∈ l → ∀ m ∈ d.weights P e, m ∈ DataW.weightsAll P e l
  | [], h, _, _ => by cases h
  | c :: l, h, m, hm => by
    simp only [DataW.weightsAll, List.mem_append]
    rcases List.mem_cons.1 h with rfl | h
    · exact .inl hm
    · exact .inr (weights_all h m hm)
/-- A slice, read, of a datum that weighs little. -/
theorem slice_readV {α : Type} (f : α → AV) (sz : Nat) (good : α → Prop) (hsz : 0 < sz) (ht : P.underlying t = some (.slice e)) (hc : P.cellsOf e = sz)
    (hby : 1 ≤ P.bytesOf e) (hw : ∀ m ∈ x.1.weights P t, m ≤ reachBytes)
    (hel : ∀ n cs y, DataW.trod enc P w base spare held n e cs = some y → (∀ m ∈ y.1.weights P e, m ≤ reachBytes) → ∃ a, good a ∧ (f a).ok = true ∧ ∃ v : Value, v.cells.toList = cs ∧ R (Ghost.all w) (f a) v)
    (h : DataW.trod enc P w base spare held fuel t cs = some x) : ∃ s : GSl α, (∃ v, cs = [v] ∧ R (Ghost.all w) (s.av sz f) v) ∧ (∀ a ∈ s.xs, good a) ∧ s.xs.length ≤ reachBytes := by
  rcases DataW.trod_slice ht h with ⟨rfl, _⟩ | ⟨a, len, cap, elems, rest, n, _, rfl, hxd, _, hlc, hcm, hel', hget, _, _⟩
  · exact ⟨⟨some true, [], fun _ => rfl⟩, ⟨_, rfl, by simp only [GSl.av, R]⟩, (fun _ h => by cases h), Nat.zero_le _⟩
  · have hwe : ∀ y ∈ elems, ∀ m ∈ y.1.weights P e, m ≤ reachBytes := fun y hy m hm => by
      refine hw m ?_
      rw [hxd]
      simp only [DataW.weights, ht, List.mem_cons, List.mem_append]
      exact .inr (.inl (weights_all (List.mem_map_of_mem (f := fun q : DataW H × List MemPlace => q.1) hy) m hm))
    have hwl : elems.length ≤ reachBytes := by
      have h1 := hw ((elems.length + rest.length) * P.bytesOf e) (by rw [hxd]; simp [DataW.weights, ht])
      have h2 : elems.length * 1 ≤ (elems.length + rest.length) * P.bytesOf e := Nat.mul_le_mul (by omega) hby
      omega
    by_cases h0 : len = 0
    · subst h0
      exact ⟨⟨some false, [], fun _ => rfl⟩, ⟨_, rfl, by simp only [GSl.av, R]; exact ⟨a, cap, rfl⟩⟩, (fun _ h => by cases h), Nat.zero_le _⟩
    · have hb : ∀ i, i < len → ∃ l y, w.cells? base (a.add (i * sz)) sz = some l ∧ DataW.trod enc P w base spare held n e l = some y ∧ y ∈ elems := fun i hi => by
        have := hget i hi
        rw [List.getElem?_eq_getElem (by omega), hc] at this
        obtain ⟨l, h1, h2⟩ := Option.bind_eq_some_iff.1 this
        exact ⟨l, _, h1, h2, List.getElem_mem _⟩
      have hspot : a.spot = none := by
        obtain ⟨l, y, h1, _, _⟩ := hb 0 (by omega)
        rw [Nat.zero_mul] at h1
        exact cells_spot hsz h1
      obtain ⟨b, o, sp⟩ := a
      dsimp only at hspot
      subst hspot
      have hch : ∀ i : Fin len, ∃ a : α, good a ∧ (f a).ok = true ∧ ∃ v : Value, v.cells.size = sz ∧ R (Ghost.all w) (f a) v ∧ ∀ (j : Nat) (u : Value), v.cells.toList[j]? = some u → w.cell? ⟨b, o + i * sz + j, none⟩ = some u := fun i => by
        obtain ⟨l, y, h1, h2, hy⟩ := hb i i.2
        obtain ⟨a, ha, hok, v, hv, hr⟩ := hel n l y h2 (fun m hm => hwe y hy m hm)
        obtain ⟨h3, h4⟩ := cells_some h1
        exact ⟨a, ha, hok, v, by rw [← Array.length_toList, hv]; exact h3, hr, fun j u hj => h4 j u (by rw [← hv]; exact hj)⟩
      refine ⟨⟨none, List.ofFn fun i => Classical.choose (hch i), fun k => absurd rfl k⟩, ⟨_, rfl, ?_⟩, fun a ha => ?_, ?_⟩
      · simp only [GSl.av, R]
        refine ⟨b, o, cap, by simp, by simpa using hlc, hsz, by simp only [OwnOk], ?_⟩
        refine RE.mk fun i u hi => ?_
        rw [List.getElem?_map, List.getElem?_ofFn] at hi
        split at hi
        · rename_i hlt
          simp only [Option.map_some, Option.some.injEq] at hi
          subst hi
          obtain ⟨_, h2, v, h3, h4, h5⟩ := Classical.choose_spec (hch ⟨i, hlt⟩)
          exact ⟨v, h4, h2, h3, fun j u hj => h5 j u hj⟩
        · simp at hi
      · rw [List.mem_ofFn] at ha
        obtain ⟨i, rfl⟩ := ha
        exact (Classical.choose_spec (hch i)).1
      · simp only [List.length_ofFn]; omega
theorem weigh_string {s : ByteArray} {d : DataW H} (hd : d = .lit (.string s.data.toList)) (hw : ∀ m ∈ d.weights P t, m ≤ reachBytes) : s.size ≤ reachBytes := by
  subst hd
  have := hw s.data.toList.length (by simp [DataW.weights])
  simpa using this
/-- Wrapping, as a remainder. -/
theorem wrap_mod (n : Int) : IntKind.i64.wrap n = (n + 9223372036854775808) % 18446744073709551616 - 9223372036854775808 := by
  have h : IntKind.i64.wrap n = (if (true && decide (n % 18446744073709551616 ≥ 9223372036854775808)) then n % 18446744073709551616 - 18446744073709551616 else n % 18446744073709551616) := rfl
  rw [h]
  split
  · rename_i k
    simp at k
    omega
  · rename_i k
    simp at k
    omega
theorem wrap_wrap (a b : Int) : IntKind.i64.wrap (IntKind.i64.wrap a + b) = IntKind.i64.wrap (a + b) := by
  rw [wrap_mod, wrap_mod, wrap_mod]; omega
theorem wrap_wrap2 (a b : Int) : IntKind.i64.wrap (a + IntKind.i64.wrap b) = IntKind.i64.wrap (a + b) := by
  rw [wrap_mod, wrap_mod, wrap_mod]; omega
end
end Go.Abs

/- Calls that change objects: what is known behind them is told by a property. -/
namespace Go.Abs
section
variable {E : Env} {N : Nat} {l : List (Nat × AV)} {L : List (Nat × AObj)} {K : List (Nat × Bool)} {Q : AExit → TM → St → Prop}
variable {pol : Nat → Nat} {ops : Array Oper} {r : List Oper} {i : Nat}
variable {d : Nat} {ty : TypeId} {pos : String} {after : Array Edge} {guard : Option (Nat × Bool)}
theorem OD.callM {D : Type} {f : Operand} {args : Array Operand} {argTypes : Array TypeId} {g : FuncId} {first cap vs : List AV} (p : D → Prop) (vf : D → AV) (Lf : D → List (Nat × AObj)) (Kf : D → List (Nat × Bool)) (hn : Nat.blt d N = true) (hf : evL l f = some (.fn g first cap)) (ha : evLs l args.toList = some vs)
    (hr : ∀ st, SFa L K st → CW E g (first ++ vs ++ cap) st fun x st' => ∃ dd, p dd ∧ x = vf dd ∧ SFa (Lf dd) (Kf dd) st') (hz : ∀ dd st, p dd → freezeA st (vf dd) = some (vf dd, st))
    (k : ∀ dd, p dd → OS E false pol ops r (i + 1) N ((d, vf dd) :: l) (Lf dd) (Kf dd) Q) : OD E false pol ops { dst := some d, op := .call { callee := .value f, args := args, argTypes := argTypes }, type := ty, pos := pos, after := after, guard := guard } r i N l L K Q := by
  intro pre tm st hF hp' hw
  obtain ⟨n1, x, st', hc, dd, hx, rfl, hS⟩ := hr st hF.s
  obtain ⟨n, tr, tm1, st1, h1, _, h2⟩ := k dd hx pre (tm.put d (vf dd)) st' ((hF.withS2 hS).put hn (vf dd)) hp'
  refine ⟨Nat.max n n1, ⟨tm, st, st', vf dd, true⟩ :: tr, tm1, st1, ?_, (fun hc => by cases hc), h2⟩
  have hl : Abs.loud E (callF E (Nat.max n n1)) (pol i) tm st { dst := some d, op := .call { callee := .value f, args := args, argTypes := argTypes }, type := ty, pos := pos, after := after, guard := guard } = some (vf dd, st') := by
    have : Abs.loud E (callF E (Nat.max n n1)) (pol i) tm st { dst := some d, op := .call { callee := .value f, args := args, argTypes := argTypes }, type := ty, pos := pos, after := after, guard := guard } = (match evalO tm f with | .fn g first cap => callF E (Nat.max n n1) g (first ++ args.toList.map (evalO tm) ++ cap) st | _ => none) := rfl
    rw [this, hF.ev hf, hF.evs ha]
    exact callF_mono n1 (Nat.max n n1) (Nat.le_max_right _ _) _ _ _ _ hc
  have hst : stepPre E (callF E (Nat.max n n1)) pre (pol i) i tm st { dst := some d, op := .call { callee := .value f, args := args, argTypes := argTypes }, type := ty, pos := pos, after := after, guard := guard } = some (vf dd, st') := by
    simp only [stepPre, stepOp, isLoud, if_true, hl, isFnCall, Bool.and_true, decide_eq_true_eq]
    split
    · exact hz dd st' hx
    · rfl
  simp only [runOpsT]
  rw [hw]
  dsimp only
  rw [hst]
  dsimp only [putO]
  rw [runOpsT_mono (callF_mono n (Nat.max n n1) (Nat.le_max_left _ _)) _ _ _ _ h1]
end
end Go.Abs

/- The environment of the interpreter, with prims. -/
namespace Go.OptEnv
open Go Go.Proofs Go.Abs Go.RowKit
abbrev Prims := FuncId → Option (List AV → St → Option (AV × St))
def pol0 : Nat → Nat → Nat → Nat := polOf [(61,7,5,1),(61,12,2,1),(61,29,13,1),(137,3,2,1),(118,1,5,0),(81,6,4,0),(80,3,2,1),(96,8,2,0),(19,18,12,1),(19,10,4,1),(19,21,10,1),(39,44,4,1),(39,49,2,1),(39,55,5,1),(39,63,4,1),(39,72,2,0),(22,8,4,1),(46,1,7,1),(33,1,1,0)]
noncomputable def En (pr : Prims) : Env := { ty := tys.find, fns := fns.find, prim := pr, pol := pol0, dyn := dyn, mks := mks }
theorem En_ok (pr : Prims) : EnvOk Tryz.prog (En pr) := EnvOk.of_trees rfl rfl tys_ok fns_ok mixed
/-- An environment whose prims do what they say. -/
structure Good (pr : Prims) : Prop where
  ok : ∀ B w0, PrimOk Tryz.prog (En pr) B w0
def addP (pr : Prims) (f : FuncId) (g : List AV → St → Option (AV × St)) : Prims := fun x => bif Nat.beq x f then some g else pr x
theorem Good.addT {pr : Prims} (h : Good pr) {f : FuncId} {g : List AV → St → Option (AV × St)} (hg : ∀ B w0, PrimDoes Tryz.prog B w0 f g) : Good (addP pr f g) :=
  ⟨fun B w0 => (h.ok B w0).addPrim (hg B w0)⟩
def ap0 : Prims := fun _ => none
theorem good0 : Good ap0 := ⟨fun _ _ f g args st r st' hg _ => by cases hg⟩
theorem hent {f : FuncId} {fn : Func} (h : Tryz.prog.funcs[f]? = some fn) {c : Code} (hb : fn.body = some c := by rfl) (hn : (fn.name == "runtime.NumGoroutine") = false := by rfl) (w : World) (vargs : Array Value) : (callFunc f vargs).run Tryz.prog w = .ok (.enter f vargs) w := enters h hb hn w vargs
def isT (x : Option (AV × St)) : Bool := match x with | some (.bool true, _) => true | _ => false
theorem isT_spec {x : Option (AV × St)} (h : isT x = true) : ∃ st, x = some (.bool true, st) := by
  unfold isT at h
  split at h
  · rename_i st; exact ⟨st, rfl⟩
  · cases h
end Go.OptEnv

/- Loops over a count, whole: what stays is taken over, the index is kept by the rule. -/
namespace Go.Abs
/-- Some of what is known, by tmps. -/
def pickF (l : List (Nat × AV)) : List Nat → Option (List (Nat × AV))
  | [] => some []
  | i :: is => match lk l i, pickF l is with
    | some v, some r => some ((i, v) :: r)
    | _, _ => none
theorem pick_sub {l : List (Nat × AV)} : ∀ {is : List Nat} {r : List (Nat × AV)}, pickF l is = some r → Abs.Sub l r
  | [], _, h => by simp only [pickF, Option.some.injEq] at h; subst h; exact Sub.nil _
  | i :: is, r, h => by
    simp only [pickF] at h
    split at h
    · rename_i v r' h1 h2
      simp only [Option.some.injEq] at h
      subst h
      exact Sub.cons h1 (pick_sub h2)
    · cases h
theorem Sub.trans {a b c : List (Nat × AV)} (h : Abs.Sub a b) (k : Abs.Sub b c) : Abs.Sub a c := fun i v hv => h i v (k i v hv)
theorem lk_append {a b : List (Nat × AV)} {i : Nat} : lk (a ++ b) i = match lk a i with | some v => some v | none => lk b i := by
  induction a with
  | nil => rfl
  | cons p a ih =>
    obtain ⟨j, v⟩ := p
    simp only [List.cons_append, lk]
    cases hb : Nat.beq j i with
    | true => rfl
    | false => exact ih
theorem Sub.app {l a b : List (Nat × AV)} (h : Abs.Sub l a) (k : Abs.Sub l b) : Abs.Sub l (a ++ b) := by
  intro i v hv
  rw [lk_append] at hv
  cases ha : lk a i with
  | some u => rw [ha] at hv; rw [← hv]; exact h i u ha
  | none => rw [ha] at hv; exact k i v hv
theorem Sub.over {l : List (Nat × AV)} {t : Nat} {v : AV} (h : lk l t = none) : Abs.Sub ((t, v) :: l) l := by
  intro i u hu
  simp only [lk]
  cases hb : Nat.beq t i with
  | true =>
    have := Nat.eq_of_beq_eq_true hb
    subst this
    rw [h] at hu; cases hu
  | false => exact hu
theorem Sub.under {a b : List (Nat × AV)} {t : Nat} {v : AV} (h : Abs.Sub a b) : Abs.Sub ((t, v) :: a) ((t, v) :: b) := by
  intro i u hu
  simp only [lk] at hu ⊢
  cases hb : Nat.beq t i with
  | true => rw [hb] at hu; exact hu
  | false => rw [hb] at hu; exact h i u hu
section
variable {E : Env} {fid N : Nat} {l : List (Nat × AV)} {L : List (Nat × AObj)} {K : List (Nat × Bool)} {Q : AExit → TM → St → Prop}
structure RSt (A : Type) where
  ti : Nat
  kept : List (Nat × AV)
  mf : A → List (Nat × AV)
  Lf : A → List (Nat × AObj)
  Kf : A → List (Nat × Bool)
  I : Nat → A → Prop
def RSt.at {A : Type} (s : RSt A) (i : Nat) (a : A) : List (Nat × AV) := (s.ti, .int .i64 (i : Int)) :: (s.mf a ++ s.kept)
/-- What is asked at the body's end. -/
def rangeQ {A : Type} (N : Nat) (s : RSt A) (i B C : Nat) (Q : AExit → TM → St → Prop) (e : AExit) (tm : TM) (st : St) : Prop :=
  ((e = .normal ∨ e = .exit C) ∧ ∃ a, s.I (i + 1) a ∧ Fa N (s.at i a) (s.Lf a) (s.Kf a) tm st) ∨ (e = .exit B ∧ Q .normal tm st) ∨ ((∃ j, e = .exit j ∧ j ≠ C ∧ j ≠ B) ∧ Q e tm st) ∨ (e = .ret ∧ Q .ret tm st)
theorem QS.rangeN {A : Type} {s : RSt A} {i B C : Nat} (a : A) (hI : s.I (i + 1) a) (hl : Abs.Sub l (s.at i a)) (hL : SubO L (s.Lf a)) (hK : SubK K (s.Kf a)) : QS N .normal l L K (rangeQ N s i B C Q) :=
  fun _ _ hF => .inl ⟨.inl rfl, a, hI, hF.sub hl hL hK⟩
theorem QS.rangeC {A : Type} {s : RSt A} {i B C : Nat} (a : A) (hI : s.I (i + 1) a) (hl : Abs.Sub l (s.at i a)) (hL : SubO L (s.Lf a)) (hK : SubK K (s.Kf a)) : QS N (.exit C) l L K (rangeQ N s i B C Q) :=
  fun _ _ hF => .inl ⟨.inr rfl, a, hI, hF.sub hl hL hK⟩
theorem QS.rangeB {A : Type} {s : RSt A} {i B C : Nat} (h : QS N .normal l L K Q) : QS N (.exit B) l L K (rangeQ N s i B C Q) := fun tm st hF => .inr (.inl ⟨rfl, h tm st hF⟩)
theorem QS.rangeE {A : Type} {s : RSt A} {i B C j : Nat} (hj : Nat.beq j C = false) (hj' : Nat.beq j B = false) (h : QS N (.exit j) l L K Q) : QS N (.exit j) l L K (rangeQ N s i B C Q) :=
  fun tm st hF => .inr (.inr (.inl ⟨⟨j, rfl, Nat.ne_of_beq_eq_false hj, Nat.ne_of_beq_eq_false hj'⟩, h tm st hF⟩))
theorem QS.rangeR {A : Type} {s : RSt A} {i B C : Nat} (h : QS N .ret l L K Q) : QS N .ret l L K (rangeQ N s i B C Q) := fun tm st hF => .inr (.inr (.inr ⟨rfl, h tm st hF⟩))
theorem lt_dec {i n : Nat} : (decide ((i : Int) < (n : Int))) = decide (i < n) := by
  rw [decide_eq_decide]; omega
/-- A loop over a count. -/
theorem WS.range {A : Type} {B C h g tc tn ts n : Nat} {hops gops : Array Oper} {body : Code} {y1 y2 y3 y4 y5 y6 y7 : TypeId} {p1 p2 p3 : String} {e1 e2 e3 : Array Edge} (s : RSt A) (a0 : A)
    (ids : List Nat) (hpk : pickF l ids = some s.kept) (hn63 : n ≤ 9223372036854775806) (h0 : s.I 0 a0) (hi : lk l s.ti = some (.int .i64 ((0 : Nat) : Int))) (hm : Abs.Sub l (s.mf a0)) (hL : SubO L (s.Lf a0)) (hK : SubK K (s.Kf a0))
    (hh : hops.toList = [{ dst := some tc, op := .binOp .lss y1 (.tmp s.ti) (.tmp tn) y2, type := y3, pos := p1, after := e1, guard := none }])
    (hg : gops.toList = [{ dst := some ts, op := .binOp .add y4 (.tmp s.ti) (.const (.int .i64 1)) y5, type := y6, pos := p2, after := e2, guard := none }, { dst := some s.ti, op := .move (.tmp ts), type := y7, pos := p3, after := e3, guard := none }])
    (hBC : Nat.beq B C = false) (hc : Nat.blt tc N = true) (hs : Nat.blt ts N = true) (ht : Nat.blt s.ti N = true)
    (hn : ∀ a i, lk (s.at i a) tn = some (.int .i64 (n : Int)))
    (d1 : ∀ a, lk (s.mf a ++ s.kept) s.ti = none) (d2 : ∀ a i, lk (s.at i a) tc = none) (d3 : ∀ a i, lk (s.at i a) ts = none)
    (hb : ∀ i a, i < n → s.I i a → WS E fid N body (s.at i a) (s.Lf a) (s.Kf a) (rangeQ N s i B C Q))
    (he : ∀ a, s.I n a → QS N .normal (s.mf a ++ s.kept) (s.Lf a) (s.Kf a) Q) :
    WS E fid N (.loop (.seq (.region h hops false) (.seq (.cond (.tmp tc) .skip (.exit B)) (.seq (.block C body) (.region g gops false))))) l L K (blockQ B Q) := by
  have hp := pick_sub hpk
  refine WS.loop (D := Nat × A) (fun d => s.at d.1 d.2) (fun d => s.Lf d.2) (fun d => s.Kf d.2) (fun d => d.1 ≤ n ∧ s.I d.1 d.2) (fun d => n + 1 - d.1) (0, a0) ⟨Nat.zero_le _, h0⟩ (Sub.cons hi (hm.app hp)) hL hK ?_
  rintro ⟨i, a⟩ ⟨hin, hI⟩
  dsimp only at hin hI ⊢
  refine WS.seq (WS.region ?_)
  rw [hh]
  have hti : lk (s.at i a) s.ti = some (.int .i64 (i : Int)) := by
    simp only [RSt.at, lk]
    have : Nat.beq s.ti s.ti = true := Nat.beq_refl _
    rw [this]; rfl
  refine OS.do rfl (OD.bin (v := .bool (decide (i < n))) hc hti (hn a i) (by
    rw [← lt_dec]; rfl) (OS.nil (QS.seqN ?_)))
  refine WS.seq (WS.condD (p := i < n) (inst := inferInstance) (by simp [lk]) (fun hlt => ?_) (fun hge => ?_))
  · refine WS.skip (QS.seqN (WS.seq ?_))
    intro tm st hF
    have hF0 : Fa N (s.at i a) (s.Lf a) (s.Kf a) tm st := hF.sub (fun j v hv => by
      have : ∀ (b : AV), lk ((tc, b) :: s.at i a) j = some v := fun b => Sub.over (d2 a i) j v hv
      simp only [lk]
      cases hb : Nat.beq tc j with
      | true =>
        have hj := Nat.eq_of_beq_eq_true hb
        subst hj
        rw [d2 a i] at hv; cases hv
      | false => exact hv) (.refl _) (.refl _)
    refine W.block ((hb i a hlt hI tm st hF0).mono fun e tm' st' hq => ?_)
    rcases hq with ⟨he', a', hI', hF'⟩ | ⟨rfl, hq⟩ | ⟨⟨j, rfl, hj1, hj2⟩, hq⟩ | ⟨rfl, hq⟩
    · have key : seqQ E fid (.region g gops false) (loopQ (loopS N (fun d : Nat × A => s.at d.1 d.2) (fun d => s.Lf d.2) (fun d => s.Kf d.2) (fun d => d.1 ≤ n ∧ s.I d.1 d.2) (fun d => n + 1 - d.1)) (n + 1 - i) (blockQ B Q)) .normal tm' st' := by
        refine seqQ.normal ?_
        have hW : WS E fid N (.region g gops false) (s.at i a') (s.Lf a') (s.Kf a') (loopQ (loopS N (fun d : Nat × A => s.at d.1 d.2) (fun d => s.Lf d.2) (fun d => s.Kf d.2) (fun d => d.1 ≤ n ∧ s.I d.1 d.2) (fun d => n + 1 - d.1)) (n + 1 - i) (blockQ B Q)) := by
          refine WS.region ?_
          rw [hg]
          have hti' : lk (s.at i a') s.ti = some (.int .i64 (i : Int)) := by
            simp only [RSt.at, lk]
            have : Nat.beq s.ti s.ti = true := Nat.beq_refl _
            rw [this]; rfl
          have hw : IntKind.i64.wrap ((i : Int) + 1) = ((i + 1 : Nat) : Int) := wrap_succ (by omega)
          refine OS.do rfl (OD.bin (b := .int .i64 1) (v := .int .i64 ((i + 1 : Nat) : Int)) hs hti' rfl (by rw [← hw]; rfl) ?_)
          refine OS.do rfl (OD.auto (v := .int .i64 ((i + 1 : Nat) : Int)) ht (by
            have : Nat.beq ts ts = true := Nat.beq_refl _
            simp only [quietS, evL, lk, this, cond_true]) (OS.nil ?_))
          refine QS.loopN (i + 1, a') ⟨by dsimp only; omega, hI'⟩ (by dsimp only; omega) ?_ (.refl _) (.refl _)
          dsimp only
          refine Sub.under ?_
          have e1 : Abs.Sub ((ts, AV.int .i64 ((i + 1 : Nat) : Int)) :: s.at i a') (s.at i a') := Sub.over (d3 a' i)
          exact e1.trans (Sub.over (d1 a'))
        exact hW tm' st' hF'
      rcases he' with rfl | rfl
      · exact blockQ.normal key
      · exact blockQ.here key
    · exact blockQ.exit hBC (seqQ.exit (loopQ.exit (blockQ.here hq)))
    · exact blockQ.exit (by
        cases hb : Nat.beq j C with
        | true => exact absurd (Nat.eq_of_beq_eq_true hb) hj1
        | false => rfl) (seqQ.exit (loopQ.exit (blockQ.exit (by
          cases hb : Nat.beq j B with
          | true => exact absurd (Nat.eq_of_beq_eq_true hb) hj2
          | false => rfl) hq)))
    · exact blockQ.ret (seqQ.ret (loopQ.ret (blockQ.ret hq)))
  · refine WS.exit (QS.seqE (QS.loopE (QS.blockH ?_)))
    have hie : i = n := by omega
    subst hie
    intro tm st hF
    refine he a hI tm st (hF.sub (fun j v hv => ?_) (.refl _) (.refl _))
    have h1 : lk (s.at i a) j = some v := Sub.over (d1 a) j v hv
    simp only [lk]
    cases hb : Nat.beq tc j with
    | true =>
      have hj := Nat.eq_of_beq_eq_true hb
      subst hj
      rw [d2 a i] at h1; cases h1
    | false => exact h1
/-- A loop; what stays is taken over. -/
theorem WS.loopK {D : Type} {c : Code} {kept : List (Nat × AV)} (ids : List Nat) (hpk : pickF l ids = some kept) (mf : D → List (Nat × AV)) (Lf : D → List (Nat × AObj)) (Kf : D → List (Nat × Bool)) (p : D → Prop) (m : D → Nat) (d0 : D) (h0 : p d0) (hm : Abs.Sub l (mf d0)) (hL : SubO L (Lf d0)) (hK : SubK K (Kf d0))
    (hb : ∀ d, p d → WS E fid N c (mf d ++ kept) (Lf d) (Kf d) (loopQ (loopS N (fun d => mf d ++ kept) Lf Kf p m) (m d) Q)) : WS E fid N (.loop c) l L K Q :=
  WS.loop (fun d => mf d ++ kept) Lf Kf p m d0 h0 (hm.app (pick_sub hpk)) hL hK hb
/-- Where ways meet; what stays is taken over. -/
theorem WS.cutK {a b : Code} {kept : List (Nat × AV)} (ids : List Nat) (hpk : pickF l ids = some kept) (mf : List (Nat × AV)) (L' : List (Nat × AObj)) (K' : List (Nat × Bool)) (p : Prop) (h1 : WS E fid N a l L K (cutQ N (mf ++ kept) L' K' p Q)) (h2 : p → WS E fid N b (mf ++ kept) L' K' Q) : WS E fid N (.seq a b) l L K Q :=
  WS.cut (mf ++ kept) L' K' p h1 h2
variable {pol : Nat → Nat} {ops : Array Oper} {o : Oper} {r : List Oper} {i : Nat} {d : Nat} {ty : TypeId} {pos : String} {after : Array Edge} {guard : Option (Nat × Bool)}
theorem OD.makeMapN {t kt et : TypeId} {y : Ty} {x : Operand} {kd : IntKind} {n : Int} (hn : Nat.blt d N = true) (hx : evL l x = some (.int kd n)) (ht : E.ty t = some y) (hd : y.d = .map kt et) (k : ∀ b, OS E false pol ops r (i + 1) N ((d, .map b) :: l) ((b, .map kt et []) :: L) K Q) :
    OD E false pol ops { dst := some d, op := .makeMap t (some x), type := ty, pos := pos, after := after, guard := guard } r i N l L K Q := by
  refine .loud rfl rfl (fun _ h => by cases h) fun tm st hF => ⟨.map st.next, st.new (.map kt et []), _, _, _, ?_, (hF.new _).put hn _, k st.next⟩
  have : Abs.loud E noCall (pol i) tm st { dst := some d, op := .makeMap t (some x), type := ty, pos := pos, after := after, guard := guard } = (match E.ty t, evalO tm x with | some ty, .int _ _ => (match ty.d with | .map kt et => some (.map st.next, st.new (.map kt et [])) | _ => none) | _, _ => none) := rfl
  rw [this, ht, hF.ev hx]
  dsimp only
  rw [hd]
end
end Go.Abs

/- Nets of ands in plain Lean: their bits, an order on bits, and what a fixed state says of every run. No claim of its own. -/
namespace Go.NetM

def notB (b : UInt8) : UInt8 := if 1 < b.toNat then 2 else 1 - b
def andB (a b : UInt8) : UInt8 := if a = 0 ∨ b = 0 then 0 else if a = 1 ∧ b = 1 then 1 else 2
/-- The bit of a literal. -/
def ofL (v : List UInt8) (lit : Int) : UInt8 := if lit % 2 = 1 then notB (v.getD (lit / 2).toNat 0) else v.getD (lit / 2).toNat 0
/-- The bits of all nodes. -/
def gatesM (v0 : List UInt8) (gs : List (Int × Int)) : List UInt8 := gs.foldl (fun v g => v ++ [andB (ofL v g.1) (ofL v g.2)]) v0
def allB (gs : List (Int × Int)) (ins regs : List UInt8) : List UInt8 := gatesM (0 :: (ins ++ regs)) gs
/-- The bits of some literals. -/
def litsB (gs : List (Int × Int)) (ins regs : List UInt8) (ls : List Int) : List UInt8 := ls.map (ofL (allB gs ins regs))

theorem gatesM_len : ∀ (gs : List (Int × Int)) (v : List UInt8), (gatesM v gs).length = v.length + gs.length
  | [], v => by simp [gatesM]
  | g :: gs, v => by
    have := gatesM_len gs (v ++ [andB (ofL v g.1) (ofL v g.2)])
    simp only [gatesM, List.foldl_cons, List.length_append, List.length_cons, List.length_nil] at this ⊢
    rw [this]; omega
theorem litsB_len {gs : List (Int × Int)} {ins regs : List UInt8} {ls : List Int} : (litsB gs ins regs ls).length = ls.length := List.length_map _

/-- The second one is the first one, or is not known. -/
def leB (a b : UInt8) : Prop := a = b ∨ b = 2
theorem leB.refl (a : UInt8) : leB a a := .inl rfl
theorem leB.top (a : UInt8) : leB a 2 := .inr rfl
theorem leB.trans {a b c : UInt8} (h : leB a b) (k : leB b c) : leB a c := by
  rcases k with rfl | k
  · exact h
  · exact .inr k
theorem leB.eq {a b : UInt8} (h : leB a b) (hb : b ≠ 2) : a = b := h.resolve_right hb
theorem notB_two : notB 2 = 2 := rfl
theorem leB.not {a b : UInt8} (h : leB a b) : leB (notB a) (notB b) := by
  rcases h with rfl | rfl
  · exact .refl _
  · exact .inr notB_two
theorem andB_zero (a b : UInt8) (h : a = 0 ∨ b = 0) : andB a b = 0 := by unfold andB; rw [if_pos h]
theorem leB.and {a a' b b' : UInt8} (h : leB a a') (k : leB b b') : leB (andB a b) (andB a' b') := by
  rcases h with rfl | rfl
  · rcases k with rfl | rfl
    · exact .refl _
    · by_cases h0 : a = 0
      · rw [andB_zero a b (.inl h0), andB_zero a 2 (.inl h0)]; exact .refl _
      · right; unfold andB
        rw [if_neg (by simp [h0]), if_neg (by simp)]
  · by_cases h0 : b' = 0
    · rcases k with rfl | k
      · rw [andB_zero a b (.inr h0), andB_zero 2 b (.inr h0)]; exact .refl _
      · rw [k] at h0; exact absurd h0 (by decide)
    · right; unfold andB
      rw [if_neg (by simp [h0]), if_neg (by simp)]
/-- Place by place. -/
def leL (v w : List UInt8) : Prop := v.length = w.length ∧ ∀ i, leB (v.getD i 0) (w.getD i 0)
theorem leL.refl (v : List UInt8) : leL v v := ⟨rfl, fun _ => .refl _⟩
theorem leL.lit {v w : List UInt8} (h : leL v w) (l : Int) : leB (ofL v l) (ofL w l) := by
  unfold ofL
  split
  · exact (h.2 _).not
  · exact h.2 _
theorem getD_append {v : List UInt8} {l : List UInt8} {i : Nat} : (v ++ l).getD i 0 = if i < v.length then v.getD i 0 else l.getD (i - v.length) 0 := by
  simp only [List.getD_eq_getElem?_getD]
  split
  · rw [List.getElem?_append_left (by assumption)]
  · rw [List.getElem?_append_right (by omega)]
theorem leL.app {v w x y : List UInt8} (h : leL v w) (k : leL x y) : leL (v ++ x) (w ++ y) := by
  refine ⟨by rw [List.length_append, List.length_append, h.1, k.1], fun i => ?_⟩
  rw [getD_append, getD_append, h.1]
  split
  · exact h.2 i
  · exact k.2 _
theorem leL.one {a b : UInt8} (h : leB a b) : leL [a] [b] := by
  refine ⟨rfl, fun i => ?_⟩
  cases i with
  | zero => exact h
  | succ i => exact .refl _
theorem leL.gates : ∀ (gs : List (Int × Int)) {v w : List UInt8}, leL v w → leL (gatesM v gs) (gatesM w gs)
  | [], _, _, h => h
  | g :: gs, v, w, h => by
    simp only [gatesM, List.foldl_cons]
    exact leL.gates gs (h.app (.one ((h.lit g.1).and (h.lit g.2))))
theorem leL.tops {v : List UInt8} {n : Nat} (h : v.length = n) : leL v (List.replicate n 2) := by
  refine ⟨by rw [List.length_replicate, h], fun i => ?_⟩
  by_cases hi : i < n
  · right; simp [List.getD_eq_getElem?_getD, hi]
  · left; simp [List.getD_eq_getElem?_getD, hi, List.getElem?_eq_none (show v.length ≤ i by omega)]
theorem leL.all {gs : List (Int × Int)} {i j r s : List UInt8} (h : leL i j) (k : leL r s) : leL (allB gs i r) (allB gs j s) :=
  leL.gates gs ((leL.one (.refl 0)).app (h.app k))
theorem getD_map {α : Type} (f : α → UInt8) (l : List α) (i : Nat) (h : i < l.length) : (l.map f).getD i 0 = f l[i] := by
  simp [List.getD_eq_getElem?_getD, List.getElem?_map, List.getElem?_eq_getElem h]
theorem leL.lits {gs : List (Int × Int)} {i j r s : List UInt8} (h : leL i j) (k : leL r s) (ls : List Int) : leL (litsB gs i r ls) (litsB gs j s ls) := by
  refine ⟨by rw [litsB_len, litsB_len], fun m => ?_⟩
  by_cases hm : m < ls.length
  · unfold litsB
    rw [getD_map _ _ _ hm, getD_map _ _ _ hm]
    exact (leL.all h k).lit _
  · left
    rw [List.getD_eq_getElem?_getD, List.getD_eq_getElem?_getD, List.getElem?_eq_none (by rw [litsB_len]; omega), List.getElem?_eq_none (by rw [litsB_len]; omega)]

/-- A state that says what the registers keep: where it is known it is what is taken next, whatever the inputs are. -/
def Fix (gs : List (Int × Int)) (nins : Nat) (next : List Int) (S : List UInt8) : Prop :=
  S.length = next.length ∧ ∀ i, S.getD i 0 ≠ 2 → (litsB gs (List.replicate nins 2) S next).getD i 0 = S.getD i 0
theorem Fix.step {gs : List (Int × Int)} {next : List Int} {S now ins : List UInt8} (h : Fix gs ins.length next S) (k : leL now S) : leL (litsB gs ins now next) S := by
  have hm := leL.lits (gs := gs) (leL.tops (v := ins) rfl) k next
  refine ⟨by rw [litsB_len, h.1], fun i => ?_⟩
  by_cases hi : S.getD i 0 = 2
  · right; exact hi
  · have := hm.2 i
    rw [h.2 i hi] at this
    exact this

/-! ### Bits that are 0, 1 or x -/
def le2 (l : List UInt8) : Bool := l.all fun b => decide (b.toNat ≤ 2)
theorem not_le2 {b : UInt8} (h : b.toNat ≤ 2) : (notB b).toNat ≤ 2 := by
  unfold notB
  split
  · decide
  · have : b = 0 ∨ b = 1 := by
      rcases Nat.lt_or_ge b.toNat 1 with k | k
      · left; exact UInt8.toNat_inj.1 (by simpa using by omega)
      · right; exact UInt8.toNat_inj.1 (by simpa using by omega)
    rcases this with rfl | rfl <;> decide
theorem and_le2 (a b : UInt8) : (andB a b).toNat ≤ 2 := by
  unfold andB
  split
  · decide
  · split <;> decide
theorem getD_le2 {l : List UInt8} (h : le2 l = true) (i : Nat) : (l.getD i 0).toNat ≤ 2 := by
  rw [List.getD_eq_getElem?_getD]
  by_cases hi : i < l.length
  · rw [List.getElem?_eq_getElem hi]
    have := List.all_eq_true.1 h _ (List.getElem_mem hi)
    simpa using this
  · rw [List.getElem?_eq_none (by omega)]; decide
theorem ofL_le2 {l : List UInt8} (h : le2 l = true) (m : Int) : (ofL l m).toNat ≤ 2 := by
  unfold ofL
  split
  · exact not_le2 (getD_le2 h _)
  · exact getD_le2 h _
theorem le2_app {v w : List UInt8} (h : le2 v = true) (k : le2 w = true) : le2 (v ++ w) = true := by
  unfold le2 at *
  rw [List.all_append, h, k]; rfl
theorem gatesM_le2 : ∀ (gs : List (Int × Int)) {v : List UInt8}, le2 v = true → le2 (gatesM v gs) = true
  | [], _, h => h
  | g :: gs, v, h => by
    simp only [gatesM, List.foldl_cons]
    exact gatesM_le2 gs (le2_app h (by simp only [le2, List.all_cons, List.all_nil, Bool.and_true, decide_eq_true_eq]; exact and_le2 _ _))
theorem allB_le2 {gs : List (Int × Int)} {i r : List UInt8} (h : le2 i = true) (k : le2 r = true) : le2 (allB gs i r) = true :=
  gatesM_le2 gs (le2_app (v := [0]) (by decide) (le2_app h k))
theorem litsB_le2 {gs : List (Int × Int)} {i r : List UInt8} (h : le2 i = true) (k : le2 r = true) (ls : List Int) : le2 (litsB gs i r ls) = true := by
  unfold le2
  rw [List.all_eq_true]
  intro b hb
  obtain ⟨l, _, rfl⟩ := List.mem_map.1 hb
  simpa using ofL_le2 (allB_le2 (gs := gs) h k) l

/-! ### Going down to a fixed state -/
/-- A known bit that changes is known no more. -/
def downB (s b : UInt8) : UInt8 := if s ≠ 2 ∧ s ≠ b then 2 else s
def downM (gs : List (Int × Int)) (nins : Nat) (next : List Int) (S : List UInt8) : List UInt8 := List.zipWith downB S (litsB gs (List.replicate nins 2) S next)
def sinkM (gs : List (Int × Int)) (nins : Nat) (next : List Int) : Nat → List UInt8 → List UInt8
  | 0, S => S
  | n + 1, S => if downM gs nins next S = S then S else sinkM gs nins next n (downM gs nins next S)
/-- How many are known. -/
def knownN (S : List UInt8) : Nat := (S.filter fun b => decide (¬ b = 2)).length
theorem down_len {gs : List (Int × Int)} {nins : Nat} {next : List Int} {S : List UInt8} (h : S.length = next.length) : (downM gs nins next S).length = S.length := by
  unfold downM
  rw [List.length_zipWith, litsB_len, h, Nat.min_self]
theorem knownN_zip : ∀ (S L : List UInt8), L.length = S.length → knownN (List.zipWith downB S L) ≤ knownN S ∧ (List.zipWith downB S L ≠ S → knownN (List.zipWith downB S L) < knownN S)
  | [], [], _ => by simp [knownN]
  | [], _ :: _, h => by simp at h
  | _ :: _, [], h => by simp at h
  | s :: S, l :: L, h => by
    obtain ⟨i1, i2⟩ := knownN_zip S L (by simpa using h)
    simp only [List.zipWith_cons_cons]
    unfold knownN at *
    by_cases hs : s = 2
    · subst hs
      have : downB 2 l = 2 := by simp [downB]
      rw [this]
      simp only [List.filter_cons, ne_eq, not_true_eq_false, decide_false, Bool.false_eq_true, if_false]
      exact ⟨i1, fun k => i2 fun e => k (by rw [e])⟩
    · by_cases hl : s = l
      · have : downB s l = s := by simp [downB, hl]
        rw [this]
        simp only [List.filter_cons, ne_eq, hs, not_false_eq_true, decide_true, if_true, List.length_cons]
        exact ⟨by omega, fun k => by have := i2 fun e => k (by rw [e]); omega⟩
      · have : downB s l = 2 := by simp [downB, hl, hs]
        rw [this]
        simp only [List.filter_cons, ne_eq, hs, not_true_eq_false, not_false_eq_true, decide_true, decide_false, Bool.false_eq_true, if_true, if_false, List.length_cons]
        exact ⟨by omega, fun _ => by omega⟩
theorem sink_fix {gs : List (Int × Int)} {nins : Nat} {next : List Int} : ∀ (n : Nat) (S : List UInt8), S.length = next.length → knownN S ≤ n → downM gs nins next (sinkM gs nins next n S) = sinkM gs nins next n S ∧ (sinkM gs nins next n S).length = next.length
  | 0, S, h, hk => by
    simp only [sinkM]
    refine ⟨?_, h⟩
    by_cases e : downM gs nins next S = S
    · exact e
    · have := (knownN_zip S (litsB gs (List.replicate nins 2) S next) (by rw [litsB_len, h])).2 e
      omega
  | n + 1, S, h, hk => by
    simp only [sinkM]
    split
    · rename_i e; exact ⟨e, h⟩
    · rename_i e
      have := (knownN_zip S (litsB gs (List.replicate nins 2) S next) (by rw [litsB_len, h])).2 e
      refine sink_fix n _ (by rw [down_len h, h]) ?_
      show knownN (List.zipWith downB S _) ≤ n
      omega
theorem zip_getD : ∀ (S L : List UInt8) (i : Nat), L.length = S.length → (List.zipWith downB S L).getD i 0 = if i < S.length then downB (S.getD i 0) (L.getD i 0) else 0
  | [], [], i, _ => by simp
  | [], _ :: _, _, h => by simp at h
  | _ :: _, [], _, h => by simp at h
  | s :: S, l :: L, 0, _ => by simp
  | s :: S, l :: L, i + 1, h => by
    have := zip_getD S L i (by simpa using h)
    simp only [List.zipWith_cons_cons, List.getD_cons_succ, this, List.length_cons, Nat.add_lt_add_iff_right]
theorem fix_of_down {gs : List (Int × Int)} {nins : Nat} {next : List Int} {S : List UInt8} (h : S.length = next.length) (e : downM gs nins next S = S) : Fix gs nins next S := by
  refine ⟨h, fun i hi => ?_⟩
  have hz := zip_getD S (litsB gs (List.replicate nins 2) S next) i (by rw [litsB_len, h])
  rw [show List.zipWith downB S (litsB gs (List.replicate nins 2) S next) = S from e] at hz
  by_cases hlt : i < S.length
  · rw [if_pos hlt] at hz
    unfold downB at hz
    split at hz
    · exact absurd hz hi
    · rename_i k
      have : ¬ (S.getD i 0 ≠ (litsB gs (List.replicate nins 2) S next).getD i 0) := fun q => k ⟨hi, q⟩
      exact (Classical.not_not.1 this).symm
  · rw [List.getD_eq_getElem?_getD, List.getD_eq_getElem?_getD, List.getElem?_eq_none (by rw [litsB_len]; omega), List.getElem?_eq_none (by omega)]
theorem down_top {gs : List (Int × Int)} {nins : Nat} {next : List Int} {S : List UInt8} (h : S.length = next.length) : leL S (downM gs nins next S) := by
  refine ⟨(down_len h).symm, fun i => ?_⟩
  unfold downM
  rw [zip_getD S _ i (by rw [litsB_len, h])]
  split
  · unfold downB
    split
    · exact .top _
    · exact .refl _
  · rename_i k
    rw [List.getD_eq_getElem?_getD, List.getElem?_eq_none (by omega)]; exact .refl _
theorem sink_top {gs : List (Int × Int)} {nins : Nat} {next : List Int} : ∀ (n : Nat) (S : List UInt8), S.length = next.length → leL S (sinkM gs nins next n S)
  | 0, S, _ => .refl S
  | n + 1, S, h => by
    simp only [sinkM]
    split
    · exact .refl S
    · have h1 := down_top (gs := gs) (nins := nins) h
      have h2 := sink_top (gs := gs) (nins := nins) (next := next) n (downM gs nins next S) (by rw [down_len h, h])
      exact ⟨h1.1.trans h2.1, fun i => (h1.2 i).trans (h2.2 i)⟩
/-- What never changes. -/
def stuckM (gs : List (Int × Int)) (nins : Nat) (next : List Int) (init : List UInt8) : List UInt8 := sinkM gs nins next init.length init
theorem knownN_le (S : List UInt8) : knownN S ≤ S.length := List.length_filter_le _ _
theorem stuck_fix {gs : List (Int × Int)} {nins : Nat} {next : List Int} {init : List UInt8} (h : init.length = next.length) : Fix gs nins next (stuckM gs nins next init) := by
  obtain ⟨h1, h2⟩ := sink_fix (gs := gs) (nins := nins) (next := next) init.length init h (knownN_le _)
  exact fix_of_down h2 h1
theorem stuck_top {gs : List (Int × Int)} {nins : Nat} {next : List Int} {init : List UInt8} (h : init.length = next.length) : leL init (stuckM gs nins next init) := sink_top _ _ h
end Go.NetM
namespace Go.NetM
/-- The first values: known ones stay. -/
def Begins (init from_ : List UInt8) : Prop := from_.length = init.length ∧ ∀ i, init.getD i 0 ≠ 2 → from_.getD i 0 = init.getD i 0
theorem Begins.stuck {gs : List (Int × Int)} {nins : Nat} {next : List Int} {init f : List UInt8} (h : init.length = next.length) (hb : Begins init f) : leL f (stuckM gs nins next init) := by
  have ht := stuck_top (gs := gs) (nins := nins) h
  refine ⟨hb.1.trans ht.1, fun i => ?_⟩
  by_cases hi : (stuckM gs nins next init).getD i 0 = 2
  · right; exact hi
  · left
    have e := (ht.2 i).eq hi
    rw [hb.2 i (by rw [e]; exact hi), e]
/-- The state at each clock. -/
def nowM (gs : List (Int × Int)) (next : List Int) (f : List UInt8) (xs : List (List UInt8)) (t : Nat) : List UInt8 := (xs.take t).foldl (fun now x => litsB gs x now next) f
theorem nowM_succ {gs : List (Int × Int)} {next : List Int} {f : List UInt8} {xs : List (List UInt8)} {t : Nat} (h : t < xs.length) : nowM gs next f xs (t + 1) = litsB gs xs[t] (nowM gs next f xs t) next := by
  unfold nowM
  rw [List.take_succ_eq_append_getElem h, List.foldl_append]; rfl
theorem nowM_zero {gs : List (Int × Int)} {next : List Int} {f : List UInt8} {xs : List (List UInt8)} : nowM gs next f xs 0 = f := rfl
theorem now_stuck {gs : List (Int × Int)} {nins : Nat} {next : List Int} {init f : List UInt8} {xs : List (List UInt8)} (h : init.length = next.length) (hb : Begins init f) (hx : ∀ x ∈ xs, x.length = nins) : ∀ t, t ≤ xs.length → leL (nowM gs next f xs t) (stuckM gs nins next init)
  | 0, _ => hb.stuck h
  | t + 1, ht => by
    rw [nowM_succ (by omega)]
    have hl := hx _ (List.getElem_mem (show t < xs.length by omega))
    have hf := stuck_fix (gs := gs) (nins := nins) h
    rw [← hl] at hf ⊢
    have ih := now_stuck (gs := gs) (nins := nins) h hb hx t (by omega)
    rw [← hl] at ih
    exact hf.step ih
theorem now_le2 {gs : List (Int × Int)} {next : List Int} {f : List UInt8} {xs : List (List UInt8)} (hf : le2 f = true) (hx : ∀ x ∈ xs, le2 x = true) : ∀ t, t ≤ xs.length → le2 (nowM gs next f xs t) = true
  | 0, _ => hf
  | t + 1, ht => by
    rw [nowM_succ (by omega)]
    exact litsB_le2 (hx _ (List.getElem_mem (show t < xs.length by omega))) (now_le2 hf hx t (by omega)) _
theorem now_len {gs : List (Int × Int)} {next : List Int} {f : List UInt8} {xs : List (List UInt8)} (hf : f.length = next.length) : ∀ t, t ≤ xs.length → (nowM gs next f xs t).length = next.length
  | 0, _ => hf
  | t + 1, ht => by rw [nowM_succ (by omega), litsB_len]
end Go.NetM

/- Nets as data; what makes them valid; contracts between functions. -/
namespace Go.OptEnv
open Go Go.Proofs Go.Abs Go.RowKit Go.NetM
set_option maxRecDepth 10000
abbrev Rel := List AV → AV → Prop
/-- A function that is a prim, by its contract. -/
structure Has (pr : Prims) (f : FuncId) (Rl : Rel) : Prop where
  eq : pr f = some (primOf Rl)
  uniq : ∀ a r r', Rl a r → Rl a r' → r = r'
  free : ∀ a r, Rl a r → AV.freeL a = true
theorem Has.use {pr : Prims} {f : FuncId} {Rl : Rel} (h : Has pr f Rl) {args : List AV} {r : AV} (hr : Rl (AV.plainL args) r) (st : St) : primOf Rl args st = some (r, st) := primOf_eq h.uniq hr st
theorem Has.view {pr : Prims} {f : FuncId} {Rl : Rel} (h : Has pr f Rl) {args a : List AV} {r : AV} {st : St} (hv : mapO (viewA st 9) args = some a) (hr : Rl a r) (hs : AV.scal r = true) : primOf Rl args st = some (r, st) := primOf_view h.uniq h.free hv hr hs
theorem Good.add {pr : Prims} (h : Good pr) {f : FuncId} {Rl : Rel} (hc : Con2 (En pr) f Rl) (he : ∀ (w : World) (vargs : Array Value), (callFunc f vargs).run Tryz.prog w = .ok (.enter f vargs) w) : Good (addP pr f (primOf Rl)) :=
  h.addT fun B w0 => hc.does (En_ok pr) h.ok he B w0
theorem Has.of {pr pr' : Prims} {f : FuncId} {Rl : Rel} (hc : Con2 (En pr) f Rl) (h : pr' f = some (primOf Rl)) : Has pr' f Rl := ⟨h, hc.uniq, hc.free⟩
/-- A contract by data. -/
def RelF {D : Type} (dom : D → Prop) (args : D → List AV) (res : D → AV) : Rel := fun a x => ∃ d, dom d ∧ a = args d ∧ x = res d
theorem con_of {pr : Prims} {f : FuncId} {D : Type} {dom : D → Prop} {args : D → List AV} {res : D → AV} (hf : ∀ d, AV.freeL (args d) = true) (hr : ∀ d, dom d → ∀ st, CW (En pr) f (args d) st fun x _ => AV.free x = true ∧ AV.plain x = res d) : Con2 (En pr) f (RelF dom args res) :=
  ⟨by rintro a x ⟨d, _, rfl, rfl⟩; exact hf d, by
    rintro a x ⟨d, hd, rfl, rfl⟩
    exact (hr d hd _).mono fun y st ⟨h1, h2⟩ => ⟨y, st, freeze_free h1, h2, h1⟩⟩
/-- The same, where the result may lie in memory. -/
theorem con_ofz {pr : Prims} {f : FuncId} {D : Type} {dom : D → Prop} {args : D → List AV} {res : D → AV} (hf : ∀ d, AV.freeL (args d) = true) (hr : ∀ d, dom d → ∀ st, CW (En pr) f (args d) st fun x st' => ∃ r' st2, freezeA st' x = some (r', st2) ∧ AV.plain r' = res d ∧ AV.free r' = true) : Con2 (En pr) f (RelF dom args res) :=
  ⟨by rintro a x ⟨d, _, rfl, rfl⟩; exact hf d, by
    rintro a x ⟨d, hd, rfl, rfl⟩
    exact hr d hd _⟩
theorem con_eq {pr : Prims} {f : FuncId} {D : Type} {dom : D → Prop} {args : D → List AV} {res : D → AV} (hf : ∀ d, AV.freeL (args d) = true) (hs : ∀ d, AV.free (res d) = true ∧ AV.plain (res d) = res d) (hr : ∀ d, dom d → ∀ st, CW (En pr) f (args d) st fun x _ => x = res d) : Con2 (En pr) f (RelF dom args res) :=
  con_of hf fun d hd st => (hr d hd st).mono fun y _ e => by
    subst e
    exact hs d
def bitAV (b : UInt8) : AV := .int .u8 b.toNat
def intAV (n : Int) : AV := .int .i64 n
def strAV (s : ByteArray) : AV := .str s
theorem bit_plain (b : UInt8) : AV.plain (bitAV b) = bitAV b := rfl
theorem bit_free (b : UInt8) : AV.free (bitAV b) = true := rfl
theorem int_plain (b : Int) : AV.plain (intAV b) = intAV b := rfl
theorem int_free (b : Int) : AV.free (intAV b) = true := rfl
theorem str_plain (s : ByteArray) : AV.plain (strAV s) = strAV s := rfl
theorem str_free (s : ByteArray) : AV.free (strAV s) = true := rfl
structure GReg where
  name : ByteArray
  init : UInt8
  next : Int
def regAV (r : GReg) : AV := .agg [.str r.name, bitAV r.init, .int .i64 r.next]
structure GPin where
  name : ByteArray
  lit : Int
def pinAV (p : GPin) : AV := .agg [.str p.name, .int .i64 p.lit]
def gateAV (g : Int × Int) : AV := .agg [.int .i64 g.1, .int .i64 g.2]
theorem reg_plain (r : GReg) : AV.plain (regAV r) = regAV r := rfl
theorem reg_free (r : GReg) : AV.free (regAV r) = true := rfl
theorem pin_plain (r : GPin) : AV.plain (pinAV r) = pinAV r := rfl
theorem pin_free (r : GPin) : AV.free (pinAV r) = true := rfl
theorem gate_plain (r : Int × Int) : AV.plain (gateAV r) = gateAV r := rfl
theorem gate_free (r : Int × Int) : AV.free (gateAV r) = true := rfl
structure GNet where
  ins : GSl ByteArray
  regs : GSl GReg
  gates : GSl (Int × Int)
  outs : GSl GPin
def netAV (n : GNet) : AV := .agg [n.ins.av 1 strAV, n.regs.av 3 regAV, n.gates.av 2 gateAV, n.outs.av 2 pinAV]
theorem av_cellOk {α : Type} (sz : Nat) (f : α → AV) (s : GSl α) : (s.av sz f).cellOk = true := by
  rcases s.cases f sz with ⟨_, h | h⟩ | h <;> rw [h] <;> rfl
theorem net_ok (n : GNet) : (netAV n).ok = true := by simp [netAV, AV.ok, av_cellOk]
theorem net_plain (n : GNet) : AV.plain (netAV n) = netAV n := by simp [netAV, AV.plain, AV.plainL, plain_av str_plain, plain_av reg_plain, plain_av gate_plain, plain_av pin_plain]
theorem net_free (n : GNet) : AV.free (netAV n) = true := by simp [netAV, AV.free, AV.freeL, free_av str_free, free_av reg_free, free_av gate_free, free_av pin_free]
/-- An int that the language has. -/
def Fit64 (n : Int) : Prop := -9223372036854775808 ≤ n ∧ n < 9223372036854775808
/-- What fits into memory. -/
structure FitsN (n : GNet) : Prop where
  ins : n.ins.xs.length ≤ 140737488355328
  regs : n.regs.xs.length ≤ 140737488355328
  gates : n.gates.xs.length ≤ 140737488355328
  outs : n.outs.xs.length ≤ 140737488355328
  insN : ∀ s ∈ n.ins.xs, s.size ≤ 140737488355328
  regsN : ∀ r ∈ n.regs.xs, r.name.size ≤ 140737488355328
  outsN : ∀ r ∈ n.outs.xs, r.name.size ≤ 140737488355328
  gatesF : ∀ g ∈ n.gates.xs, Fit64 g.1 ∧ Fit64 g.2
  regsF : ∀ r ∈ n.regs.xs, Fit64 r.next
  outsF : ∀ r ∈ n.outs.xs, Fit64 r.lit
theorem roomB {et : Ty} {n : Nat} (hb : Nat.ble et.bytes 100 = true) (h : n ≤ 1000000000000) : roomA et n = true := by
  have hb := Nat.le_of_ble_eq_true hb
  have : n * et.bytes ≤ 1000000000000 * 100 := Nat.mul_le_mul h hb
  simp [roomA]; omega

/-- Small enough to be copied. -/
structure SmallN (n : GNet) : Prop where
  ins : n.ins.xs.length ≤ 1000000
  regs : n.regs.xs.length ≤ 1000000
  gates : n.gates.xs.length ≤ 1000000
  outs : n.outs.xs.length ≤ 1000000

/-! ### What is valid -/
theorem data_inj {a b : ByteArray} (h : a.data.toList = b.data.toList) : a = b := by
  obtain ⟨⟨x⟩⟩ := a
  obtain ⟨⟨y⟩⟩ := b
  simp at h
  rw [h]
theorem str_beq (a b : ByteArray) : (a.toList == b.toList) = decide (a = b) := by
  rw [ByteArray.toList_eq, ByteArray.toList_eq]
  by_cases h : a = b
  · subst h; simp
  · have : a.data.toList ≠ b.data.toList := fun k => h (data_inj k)
    rw [decide_eq_false h]
    exact beq_eq_false_iff_ne.2 this
theorem size_data (s : ByteArray) : s.data.toList.length = s.size := by simp
def byteOk (b : UInt8) : Bool := decide (33 ≤ b.toNat ∧ b.toNat ≤ 126)
def nameOk (s : ByteArray) : Bool := decide (1 ≤ s.size ∧ s.size ≤ 100) && s.data.toList.all byteOk
def namesM (l : List ByteArray) : Bool := decide (l.length ≤ 500) && l.all nameOk && decide l.Nodup
/-- A literal of a node before one. -/
def litOk (l : Int) (k : Int) : Bool := decide (0 ≤ l ∧ l < 2 * k)
def gatesOk (k : Int) : List (Int × Int) → Bool
  | [] => true
  | g :: r => litOk g.1 k && litOk g.2 k && gatesOk (k + 1) r
theorem gatesOk_snoc : ∀ (l : List (Int × Int)) (k : Int) (g : Int × Int), gatesOk k (l ++ [g]) = (gatesOk k l && (litOk g.1 (k + l.length) && litOk g.2 (k + l.length)))
  | [], k, g => by simp [gatesOk]
  | h :: r, k, g => by
    simp only [List.cons_append, gatesOk, gatesOk_snoc r (k + 1) g, List.length_cons]
    rw [show k + 1 + (r.length : Int) = k + ((r.length + 1 : Nat) : Int) by omega]
    simp only [Bool.and_assoc]
theorem gatesOk_take {l : List (Int × Int)} {k : Int} {i : Nat} (h : i < l.length) : gatesOk k (l.take (i + 1)) = (gatesOk k (l.take i) && (litOk l[i].1 (k + i) && litOk l[i].2 (k + i))) := by
  rw [List.take_succ_eq_append_getElem h, gatesOk_snoc, List.length_take, Nat.min_eq_left (by omega)]
theorem gatesOk_app : ∀ (a b : List (Int × Int)) (k : Int), gatesOk k (a ++ b) = true → gatesOk k a = true
  | [], _, _, _ => rfl
  | g :: a, b, k, h => by
    simp only [List.cons_append, gatesOk, Bool.and_eq_true] at h ⊢
    exact ⟨h.1, gatesOk_app a b _ h.2⟩
theorem gatesOk_bad {l : List (Int × Int)} {k : Int} {i : Nat} (h : i < l.length) (hb : (litOk l[i].1 (k + i) && litOk l[i].2 (k + i)) = false) : gatesOk k l = false := by
  apply Bool.eq_false_iff.2
  intro hc
  rw [← List.take_append_drop (i + 1) l] at hc
  have := gatesOk_app _ _ _ hc
  rw [gatesOk_take h, hb, Bool.and_false] at this
  cases this
def GNet.first (n : GNet) : Int := 1 + n.ins.xs.length + n.regs.xs.length
def GNet.nodes (n : GNet) : Int := n.first + n.gates.xs.length
def validM (n : GNet) : Bool := decide (n.gates.xs.length ≤ 20000) && namesM n.ins.xs && namesM (n.regs.xs.map (·.name)) && namesM (n.outs.xs.map (·.name)) && gatesOk n.first n.gates.xs &&
  (n.regs.xs.all fun r => decide (r.init.toNat ≤ 2)) && (n.regs.xs.all fun r => litOk r.next n.nodes) && (n.outs.xs.all fun p => litOk p.lit n.nodes)
structure ValidN (n : GNet) : Prop where
  gatesN : n.gates.xs.length ≤ 20000
  ins : namesM n.ins.xs = true
  regs : namesM (n.regs.xs.map (·.name)) = true
  outs : namesM (n.outs.xs.map (·.name)) = true
  gates : gatesOk n.first n.gates.xs = true
  inits : (n.regs.xs.all fun r => decide (r.init.toNat ≤ 2)) = true
  nexts : (n.regs.xs.all fun r => litOk r.next n.nodes) = true
  lits : (n.outs.xs.all fun p => litOk p.lit n.nodes) = true
theorem validM_iff {n : GNet} : validM n = true ↔ ValidN n := by
  unfold validM
  simp only [Bool.and_eq_true, decide_eq_true_eq]
  exact ⟨fun ⟨⟨⟨⟨⟨⟨⟨a, b⟩, c⟩, d⟩, e⟩, f⟩, g⟩, h⟩ => ⟨a, b, c, d, e, f, g, h⟩, fun ⟨a, b, c, d, e, f, g, h⟩ => ⟨⟨⟨⟨⟨⟨⟨a, b⟩, c⟩, d⟩, e⟩, f⟩, g⟩, h⟩⟩
theorem valid_no {n : GNet} (h : ValidN n → False) : validM n = false := Bool.eq_false_iff.2 fun k => h (validM_iff.1 k)
theorem names_len {l : List ByteArray} (h : namesM l = true) : l.length ≤ 500 := by
  simp only [namesM, Bool.and_eq_true, decide_eq_true_eq] at h; exact h.1.1
theorem all_get {α : Type} {l : List α} {f : α → Bool} (h : l.all f = true) {i : Nat} (hi : i < l.length) : f l[i] = true := List.all_eq_true.1 h _ (List.getElem_mem hi)
theorem map_take_succ {α β : Type} {l : List α} {f : α → β} {i : Nat} (h : i < l.length) : (l.take (i + 1)).map f = (l.take i).map f ++ [f l[i]] := by
  rw [List.take_succ_eq_append_getElem h, List.map_append]; rfl
theorem and_f1 {a b : Bool} (h : a = false) : (a && b) = false := by rw [h]; rfl
theorem and_f2 {a b : Bool} (h : b = false) : (a && b) = false := by rw [h, Bool.and_false]
theorem and_t {a b : Bool} (h : a = true) (k : b = true) : (a && b) = true := by rw [h, k]; rfl
theorem not_false_true {b : Bool} (h : b = true) (k : b = false) : False := by rw [h] at k; cases k
theorem nodup_take_succ {α : Type} {l : List α} {i : Nat} (h : i < l.length) (h1 : (l.take i).Nodup) (h2 : l[i] ∉ l.take i) : (l.take (i + 1)).Nodup := by
  rw [List.take_succ_eq_append_getElem h, List.nodup_append]
  refine ⟨h1, by simp, fun a ha b hb => ?_⟩
  simp only [List.mem_singleton] at hb
  subst hb
  rintro rfl
  exact h2 ha
theorem namesM_len {l : List ByteArray} (h : ¬ l.length ≤ 500) : namesM l = false := by simp [namesM, h]
theorem namesM_bad {l : List ByteArray} {i : Nat} (h : i < l.length) (hb : nameOk l[i] = false) : namesM l = false := by
  simp [namesM, all_false h hb]
theorem namesM_dup {l : List ByteArray} {i : Nat} (h : i < l.length) (e : l[i] ∈ l.take i) : namesM l = false := by
  have : ¬ l.Nodup := fun k => by
    rw [← List.take_append_drop i l, List.nodup_append] at k
    exact k.2.2 l[i] e l[i] (by rw [List.drop_eq_getElem_cons h]; exact List.mem_cons_self) rfl
  simp [namesM, this]
theorem namesM_ok {l : List ByteArray} (h : l.length ≤ 500) (ha : l.all nameOk = true) (hd : l.Nodup) : namesM l = true := by simp [namesM, h, ha, hd]
theorem nameOk_false {s : ByteArray} (h : s.size < 1 ∨ 100 < s.size) : nameOk s = false := by
  unfold nameOk
  rw [decide_eq_false (by omega)]; rfl
theorem nameOk_byte {s : ByteArray} {i : Nat} (h : i < s.data.toList.length) (hb : byteOk s.data.toList[i] = false) : nameOk s = false := by
  unfold nameOk
  rw [all_false h hb, Bool.and_false]
theorem nameOk_true {s : ByteArray} (h : 1 ≤ s.size ∧ s.size ≤ 100) (hb : s.data.toList.all byteOk = true) : nameOk s = true := by
  unfold nameOk
  rw [decide_eq_true h, hb]; rfl
theorem indexA_str {E : Env} {t : TypeId} {y : Ty} {s : ByteArray} {kd : IntKind} {i : Nat} {b : UInt8} (h1 : E.ty t = some y) (h2 : y.d = .string) (hb : s.data.toList[i]? = some b) : indexA E t (.str s) (.int kd (i : Int)) = some (.int .u8 b.toNat) := by
  unfold indexA
  rw [h1]
  dsimp only
  rw [h2]
  dsimp only
  rw [if_pos (by omega)]
  have : s[(i : Int).toNat]? = some b := by
    rw [show (i : Int).toNat = i from rfl]
    rw [Array.getElem?_toList] at hb
    obtain ⟨h, e⟩ := Array.getElem?_eq_some_iff.1 hb
    have hs : i < s.size := h
    rw [getElem?_pos s i hs]
    exact congrArg some e
  rw [this]
end Go.OptEnv
