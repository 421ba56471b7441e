/- Own text of this claim: part 6b of an interpreter that is proved sound against the model, and of what it shows of the law. -/
import Derived.SizedLaws
import Derived.Test.YtnipphfkiikbdaaDoorAbs6
/- Slices of slices. -/
namespace Go.Abs
section
variable {α : Type} {E : Env} {t e : TypeId} {y ey : Ty} {kd : IntKind} {sz : Nat} {f : α → AV}
theorem cells_av (s : GSl α) : (s.av sz f).cells = [s.av sz f] := by
  rcases s.cases f sz with ⟨_, h | h⟩ | h <;> rw [h] <;> rfl
theorem indexAddrA_natS {s : GSl (GSl α)} {i : Nat} {a : GSl α} (h1 : E.ty t = some y) (h2 : y.d = .slice e) (h3 : E.ty e = some ey) (h4 : ey.size = 1) (ha : s.xs[i]? = some a) :
    indexAddrA E t (s.av 1 fun x => x.av sz f) (.int kd (i : Int)) = some (.ip [a.av sz f]) := by
  rw [indexAddrA_nat h1 h2 h3 h4 ha, cells_av]
theorem indexAddrA_intS {s : GSl (GSl α)} {k : Int} {a : GSl α} (h1 : E.ty t = some y) (h2 : y.d = .slice e) (h3 : E.ty e = some ey) (h4 : ey.size = 1) (h0 : 0 ≤ k) (ha : s.xs[k.toNat]? = some a) :
    indexAddrA E t (s.av 1 fun x => x.av sz f) (.int kd k) = some (.ip [a.av sz f]) := by
  rw [indexAddrA_int h1 h2 h3 h4 h0 ha, cells_av]
theorem indexAddrA_accS {tk : Nat} {xs : List (GSl α)} {k : Int} {a : GSl α} (h1 : E.ty t = some y) (h2 : y.d = .slice e) (h3 : E.ty e = some ey) (h4 : ey.size = 1) (h0 : 0 ≤ k) (ha : xs[k.toNat]? = some a) :
    indexAddrA E t (accA tk 1 (xs.map fun x => x.av sz f)) (.int kd k) = some (.ip [a.av sz f]) := by
  rw [indexAddrA_accm h1 h2 h3 h4 h0 ha, cells_av]
theorem indexAddrA_accnS {tk : Nat} {xs : List (GSl α)} {k : Nat} {a : GSl α} (h1 : E.ty t = some y) (h2 : y.d = .slice e) (h3 : E.ty e = some ey) (h4 : ey.size = 1) (ha : xs[k]? = some a) :
    indexAddrA E t (accA tk 1 (xs.map fun x => x.av sz f)) (.int kd (k : Int)) = some (.ip [a.av sz f]) := by
  rw [indexAddrA_accn h1 h2 h3 h4 ha, cells_av]
end
end Go.Abs

/- Results that are frozen as they are handed back; rows that are made and written. -/
namespace Go.Abs
open Go.RowKit
section
variable {P : Program}
theorem pure_calls2 {E : Env} (hE : EnvOk P E) (hp : ∀ B w0, PrimOk P E B w0) {f : FuncId} {n : Nat} {args : List AV} {x r : AV} {st1 st2 : St} (hf : AV.freeL args = true) (hz : freezeA st1 x = some (r, st2)) (hr : AV.free r = true)
    (h : callF E n f (AV.plainL args) St.empty = some (x, st1)) {B : Nat} {w0 : World} {Γ : Ghost} {st : St} {w : World} {vargs : Array Value} (hI : Inv B w0 Γ st w) (hargs : RL Γ args vargs.toList) :
    Calls P f vargs w fun e w' => ∃ v Γ', e = .returned v ∧ Out B w0 Γ st Γ' st w' ∧ R Γ' (AV.plain r) v := by
  refine ((callF_sound hE (hp w.heap.size w) n f _ St.empty x st1 h).2 _ w vargs hI.inner (RL.plain (Γ := Γ) (Δ := ⟨Γ.inert, fun _ => none, fun _ => none, fun _ => none, fun _ => none, Γ.inert⟩) (fun _ _ _ k => k) args _ hf hargs)).mono ?_
  rintro e w' ⟨v, Γ1, he, out, hv⟩
  obtain ⟨Γ2, out2, hv2⟩ := freeze_sound out.inv hz hv
  refine ⟨v, _, he, hI.back out2.inv, R.plain (fun b o u k => ?_) r v hr hv2⟩
  simp only [Ghost.back]
  split
  · rename_i hlt
    have := out2.inv.old b o u hlt k
    rw [out2.le.old, out.le.old] at this
    exact this
  · exact k
/-- A contract whose result is looked at as its caller keeps it. -/
structure Con2 (E : Env) (f : FuncId) (Rel : List AV → AV → Prop) : Prop where
  free : ∀ a r, Rel a r → AV.freeL a = true
  run : ∀ a r, Rel a r → CW E f a St.empty fun x st => ∃ r' st', freezeA st x = some (r', st') ∧ AV.plain r' = r ∧ AV.free r' = true
theorem Con2.uniq {E : Env} {f : FuncId} {Rel : List AV → AV → Prop} (h : Con2 E f Rel) (a : List AV) (r r' : AV) (h1 : Rel a r) (h2 : Rel a r') : r = r' := by
  obtain ⟨n, x, st, e1, q1, _, z1, e2, _⟩ := h.run a r h1
  obtain ⟨m, y, st', e3, q2, _, z2, e4, _⟩ := h.run a r' h2
  have e5 := callF_mono n (Nat.max n m) (Nat.le_max_left _ _) _ _ _ _ e1
  have e6 := callF_mono m (Nat.max n m) (Nat.le_max_right _ _) _ _ _ _ e3
  rw [e5] at e6
  cases e6
  rw [z1] at z2
  cases z2
  rw [← e2, ← e4]
theorem Con2.use {E : Env} {f : FuncId} {Rel : List AV → AV → Prop} (h : Con2 E f Rel) {args : List AV} {r : AV} (hr : Rel (AV.plainL args) r) (st : St) : primOf Rel args st = some (r, st) := primOf_eq h.uniq hr st
theorem Con2.does {E : Env} {f : FuncId} {Rel : List AV → AV → Prop} (h : Con2 E f Rel) (hE : EnvOk P E) (hp : ∀ B w0, PrimOk P E B w0) (hent : ∀ (w : World) (vargs : Array Value), (callFunc f vargs).run P w = .ok (.enter f vargs) w) (B : Nat) (w0 : World) : PrimDoes P B w0 f (primOf Rel) := by
  intro args st r st' hg
  refine ⟨hent, fun Γ w vargs hI hargs => ?_⟩
  unfold primOf at hg
  split at hg
  · rename_i hx
    simp only [Option.some.injEq, Prod.mk.injEq] at hg
    obtain ⟨hr, hst⟩ := hg
    subst hst
    have hs := hx.choose_spec
    rw [hr] at hs
    obtain ⟨n, x, st1, h1, r', st2, hz, h2, h3⟩ := h.run _ _ hs
    have hfree : AV.freeL args = true := by rw [← freeL_plainL]; exact h.free _ _ hs
    refine (pure_calls2 hE hp hfree hz h3 h1 hI hargs).mono ?_
    rintro e w' ⟨v, Γ', he, out, hv⟩
    exact ⟨v, Γ', he, out, by rw [← h2]; exact hv⟩
  · cases hg
end
section
variable {E : Env} {N : Nat} {l : List (Nat × AV)} {L : List (Nat × AObj)} {K : List (Nat × Bool)} {Q : AExit → TM → St → Prop}
variable {pol : Nat → Nat} {ops : Array Oper} {r : List Oper} {i : Nat} {c : Bool}
variable {d : Nat} {ty : TypeId} {pos : String} {after : Array Edge} {guard : Option (Nat × Bool)}
theorem OD.makeSlice {t e : TypeId} {x y : Operand} {ty1 et : Ty} {n : Nat} (hn : Nat.blt d N = true) (hx : evL l x = some (.int .i64 (n : Int))) (hy : evL l y = some (.int .i64 (n : Int))) (hc : isConstO x = false) (ht : E.ty t = some ty1) (hd : ty1.d = .slice e) (he : E.ty e = some et) (hs : Nat.blt 0 et.size = true) (hroom : roomA et n = true)
    (k : ∀ b, OS E false pol ops r (i + 1) N ((d, .sl et.size b 0 n) :: l) ((b, .row et.size (List.replicate n et.zeroV)) :: L) K Q) :
    OD E false pol ops { dst := some d, op := .makeSlice t x y, type := ty, pos := pos, after := after, guard := guard } r i N l L K Q := by
  refine .loud rfl rfl (fun _ h => by cases h) fun tm st hF => ⟨.sl et.size st.next 0 n, st.new (.row et.size (List.replicate n et.zeroV)), _, _, _, ?_, (hF.new _).put hn _, k st.next⟩
  show makeSliceA E st (isConstO x) t (evalO tm x) (evalO tm y) = _
  unfold makeSliceA
  rw [ht, hF.ev hx, hF.ev hy, hc]
  dsimp only
  rw [hd]
  dsimp only
  rw [he]
  dsimp only
  rw [if_pos ⟨Eq.mp Nat.blt_eq hs, by omega, by omega, by simpa using hroom⟩]
  simp
theorem indexAddrA_sl {t e : TypeId} {y ey : Ty} {kd : IntKind} {sz b len k : Nat} (h1 : E.ty t = some y) (h2 : y.d = .slice e) (h3 : E.ty e = some ey) (h4 : ey.size = sz) (h : k < len) : indexAddrA E t (.sl sz b 0 len) (.int kd (k : Int)) = some (.ptr b k 0) := by
  unfold indexAddrA
  rw [h1]
  dsimp only
  rw [h2]
  dsimp only
  rw [h3]
  dsimp only
  simp only [elemAddrA]
  rw [if_pos ⟨h4, by omega, by omega⟩]
  simp
/-- A number is written into a row. -/
theorem OD.storeI (kk : Nat) {t : TypeId} {x z : Operand} {y : Ty} {b sz j : Nat} {xs : List AV} {ka kb : IntKind} {m v : Int} (hx : evL l x = some (.ptr b j 0)) (hz : evL l z = some (.int kb v)) (ht : E.ty t = some y) (h1 : y.size = 1) (hL : L[kk]? = some (b, .row sz xs)) (hj : xs[j]? = some (.int ka m))
    (k : OS E false pol ops r (i + 1) N l (L.set kk (b, .row sz (xs.set j (.int kb v)))) K Q) :
    OD E false pol ops { dst := none, op := .store t x z, type := ty, pos := pos, after := after, guard := guard } r i N l L K Q := by
  refine .loud rfl rfl (fun _ h => by cases h) fun tm st hF => ⟨.junk, st.put b (.row sz (xs.set j (.int kb v))), _, _, _, ?_, hF.set hL _, k⟩
  have : Abs.loud E noCall (pol i) tm st { dst := none, op := .store t x z, type := ty, pos := pos, after := after, guard := guard } = (match E.ty t with | some ty => if (evalO tm z).cells.length = ty.size then (storeA st (evalO tm x) (evalO tm z)).map fun s => (.junk, s) else none | none => none) := rfl
  rw [this, ht, hF.ev hx, hF.ev hz]
  dsimp only
  rw [if_pos (by rw [h1]; rfl)]
  simp [storeA, (hF.obj kk b _ hL).1, hj, AV.ok, AV.cellOk, AV.cells]
theorem OD.loadI (kk : Nat) {t : TypeId} {x : Operand} {b j sz : Nat} {xs : List AV} {e v : AV} (hn : Nat.blt d N = true) (hx : evL l x = some (.ptr b j 0)) (hL : L[kk]? = some (b, .row sz xs)) (he : xs[j]? = some e) (hp : partA E t e.cells 0 = some v) (k : OS E c pol ops r (i + 1) N ((d, v) :: l) L K Q) :
    OD E c pol ops { dst := some d, op := .load t x, type := ty, pos := pos, after := after, guard := guard } r i N l L K Q :=
  .loadP kk hn hx hL he rfl (by simpa using hp) k
/-- A result that is a row: as its caller keeps it. -/
theorem freeze_row {st : St} {sz b n : Nat} {xs : List AV} (hg : st.get b = some (.row sz xs)) (hn : xs.length = n) : ∃ tk st', freezeA st (.sl sz b 0 n) = some (.vs sz (.tok tk) xs, st') := by
  refine ⟨st.next, (st.drop b).newTok, ?_⟩
  show freezeC st (.sl sz b 0 n) = _
  simp only [freezeC, hg]
  rw [if_pos ⟨trivial, by omega⟩, if_pos (by omega)]
  simp [← hn]
theorem plain_vs {α : Type} {f : α → AV} (hf : ∀ a, AV.plain (f a) = f a) (sz tk : Nat) (l : List α) : AV.plain (.vs sz (.tok tk) (l.map f)) = (GSl.mk none l (fun k => absurd rfl k)).av sz f := by
  simp [AV.plain, Own.plain, plainL_map hf, GSl.av]
end
end Go.Abs

/- Appending to what is one's own; results that are new rows; copying. -/
namespace Go.Abs
section
variable {E : Env} {fid N : Nat} {l : List (Nat × AV)} {L : List (Nat × AObj)} {K : List (Nat × Bool)} {Q : AExit → TM → St → Prop}
variable {c : Bool} {pol : Nat → Nat} {ops : Array Oper} {r : List Oper} {i : Nat}
variable {d : Nat} {ty : TypeId} {pos : String} {after : Array Edge} {guard : Option (Nat × Bool)}

theorem Fa.withS2 {L' : List (Nat × AObj)} {K' : List (Nat × Bool)} {tm : TM} {st st' : St} (h : Fa N l L K tm st) (hs : SFa L' K' st') : Fa N l L' K' tm st' := ⟨h.n, h.get, hs.obj, hs.uniq, hs.tok, hs.uniqT⟩
theorem SFa.swap {st : St} (h : SFa L K st) {kk b : Nat} {o : AObj} (hk : L[kk]? = some (b, o)) (o' : AObj) : SFa (L.set kk (st.next, o')) K ((st.drop b).new o') := by
  have hl := (List.getElem?_eq_some_iff.1 hk).1
  have hget : ∀ j, ((st.drop b).new o').get j = if st.next = j then some o' else if b = j then none else st.get j := by
    intro j; rw [St.get_new, St.next_drop, St.get_drop]
  have hnext : ((st.drop b).new o').next = st.next + 1 := by simp
  refine ⟨fun k b1 o1 h1 => ?_, fun k1 k2 b1 o1 o2 h1 h2 => ?_, fun k t hk => ⟨by simpa using (h.tok k t hk).1, by rw [hnext]; have := (h.tok k t hk).2; omega⟩, h.uniqT⟩
  · rw [List.getElem?_set] at h1
    rw [hnext, hget]
    by_cases e : kk = k
    · subst e
      rw [if_pos rfl, if_pos hl] at h1
      simp only [Option.some.injEq, Prod.mk.injEq] at h1
      obtain ⟨rfl, rfl⟩ := h1
      exact ⟨by rw [if_pos rfl], by omega⟩
    · rw [if_neg e] at h1
      have h2 := h.obj k b1 o1 h1
      refine ⟨?_, by omega⟩
      rw [if_neg (by omega), if_neg]
      · exact h2.1
      · rintro rfl
        exact e (h.uniq kk k b _ _ hk h1)
  · rw [List.getElem?_set] at h1 h2
    by_cases e1 : kk = k1
    · by_cases e2 : kk = k2
      · omega
      · rw [if_pos e1, if_pos hl] at h1
        rw [if_neg e2] at h2
        simp only [Option.some.injEq, Prod.mk.injEq] at h1
        have := (h.obj k2 b1 o2 h2).2
        omega
    · by_cases e2 : kk = k2
      · rw [if_neg e1] at h1
        rw [if_pos e2, if_pos hl] at h2
        simp only [Option.some.injEq, Prod.mk.injEq] at h2
        have := (h.obj k1 b1 o1 h1).2
        omega
      · rw [if_neg e1] at h1
        rw [if_neg e2] at h2
        exact h.uniq _ _ _ _ _ h1 h2
theorem SFa.freeze {st : St} {b : Nat} {o : AObj} (h : SFa ((b, o) :: L) K st) : SFa L K (st.drop b).newTok := by
  refine ⟨fun k b1 o1 h1 => ?_, fun k1 k2 b1 o1 o2 h1 h2 => ?_, fun k t hk => ?_, fun k1 k2 t h1 h2 => h.uniqT k1 k2 t h1 h2⟩
  · have h2 := h.obj (k + 1) b1 o1 h1
    refine ⟨?_, by simp; omega⟩
    have hne : b ≠ b1 := by
      rintro rfl
      have := h.uniq 0 (k + 1) b o o1 rfl h1
      omega
    simp [hne, h2.1]
  · have := h.uniq (k1 + 1) (k2 + 1) b1 o1 o2 h1 h2
    omega
  · have h2 := h.tok k t hk
    exact ⟨by simp [h2.1], by simp; omega⟩
theorem SFa.tail {st : St} {p : Nat × AObj} (h : SFa (p :: L) K st) : SFa L K st :=
  ⟨fun k b o hk => h.obj (k + 1) b o hk, fun k k' b o o' h1 h2 => by have := h.uniq (k + 1) (k' + 1) b o o' h1 h2; omega, h.tok, h.uniqT⟩

/-- append to a whole slice of its own length: there is something to append. -/
theorem OD.appendFull {ts tx e : TypeId} {s x : Operand} {sz sz' : Nat} {xs ys : List AV} {a : AV} {tys tyx et : Ty} (hn : Nat.blt d N = true) (hpol : Nat.beq (pol i) 1 = false) (hs : evL l s = some (.vs sz .full xs)) (hx : evL l x = some a)
    (h1 : E.ty ts = some tys) (h2 : E.ty tx = some tyx) (h3 : tys.d = .slice e) (h4 : E.ty e = some et) (h5 : Nat.blt 0 et.size = true) (h6 : sz = et.size) (h7 : (∃ e', tyx.d = .slice e') ∧ isStrA a = false) (h8 : ∀ st, elemsA st a = some (sz', ys)) (h9 : okElems et ys = true) (h10 : ys.isEmpty || Nat.beq sz' et.size) (h11 : ys ≠ [])
    (hroom : roomA et (xs.length + ys.length) = true) (k : ∀ t', OS E false pol ops r (i + 1) N ((d, .vs sz (.tok t') (xs ++ ys)) :: l) L K Q) :
    OD E false pol ops { dst := some d, op := .call { callee := .builtin .append, args := #[s, x], argTypes := #[ts, tx] }, type := ty, pos := pos, after := after, guard := guard } r i N l L K Q := by
  subst h6
  refine .loud rfl rfl (fun _ h => by cases h) fun tm st hF => ?_
  have h0 : Abs.loud E noCall (pol i) tm st { dst := some d, op := .call { callee := .builtin .append, args := #[s, x], argTypes := #[ts, tx] }, type := ty, pos := pos, after := after, guard := guard } = appendOpA E (pol i == 1) st ts tx (evalO tm s) (evalO tm x) := rfl
  have hp : (pol i == 1) = false := by
    have := Nat.ne_of_beq_eq_false hpol
    simpa using this
  rw [h0, hF.ev hs, hF.ev hx, hp]
  refine ⟨.vs et.size (.tok st.next) (xs ++ ys), st.newTok.ttag st.next e, _, L, K, ?_, ?_, k st.next⟩
  · unfold appendOpA
    rw [h1, h2]
    dsimp only
    rw [h3]
    dsimp only
    rw [h4]
    dsimp only
    rw [if_pos (Eq.mp Nat.blt_eq h5)]
    obtain ⟨⟨e', h7⟩, h7'⟩ := h7
    have h10' : (ys.isEmpty || sz' == et.size) = true := by
      cases hy : ys.isEmpty with
      | true => rfl
      | false =>
        rw [hy] at h10
        simp only [Bool.false_or] at h10
        simp [Nat.eq_of_beq_eq_true h10]
    rw [h7]; dsimp only; rw [h8 st]; dsimp only; rw [if_pos ⟨h9, h10', by simp [h7']⟩]
    cases ys with
    | nil => exact absurd rfl h11
    | cons y ys =>
      simp only [appendA]
      rw [if_pos ⟨trivial, hroom⟩]
      simp
  · have hF' : Fa N l L K tm st.newTok := by
      refine ⟨hF.n, hF.get, fun k b o hk => ⟨(hF.obj k b o hk).1, by have := (hF.obj k b o hk).2; simp; omega⟩, hF.uniq, fun k u hu => ?_, hF.uniqT⟩
      have := hF.tok k u hu
      exact ⟨by simp [this.1], by simp; omega⟩
    exact (hF'.ttag _ _).put hn _
/-- append to a row of one's own. -/
theorem OD.appendSl (kk : Nat) {ts tx e : TypeId} {s x : Operand} {sz sz' b len : Nat} {xs ys : List AV} {a : AV} {tys tyx et : Ty} (hn : Nat.blt d N = true) (hs : evL l s = some (.sl sz b 0 len)) (hx : evL l x = some a) (hL : L[kk]? = some (b, .row sz xs)) (hlen : len ≤ xs.length)
    (h1 : E.ty ts = some tys) (h2 : E.ty tx = some tyx) (h3 : tys.d = .slice e) (h4 : E.ty e = some et) (h5 : Nat.blt 0 et.size = true) (h6 : sz = et.size) (h7 : (∃ e', tyx.d = .slice e') ∧ isStrA a = false) (h8 : ∀ st, SFa L K st → elemsA st a = some (sz', ys)) (h9 : okElems et ys = true) (h10 : ys.isEmpty || Nat.beq sz' et.size)
    (hroom : roomA et (len + ys.length) = true) (k : ∀ b', OS E false pol ops r (i + 1) N ((d, .sl sz b' 0 (len + ys.length)) :: l) (L.set kk (b', .row sz (xs.take len ++ ys))) K Q) :
    OD E false pol ops { dst := some d, op := .call { callee := .builtin .append, args := #[s, x], argTypes := #[ts, tx] }, type := ty, pos := pos, after := after, guard := guard } r i N l L K Q := by
  subst h6
  refine .loud rfl rfl (fun _ h => by cases h) fun tm st hF => ?_
  have h0 : Abs.loud E noCall (pol i) tm st { dst := some d, op := .call { callee := .builtin .append, args := #[s, x], argTypes := #[ts, tx] }, type := ty, pos := pos, after := after, guard := guard } = appendOpA E (pol i == 1) st ts tx (evalO tm s) (evalO tm x) := rfl
  rw [h0, hF.ev hs, hF.ev hx]
  have hg := (hF.obj kk b _ hL).1
  refine ⟨.sl et.size st.next 0 (len + ys.length), (st.drop b).new (.row et.size (xs.take len ++ ys)), _, L.set kk (st.next, _), K, ?_, (hF.withS2 (hF.s.swap hL _)).put hn _, k st.next⟩
  unfold appendOpA
  rw [h1, h2]
  dsimp only
  rw [h3]
  dsimp only
  rw [h4]
  dsimp only
  rw [if_pos (Eq.mp Nat.blt_eq h5)]
  obtain ⟨⟨e', h7⟩, h7'⟩ := h7
  have h10' : (ys.isEmpty || sz' == et.size) = true := by
    cases hy : ys.isEmpty with
    | true => rfl
    | false =>
      rw [hy] at h10
      simp only [Bool.false_or] at h10
      simp [Nat.eq_of_beq_eq_true h10]
  rw [h7]; dsimp only; rw [h8 st hF.s]; dsimp only; rw [if_pos ⟨h9, h10', by simp [h7']⟩]
  simp only [appendA, hg]
  rw [if_pos ⟨trivial, trivial, by omega, hroom⟩, List.drop_zero]
/-- So many zeros, appended to nothing. -/
theorem OD.appendZ {ts tx e : TypeId} {s x : Operand} {n : Nat} {kd : IntKind} {tys tyx et : Ty} (hn : Nat.blt d N = true) (hs : evL l s = some .nilsl) (hx : evL l x = some (.int .i64 (n : Int)))
    (h1 : E.ty ts = some tys) (h2 : E.ty tx = some tyx) (h3 : tys.d = .slice e) (h4 : E.ty e = some et) (h5 : Nat.blt 0 et.size = true) (h7 : tyx.d = .int kd) (h0 : 0 < n) (hroom : roomA et n = true)
    (k : ∀ b, OS E false pol ops r (i + 1) N ((d, .sl et.size b 0 n) :: l) ((b, .row et.size (List.replicate n et.zeroV)) :: L) K Q) :
    OD E false pol ops { dst := some d, op := .call { callee := .builtin .append, args := #[s, x], argTypes := #[ts, tx] }, type := ty, pos := pos, after := after, guard := guard } r i N l L K Q := by
  refine .loud rfl rfl (fun _ h => by cases h) fun tm st hF => ?_
  have hh : Abs.loud E noCall (pol i) tm st { dst := some d, op := .call { callee := .builtin .append, args := #[s, x], argTypes := #[ts, tx] }, type := ty, pos := pos, after := after, guard := guard } = appendOpA E (pol i == 1) st ts tx (evalO tm s) (evalO tm x) := rfl
  rw [hh, hF.ev hs, hF.ev hx]
  refine ⟨.sl et.size st.next 0 n, st.new (.row et.size (List.replicate n et.zeroV)), _, _, K, ?_, (hF.new _).put hn _, k st.next⟩
  unfold appendOpA
  rw [h1, h2]
  dsimp only
  rw [h3]
  dsimp only
  rw [h4]
  dsimp only
  rw [if_pos (Eq.mp Nat.blt_eq h5), h7]
  dsimp only
  rw [if_pos ⟨by omega, by simpa using hroom⟩]
  simp
/-- How much a slice may grow: nothing has no room. -/
theorem OD.capNil {t e : TypeId} {x : Operand} {y : Ty} (hn : Nat.blt d N = true) (hx : evL l x = some .nilsl) (ht : E.ty t = some y) (hd : y.d = .slice e) (k : OS E c pol ops r (i + 1) N ((d, .int .i64 0) :: l) L K Q) :
    OD E c pol ops { dst := some d, op := .call { callee := .builtin .cap, args := #[x], argTypes := #[t] }, type := ty, pos := pos, after := after, guard := guard } r i N l L K Q :=
  .quiet rfl hn rfl (fun tm st hF => by
    have : Abs.quiet E tm st { dst := some d, op := .call { callee := .builtin .cap, args := #[x], argTypes := #[t] }, type := ty, pos := pos, after := after, guard := guard } = (match E.ty t with | some ty => (match ty.d, evalO tm x with | .slice _, .nilsl => some (.int .i64 0) | _, _ => none) | none => none) := rfl
    rw [this, ht, hF.ev hx]
    dsimp only
    rw [hd]) k
/-- copy, where something goes over. -/
theorem OD.copy (kk : Nat) {td tx e e' : TypeId} {x z : Operand} {b off len sz' : Nat} {xs ys : List AV} {a : AV} {tyd tyx et : Ty} (hn : Nat.blt d N = true) (hx : evL l x = some (.sl 1 b off len)) (hz : evL l z = some a) (hL : L[kk]? = some (b, .row 1 xs)) (hlen : off + len ≤ xs.length)
    (h1 : E.ty td = some tyd) (h2 : E.ty tx = some tyx) (h3 : tyd.d = .slice e) (h4 : tyx.d = .slice e') (h5 : E.ty e = some et) (h6 : et.size = 1) (h7 : isStrA a = false) (h8 : ∀ st, elemsA st a = some (sz', ys)) (h9 : okElems et ys = true) (h10 : ys.isEmpty || Nat.beq sz' 1) (h11 : 0 < Min.min ys.length len)
    (k : OS E false pol ops r (i + 1) N ((d, .int .i64 ((Min.min ys.length len : Nat) : Int)) :: l) (L.set kk (b, .row 1 (xs.take off ++ ys.take (Min.min ys.length len) ++ xs.drop (off + Min.min ys.length len)))) K Q) :
    OD E false pol ops { dst := some d, op := .call { callee := .builtin .copy, args := #[x, z], argTypes := #[td, tx] }, type := ty, pos := pos, after := after, guard := guard } r i N l L K Q := by
  refine .loud rfl rfl (fun _ h => by cases h) fun tm st hF => ?_
  have h0 : Abs.loud E noCall (pol i) tm st { dst := some d, op := .call { callee := .builtin .copy, args := #[x, z], argTypes := #[td, tx] }, type := ty, pos := pos, after := after, guard := guard } = copyA E st td tx (evalO tm x) (evalO tm z) := rfl
  rw [h0, hF.ev hx, hF.ev hz]
  have hg := (hF.obj kk b _ hL).1
  refine ⟨_, st.put b (.row 1 (xs.take off ++ ys.take (Min.min ys.length len) ++ xs.drop (off + Min.min ys.length len))), _, _, K, ?_, (hF.set hL _).put hn _, k⟩
  unfold copyA
  rw [h1, h2]
  dsimp only
  rw [h3, h4]
  dsimp only
  rw [h5]
  dsimp only
  rw [hg, h8 st]
  dsimp only
  have h10' : (ys.isEmpty || sz' == 1) = true := by
    cases hy : ys.isEmpty with
    | true => rfl
    | false =>
      rw [hy] at h10
      simp only [Bool.false_or] at h10
      simp [Nat.eq_of_beq_eq_true h10]
  rw [if_pos ⟨h6, rfl, rfl, hlen, h9, h10', h7⟩, if_neg (by omega)]

theorem callN_step {f : Operand} {args : Array Operand} {argTypes : Array TypeId} {g : FuncId} {first cap vs : List AV} {tm : TM} {st st' : St} {x : AV} {n1 n : Nat} (hF : Fa N l L K tm st) (hf : evL l f = some (.fn g first cap)) (ha : evLs l args.toList = some vs) (hc : callF E n1 g (first ++ vs ++ cap) st = some (x, st')) (hle : n1 ≤ n) :
    Abs.loud E (callF E n) (pol i) tm st { dst := some d, op := .call { callee := .value f, args := args, argTypes := argTypes }, type := ty, pos := pos, after := after, guard := guard } = some (x, st') := by
  have : Abs.loud E (callF E n) (pol i) tm st { dst := some d, op := .call { callee := .value f, args := args, argTypes := argTypes }, type := ty, pos := pos, after := after, guard := guard } = (match evalO tm f with | .fn g first cap => callF E n g (first ++ args.toList.map (evalO tm) ++ cap) st | _ => none) := rfl
  rw [this, hF.ev hf, hF.evs ha]
  exact callF_mono n1 n hle _ _ _ _ hc
/-- A call that gives a new row, which is kept as such. -/
theorem OD.callN {f : Operand} {args : Array Operand} {argTypes : Array TypeId} {g : FuncId} {first cap vs : List AV} {sz len : Nat} {xs : List AV} (hpol : Nat.beq (pol i) 2 = false) (hn : Nat.blt d N = true) (hf : evL l f = some (.fn g first cap)) (ha : evLs l args.toList = some vs)
    (hr : ∀ st, SFa L K st → CW E g (first ++ vs ++ cap) st fun x st' => ∃ b, x = .sl sz b 0 len ∧ SFa ((b, .row sz xs) :: L) K st')
    (k : ∀ b, OS E false pol ops r (i + 1) N ((d, .sl sz b 0 len) :: l) ((b, .row sz xs) :: L) K Q) : OD E false pol ops { dst := some d, op := .call { callee := .value f, args := args, argTypes := argTypes }, type := ty, pos := pos, after := after, guard := guard } r i N l L K Q := by
  intro pre tm st hF hp' hw
  obtain ⟨n1, x, st', hc, b, rfl, hS⟩ := hr st hF.s
  have hF' : Fa N l ((b, .row sz xs) :: L) K tm st' := ⟨hF.n, hF.get, hS.obj, hS.uniq, hS.tok, hS.uniqT⟩
  obtain ⟨n, tr, tm1, st1, h1, _, h2⟩ := k b pre (tm.put d _) st' (hF'.put hn _) hp'
  refine ⟨Nat.max n n1, ⟨tm, st, st', .sl sz b 0 len, true⟩ :: tr, tm1, st1, ?_, (fun hc => by cases hc), h2⟩
  have hl := callN_step (ty := ty) (pos := pos) (after := after) (guard := guard) (d := d) (pol := pol) (i := i) (argTypes := argTypes) hF hf ha hc (Nat.le_max_right n n1)
  have hst : stepPre E (callF E (Nat.max n n1)) pre (pol i) i tm st { dst := some d, op := .call { callee := .value f, args := args, argTypes := argTypes }, type := ty, pos := pos, after := after, guard := guard } = some (.sl sz b 0 len, st') := by
    have hp : ¬ pol i = 2 := Nat.ne_of_beq_eq_false hpol
    simp only [stepPre, stepOp, isLoud, if_true, hl, isFnCall, Bool.and_true, decide_eq_true_eq]
    rw [if_neg hp]
  simp only [runOpsT]
  rw [hw]
  dsimp only
  rw [hst]
  dsimp only [putO]
  rw [runOpsT_mono (callF_mono n (Nat.max n n1) (Nat.le_max_left _ _)) _ _ _ _ h1]
/-- A call that gives a new row, which is never written again. -/
theorem OD.callFz {f : Operand} {args : Array Operand} {argTypes : Array TypeId} {g : FuncId} {first cap vs : List AV} {sz len : Nat} {xs : List AV} (hpol : Nat.beq (pol i) 2 = true) (hn : Nat.blt d N = true) (hf : evL l f = some (.fn g first cap)) (ha : evLs l args.toList = some vs) (hlen : xs.length = len)
    (hr : ∀ st, SFa L K st → CW E g (first ++ vs ++ cap) st fun x st' => ∃ b, x = .sl sz b 0 len ∧ SFa ((b, .row sz xs) :: L) K st')
    (k : ∀ t, OS E false pol ops r (i + 1) N ((d, .vs sz (.tok t) xs) :: l) L K Q) : OD E false pol ops { dst := some d, op := .call { callee := .value f, args := args, argTypes := argTypes }, type := ty, pos := pos, after := after, guard := guard } r i N l L K Q := by
  intro pre tm st hF hp' hw
  obtain ⟨n1, x, st', hc, b, rfl, hS⟩ := hr st hF.s
  obtain ⟨n, tr, tm1, st1, h1, _, h2⟩ := k st'.next pre (tm.put d _) (st'.drop b).newTok ((hF.withS hS.freeze).put hn _) hp'
  refine ⟨Nat.max n n1, ⟨tm, st, (st'.drop b).newTok, .vs sz (.tok st'.next) xs, true⟩ :: tr, tm1, st1, ?_, (fun hc => by cases hc), h2⟩
  have hl := callN_step (ty := ty) (pos := pos) (after := after) (guard := guard) (d := d) (pol := pol) (i := i) (argTypes := argTypes) hF hf ha hc (Nat.le_max_right n n1)
  have hst : stepPre E (callF E (Nat.max n n1)) pre (pol i) i tm st { dst := some d, op := .call { callee := .value f, args := args, argTypes := argTypes }, type := ty, pos := pos, after := after, guard := guard } = some (.vs sz (.tok st'.next) xs, (st'.drop b).newTok) := by
    have hp : pol i = 2 := Nat.eq_of_beq_eq_true hpol
    simp only [stepPre, stepOp, isLoud, if_true, hl, isFnCall, Bool.and_true, decide_eq_true_eq]
    rw [if_pos hp]
    show freezeC st' (.sl sz b 0 len) = _
    simp only [freezeC, (hS.obj 0 b _ rfl).1]
    rw [if_pos ⟨trivial, by omega⟩, if_pos (by omega)]
    simp [← hlen]
  simp only [runOpsT]
  rw [hw]
  dsimp only
  rw [hst]
  dsimp only [putO]
  rw [runOpsT_mono (callF_mono n (Nat.max n n1) (Nat.le_max_left _ _)) _ _ _ _ h1]
end
end Go.Abs

/- A region that draws its order, in which a row is made. -/
namespace Go.Abs
section
variable {E : Env} {fid N : Nat} {l : List (Nat × AV)} {L : List (Nat × AObj)} {K : List (Nat × Bool)} {Q : AExit → TM → St → Prop}
variable {c : Bool} {pol : Nat → Nat} {ops : Array Oper} {r : List Oper} {i : Nat}
variable {d : Nat} {ty : TypeId} {pos : String} {after : Array Edge} {guard : Option (Nat × Bool)}

theorem quietS_sound {op : Op} {v : AV} (h : quietS E l op = some v) {tm : TM} {st : St} (hF : Fa N l L K tm st) : quiet E tm st { dst := some d, op := op, type := ty, pos := pos, after := after, guard := guard } = some v := by
  cases op with
  | move x =>
    show some (evalO tm x) = some v
    rw [hF.ev h]
  | assign x =>
    show some (evalO tm x) = some v
    rw [hF.ev h]
  | load t a =>
    simp only [quietS] at h
    split at h
    · rename_i hx
      have : Abs.quiet E tm st { dst := some d, op := .load t a, type := ty, pos := pos, after := after, guard := guard } = (match loadCells st (evalO tm a) with | none => none | some cs => partA E t cs 0) := rfl
      rw [this, hF.ev hx]; exact h
    · cases h
  | binOp op t x y t2 =>
    simp only [quietS] at h
    split at h
    · rename_i hx hy
      show binA E op t x y (evalO tm x) (evalO tm y) = some v
      rw [hF.ev hx, hF.ev hy]; exact h
    · cases h
  | fieldAddr s x f =>
    simp only [quietS] at h
    split at h
    · rename_i hx
      show fieldAddrA E s (evalO tm x) f = some v
      rw [hF.ev hx]; exact h
    · cases h
  | pick x y z =>
    simp only [quietS] at h
    have e : Abs.quiet E tm st { dst := some d, op := .pick x y z, type := ty, pos := pos, after := after, guard := guard } = (match evalO tm x with | .bool t => some (if t then evalO tm y else evalO tm z) | _ => none) := rfl
    split at h
    · rename_i hx; rw [e, hF.ev hx, ← hF.ev h]; rfl
    · rename_i hx; rw [e, hF.ev hx, ← hF.ev h]; rfl
    · cases h
  | unOp op t x =>
    simp only [quietS] at h
    split at h
    · rename_i hx
      show unA op (evalO tm x) = some v
      rw [hF.ev hx]; exact h
    · cases h
  | convert s t x =>
    simp only [quietS] at h
    split at h
    · rename_i hx
      show convertA E s t (evalO tm x) = some v
      rw [hF.ev hx]; exact h
    · cases h
  | makeFunc f first cap =>
    cases f with
    | func f =>
      simp only [quietS] at h
      split at h
      · rename_i hx hy
        cases h
        show some (AV.fn f (first.toList.map (evalO tm)) (cap.toList.map (evalO tm))) = _
        rw [hF.evs hx, hF.evs hy]
      · cases h
    | _ => simp [quietS] at h
  | field s x f =>
    simp only [quietS] at h
    split at h
    · rename_i hx
      show fieldA E s (evalO tm x) f = some v
      rw [hF.ev hx]; exact h
    · cases h
  | extract x j =>
    simp only [quietS] at h
    split at h
    · rename_i hx
      have : Abs.quiet E tm st { dst := some d, op := .extract x j, type := ty, pos := pos, after := after, guard := guard } = (match evalO tm x with | .tup xs => xs[j]? | _ => none) := rfl
      rw [this, hF.ev hx]; exact h
    · cases h
  | build t ps =>
    simp only [quietS] at h
    split at h
    · rename_i hx
      show buildA E t (ps.toList.map fun (p : Nat × Operand) => (p.1, evalO tm p.2)) = some v
      rw [hF.evps hx]; exact h
    · cases h
  | buildSlice t n ps =>
    simp only [quietS] at h
    split at h
    · rename_i hx
      show buildSliceA E t n (ps.toList.map fun (p : Nat × Operand) => (p.1, evalO tm p.2)) = some v
      rw [hF.evps hx]; exact h
    · cases h
  | _ => simp [quietS] at h
theorem quiet_loadP (kk : Nat) {t : TypeId} {x : Operand} {b j off sz : Nat} {xs : List AV} {e v : AV} (hx : evL l x = some (.ptr b j off)) (hL : L[kk]? = some (b, .row sz xs)) (he : xs[j]? = some e) (ho : Nat.ble off e.cells.length = true)
    (hp : partA E t (e.cells.drop off) 0 = some v) {tm : TM} {st : St} (hF : Fa N l L K tm st) : quiet E tm st { dst := some d, op := .load t x, type := ty, pos := pos, after := after, guard := guard } = some v := by
  have : Abs.quiet E tm st { dst := some d, op := .load t x, type := ty, pos := pos, after := after, guard := guard } = (match loadCells st (evalO tm x) with | none => none | some cs => partA E t cs 0) := rfl
  rw [this, hF.ev hx]
  simp only [loadCells, (hF.obj kk b _ hL).1, he]
  rw [if_pos (Nat.le_of_ble_eq_true ho)]
  exact hp
theorem quiet_indexAddr {t : TypeId} {x y : Operand} {a b v : AV} (hx : evL l x = some a) (hy : evL l y = some b) (h : indexAddrA E t a b = some v) {tm : TM} {st : St} (hF : Fa N l L K tm st) :
    quiet E tm st { dst := some d, op := .indexAddr t x y, type := ty, pos := pos, after := after, guard := guard } = some v := by
  show indexAddrA E t (evalO tm x) (evalO tm y) = some v
  rw [hF.ev hx, hF.ev hy]; exact h
/-- Operations one behind the other that leave the state, and what they read. -/
def Seg (E : Env) (ops : Array Oper) (N : Nat) (L : List (Nat × AObj)) (K : List (Nat × Bool)) (r : List Oper) (l l' : List (Nat × AV)) : Prop :=
  ∀ (tm : TM) (s0 : St), Fa N l L K tm s0 → ∃ tr tm', (∀ n pre pol i, runOpsT E (callF E (n + 1)) pre pol ops r i tm s0 = some (tr, tm', s0)) ∧ Fa N l' L K tm' s0 ∧
    ∀ (k : Nat) (t : Tr) (o : Oper), tr[k]? = some t → r[k]? = some o → (t.was = s0 ∧ t.now = s0) ∧ (isLoud o.op = false → ∀ s, SFa L K s → quiet E t.tm s o = some t.v)
theorem Seg.nil : Seg E ops N L K [] l l := fun tm s0 hF => ⟨[], tm, fun _ _ _ _ => rfl, hF, fun k t o h => by simp at h⟩
theorem Seg.cons {o : Oper} {v : AV} {l' : List (Nat × AV)} (hw : wantS ops l o = some true) (hd : o.dst = some d) (hn : Nat.blt d N = true) (hl : isLoud o.op = false) (hq : ∀ tm st, Fa N l L K tm st → quiet E tm st o = some v) (k : Seg E ops N L K r ((d, v) :: l) l') : Seg E ops N L K (o :: r) l l' := by
  intro tm s0 hF
  obtain ⟨tr, tm', h1, h2, h3⟩ := k (tm.put d v) s0 (hF.put hn v)
  refine ⟨⟨tm, s0, s0, v, true⟩ :: tr, tm', fun c pre pol i => ?_, h2, fun k t o' ht ho => ?_⟩
  · simp only [runOpsT]
    rw [hF.want hw]
    dsimp only
    rw [stepPre_quiet hl (hq tm s0 hF), hd]
    dsimp only [putO]
    rw [h1]
  · cases k with
    | zero =>
      simp only [List.getElem?_cons_zero, Option.some.injEq] at ht ho
      subst ht; subst ho
      exact ⟨⟨rfl, rfl⟩, fun _ s hs => hq tm s (hF.withS hs)⟩
    | succ k =>
      simp only [List.getElem?_cons_succ] at ht ho
      exact h3 k t o' ht ho
theorem Seg.call {f : Operand} {args : Array Operand} {argTypes : Array TypeId} {g : FuncId} {first cap vs : List AV} {p : List AV → St → Option (AV × St)} {v : AV} {l' : List (Nat × AV)} (hn : Nat.blt d N = true) (hf : evL l f = some (.fn g first cap)) (ha : evLs l args.toList = some vs) (hp : E.prim g = some p) (hr : ∀ st, p (first ++ vs ++ cap) st = some (v, st)) (hz : ∀ st, freezeA st v = some (v, st))
    (k : Seg E ops N L K r ((d, v) :: l) l') : Seg E ops N L K ({ dst := some d, op := .call { callee := .value f, args := args, argTypes := argTypes }, type := ty, pos := pos, after := after, guard := none } :: r) l l' := by
  intro tm s0 hF
  obtain ⟨tr, tm', h1, h2, h3⟩ := k (tm.put d v) s0 (hF.put hn v)
  refine ⟨⟨tm, s0, s0, v, true⟩ :: tr, tm', fun n pre pol i => ?_, h2, fun k t o' ht ho => ?_⟩
  · have hl : Abs.loud E (callF E (n + 1)) (pol i) tm s0 { dst := some d, op := .call { callee := .value f, args := args, argTypes := argTypes }, type := ty, pos := pos, after := after, guard := none } = some (v, s0) := by
      have : Abs.loud E (callF E (n + 1)) (pol i) tm s0 { dst := some d, op := .call { callee := .value f, args := args, argTypes := argTypes }, type := ty, pos := pos, after := after, guard := none } = (match evalO tm f with | .fn g first cap => callF E (n + 1) g (first ++ args.toList.map (evalO tm) ++ cap) s0 | _ => none) := rfl
      rw [this, hF.ev hf, hF.evs ha]
      simp only [callF, hp]
      exact hr s0
    have hst : stepPre E (callF E (n + 1)) pre (pol i) i tm s0 { dst := some d, op := .call { callee := .value f, args := args, argTypes := argTypes }, type := ty, pos := pos, after := after, guard := none } = some (v, s0) := by
      simp only [stepPre, stepOp, isLoud, if_true, hl, isFnCall, Bool.and_true, decide_eq_true_eq]
      split
      · exact hz s0
      · rfl
    simp only [runOpsT]
    rw [show wantedA ops tm { dst := some d, op := .call { callee := .value f, args := args, argTypes := argTypes }, type := ty, pos := pos, after := after, guard := none } = some true from rfl]
    dsimp only
    rw [hst]
    dsimp only [putO]
    rw [h1]
  · cases k with
    | zero =>
      simp only [List.getElem?_cons_zero, Option.some.injEq] at ht ho
      subst ht; subst ho
      exact ⟨⟨rfl, rfl⟩, fun h => by simp [isLoud] at h⟩
    | succ k =>
      simp only [List.getElem?_cons_succ] at ht ho
      exact h3 k t o' ht ho
theorem runOpsT_append {call : Call1} {pre : Option Nat} : ∀ (a b : List Oper) (i : Nat) (tm : TM) (st : St) {tr : List Tr} {tm1 tm2 : TM} {st1 st2 : St} {tr2 : List Tr}, runOpsT E call pre pol ops a i tm st = some (tr, tm1, st1) → runOpsT E call pre pol ops b (i + a.length) tm1 st1 = some (tr2, tm2, st2) →
    runOpsT E call pre pol ops (a ++ b) i tm st = some (tr ++ tr2, tm2, st2)
  | [], b, i, tm, st, tr, tm1, tm2, st1, st2, tr2, h1, h2 => by
    simp only [runOpsT, Option.some.injEq, Prod.mk.injEq] at h1
    obtain ⟨rfl, rfl, rfl⟩ := h1
    exact h2
  | o :: a, b, i, tm, st, tr, tm1, tm2, st1, st2, tr2, h1, h2 => by
    have hi : i + (o :: a).length = i + 1 + a.length := by simp; omega
    rw [hi] at h2
    simp only [runOpsT] at h1
    simp only [List.cons_append, runOpsT]
    split at h1
    · rename_i hw
      split at h1
      · rename_i v st' hs
        split at h1
        · rename_i l' q hq
          simp only [Option.some.injEq, Prod.mk.injEq] at h1
          obtain ⟨rfl, rfl⟩ := h1
          rw [runOpsT_append a b (i + 1) _ _ hq h2]
          rfl
        · cases h1
      · cases h1
    · rename_i hw
      split at h1
      · rename_i l' q hq
        simp only [Option.some.injEq, Prod.mk.injEq] at h1
        obtain ⟨rfl, rfl⟩ := h1
        rw [runOpsT_append a b (i + 1) _ _ hq h2]
        rfl
      · cases h1
    · cases h1
theorem runOpsT_len {call : Call1} {pre : Option Nat} {a : List Oper} {i : Nat} {tm : TM} {st : St} {tr : List Tr} {q : TM × St} (h : runOpsT E call pre pol ops a i tm st = some (tr, q)) : tr.length = a.length := (runOps_of_T a i tm st h).2
/-- The region: quiet ones, a row that is made, quiet ones, and the rest, on which no pair looks. -/
theorem WS.drawP {id : Nat} {ops : Array Oper} {dy : List (Nat × Nat)} {A B C : List Oper} {t e : TypeId} {x y : Operand} {ty1 et : Ty} {n m : Nat} {l1 : List (Nat × AV)} {l2 : Nat → List (Nat × AV)}
    (hd : E.dyn fid id = dy) (ho : hasAlloc ops = false) (hops : ops.toList = A ++ { dst := some d, op := .makeSlice t x y, type := ty, pos := pos, after := after, guard := none } :: (B ++ C)) (hm : m = A.length + 1 + B.length)
    (hc : (dy.all fun p => Nat.beq p.1 A.length && (Nat.blt p.2 A.length || (Nat.blt A.length p.2 && Nat.blt p.2 m)) && (match ops.toList[p.2]? with | some o => !isLoud o.op | none => false)) = true)
    (hA : Seg E ops N L K A l l1) (hn : Nat.blt d N = true) (hx : evL l1 x = some (.int .i64 (n : Int))) (hy : evL l1 y = some (.int .i64 (n : Int))) (hcx : isConstO x = false) (ht : E.ty t = some ty1) (hd1 : ty1.d = .slice e) (he : E.ty e = some et) (hs : Nat.blt 0 et.size = true) (hroom : roomA et n = true)
    (hB : ∀ b, Seg E ops N L K B ((d, .sl et.size b 0 n) :: l1) (l2 b))
    (h : ∀ b, OS E false (E.pol fid id) ops C m N (l2 b) ((b, .row et.size (List.replicate n et.zeroV)) :: L) K Q) : WS E fid N (.region id ops true) l L K Q := by
  intro tm st hF
  subst hm
  have hF0 := hF.at (m := st.next + ops.size) (by omega)
  generalize hs0 : st.at (st.next + ops.size) = s0 at hF0
  obtain ⟨tr1, tm1, a1, a2, a3⟩ := hA tm s0 hF0
  -- the row
  have hmk : ∀ (call : Call1) (pre : Option Nat) (i : Nat), stepPre E call pre (E.pol fid id i) i tm1 s0 { dst := some d, op := .makeSlice t x y, type := ty, pos := pos, after := after, guard := none } = some (.sl et.size s0.next 0 n, s0.new (.row et.size (List.replicate n et.zeroV))) := by
    intro call pre i
    have : stepPre E call pre (E.pol fid id i) i tm1 s0 { dst := some d, op := .makeSlice t x y, type := ty, pos := pos, after := after, guard := none } = (match makeSliceA E s0 (isConstO x) t (evalO tm1 x) (evalO tm1 y) with | some (v, st') => if E.pol fid id i = 2 && false then freezeA st' v else some (v, st') | none => none) := by
      cases pre <;> rfl
    rw [this]
    unfold makeSliceA
    rw [ht, a2.ev hx, a2.ev hy, hcx]
    dsimp only
    rw [hd1]
    dsimp only
    rw [he]
    dsimp only
    rw [if_pos ⟨Eq.mp Nat.blt_eq hs, by omega, by omega, by simpa using hroom⟩]
    simp
  have hFb : Fa N ((d, .sl et.size s0.next 0 n) :: l1) ((s0.next, .row et.size (List.replicate n et.zeroV)) :: L) K (tm1.put d (.sl et.size s0.next 0 n)) (s0.new (.row et.size (List.replicate n et.zeroV))) := (a2.new _).put hn _
  have hSb : SFa L K (s0.new (.row et.size (List.replicate n et.zeroV))) := hFb.s.tail
  obtain ⟨tr3, tm3, b1, b2, b3⟩ := hB s0.next (tm1.put d (.sl et.size s0.next 0 n)) (s0.new (.row et.size (List.replicate n et.zeroV))) ((a2.put hn _).withS hSb)
  obtain ⟨n5, tr4, tm4, st4, c1, _, c3⟩ := h s0.next (some st.next) tm3 _ (b2.withS2 hFb.s) (fun _ _ => ho)
  have c1 := runOpsT_mono (callF_mono n5 (n5 + 1) (by omega)) _ _ _ _ c1
  generalize hn5 : n5 + 1 = n4 at c1
  have a1 := fun pre pol i => hn5 ▸ a1 n5 pre pol i
  have b1 := fun pre pol i => hn5 ▸ b1 n5 pre pol i
  have hl1 := runOpsT_len (a1 (some st.next) (E.pol fid id) 0)
  have hl3 := runOpsT_len (b1 (some st.next) (E.pol fid id) (A.length + 1))
  have hrun : runOpsT E (callF E n4) (some st.next) (E.pol fid id) ops ops.toList 0 tm s0 = some (tr1 ++ (⟨tm1, s0, s0.new (.row et.size (List.replicate n et.zeroV)), .sl et.size s0.next 0 n, true⟩ :: (tr3 ++ tr4)), tm4, st4) := by
    rw [hops]
    refine runOpsT_append _ _ _ _ _ (a1 _ _ _) ?_
    rw [Nat.zero_add]
    simp only [runOpsT]
    rw [show wantedA ops tm1 { dst := some d, op := .makeSlice t x y, type := ty, pos := pos, after := after, guard := none } = some true from rfl]
    dsimp only
    rw [hmk]
    dsimp only [putO]
    rw [runOpsT_append B C (A.length + 1) _ _ (b1 _ _ _) (by rw [← hl3] at c1 ⊢; exact c1)]
  refine ⟨n4 + 1, .normal, tm4, st4, ?_, c3⟩
  have hpre : preObjs E st.next ops.toList 0 st.objs = some st.objs := preObjs_none _ _ _ ho
  have h1' := runOpsT_mono (callF_mono n4 (n4 + 1) (by omega)) _ _ _ _ hrun
  rw [← hs0] at h1'
  unfold St.at at h1'
  simp only [exec, execReg, if_true, hpre, hd]
  cases dy with
  | nil =>
    dsimp only
    rw [(runOps_of_T _ _ _ _ h1').1]
  | cons p0 ps =>
    dsimp only
    rw [h1']
    dsimp only
    rw [if_pos]
    · rw [List.all_eq_true] at hc ⊢
      intro p hp
      have hp' := hc p hp
      simp only [Bool.and_eq_true, Bool.or_eq_true] at hp'
      obtain ⟨⟨p1, p2⟩, p4⟩ := hp'
      have p1 : p.1 = A.length := Nat.eq_of_beq_eq_true p1
      have hst : St.at st (st.next + ops.size) = s0 := hs0
      unfold St.at at hst
      have hnx : s0.next = st.next + ops.size := by rw [← hs0]; rfl
      rw [hst, ← hnx]
      have key : ∃ (q : Tr) (o : Oper), (tr1 ++ (⟨tm1, s0, s0.new (.row et.size (List.replicate n et.zeroV)), .sl et.size s0.next 0 n, true⟩ :: (tr3 ++ tr4)))[p.2]? = some q ∧ ops[p.2]? = some o ∧ ∀ s, SFa L K s → quiet E q.tm s o = some q.v := by
        rw [hops] at p4
        rw [← Array.getElem?_toList, hops]
        rcases p2 with p2 | ⟨p2, p3⟩
        · have p2 : p.2 < A.length := Eq.mp Nat.blt_eq p2
          have g1 : (A ++ ({ dst := some d, op := .makeSlice t x y, type := ty, pos := pos, after := after, guard := none } :: (B ++ C)))[p.2]? = some A[p.2] := by
            rw [List.getElem?_append_left (by omega)]; exact List.getElem?_eq_getElem _
          rw [g1] at p4
          refine ⟨tr1[p.2]'(by omega), A[p.2], ?_, ?_, (a3 p.2 _ _ (List.getElem?_eq_getElem (by omega)) (List.getElem?_eq_getElem (by omega))).2 (by simpa using p4)⟩
          · rw [List.getElem?_append_left (by omega)]; exact List.getElem?_eq_getElem _
          · rw [List.getElem?_append_left (by omega)]; exact List.getElem?_eq_getElem _
        · have p2 : A.length < p.2 := Eq.mp Nat.blt_eq p2
          have p3 : p.2 < A.length + 1 + B.length := Eq.mp Nat.blt_eq p3
          obtain ⟨k, hk⟩ : ∃ k, p.2 = A.length + 1 + k := ⟨p.2 - (A.length + 1), by omega⟩
          have g1 : (A ++ ({ dst := some d, op := .makeSlice t x y, type := ty, pos := pos, after := after, guard := none } :: (B ++ C)))[p.2]? = some (B[k]'(by omega)) := by
            rw [List.getElem?_append_right (by omega), show p.2 - A.length = k + 1 by omega, List.getElem?_cons_succ, List.getElem?_append_left (by omega)]; exact List.getElem?_eq_getElem _
          rw [g1] at p4
          refine ⟨tr3[k]'(by omega), B[k]'(by omega), ?_, ?_, (b3 k _ _ (List.getElem?_eq_getElem (by omega)) (List.getElem?_eq_getElem (by omega))).2 (by simpa using p4)⟩
          · rw [List.getElem?_append_right (by omega), show p.2 - tr1.length = k + 1 by omega, List.getElem?_cons_succ, List.getElem?_append_left (by omega)]; exact List.getElem?_eq_getElem _
          · rw [List.getElem?_append_right (by omega), show p.2 - A.length = k + 1 by omega, List.getElem?_cons_succ, List.getElem?_append_left (by omega)]; exact List.getElem?_eq_getElem _
      obtain ⟨q, o, k1, k2, k3⟩ := key
      unfold dynOk
      rw [k1, k2, p1, List.getElem?_append_right (by omega), show A.length - tr1.length = 0 by omega, List.getElem?_cons_zero]
      dsimp only
      rw [k3 s0 a2.s, k3 _ hSb]
      simp [AV.beq_refl]
/-- The region: first what leaves the state, on which all pairs look, then the rest. -/
theorem WS.drawQ {id : Nat} {ops : Array Oper} {dy : List (Nat × Nat)} {A C : List Oper} {m : Nat} {l1 : List (Nat × AV)}
    (hd : E.dyn fid id = dy) (ho : hasAlloc ops = false) (hops : ops.toList = A ++ C) (hm : m = A.length)
    (hc : (dy.all fun p => Nat.blt p.1 m && Nat.blt p.2 m && (match ops.toList[p.2]? with | some o => !isLoud o.op | none => false)) = true)
    (hA : Seg E ops N L K A l l1) (h : OS E false (E.pol fid id) ops C m N l1 L K Q) : WS E fid N (.region id ops true) l L K Q := by
  intro tm st hF
  subst hm
  have hF0 := hF.at (m := st.next + ops.size) (by omega)
  generalize hs0 : st.at (st.next + ops.size) = s0 at hF0
  obtain ⟨tr1, tm1, a1, a2, a3⟩ := hA tm s0 hF0
  obtain ⟨n5, tr4, tm4, st4, c1, _, c3⟩ := h (some st.next) tm1 _ a2 (fun _ _ => ho)
  have c1 := runOpsT_mono (callF_mono n5 (n5 + 1) (by omega)) _ _ _ _ c1
  have hl1 := runOpsT_len (a1 n5 (some st.next) (E.pol fid id) 0)
  have hrun : runOpsT E (callF E (n5 + 1)) (some st.next) (E.pol fid id) ops ops.toList 0 tm s0 = some (tr1 ++ tr4, tm4, st4) := by
    rw [hops]
    exact runOpsT_append _ _ _ _ _ (a1 _ _ _ _) (by rw [Nat.zero_add]; exact c1)
  refine ⟨n5 + 1 + 1, .normal, tm4, st4, ?_, c3⟩
  have hpre : preObjs E st.next ops.toList 0 st.objs = some st.objs := preObjs_none _ _ _ ho
  have h1' := runOpsT_mono (callF_mono (n5 + 1) (n5 + 1 + 1) (by omega)) _ _ _ _ hrun
  rw [← hs0] at h1'
  unfold St.at at h1'
  simp only [exec, execReg, if_true, hpre, hd]
  cases dy with
  | nil =>
    dsimp only
    rw [(runOps_of_T _ _ _ _ h1').1]
  | cons p0 ps =>
    dsimp only
    rw [h1']
    dsimp only
    rw [if_pos]
    · rw [List.all_eq_true] at hc ⊢
      intro p hp
      have hp' := hc p hp
      simp only [Bool.and_eq_true] at hp'
      obtain ⟨⟨p1, p2⟩, p4⟩ := hp'
      have p1 : p.1 < A.length := Eq.mp Nat.blt_eq p1
      have p2 : p.2 < A.length := Eq.mp Nat.blt_eq p2
      have g1 : ops.toList[p.1]? = some A[p.1] := by rw [hops, List.getElem?_append_left (by omega)]; exact List.getElem?_eq_getElem _
      have g2 : ops.toList[p.2]? = some A[p.2] := by rw [hops, List.getElem?_append_left (by omega)]; exact List.getElem?_eq_getElem _
      rw [g2] at p4
      obtain ⟨⟨e1, e2⟩, _⟩ := a3 p.1 (tr1[p.1]'(by omega)) _ (List.getElem?_eq_getElem (by omega)) (List.getElem?_eq_getElem (by omega))
      obtain ⟨_, e4⟩ := a3 p.2 (tr1[p.2]'(by omega)) _ (List.getElem?_eq_getElem (by omega)) (List.getElem?_eq_getElem (by omega))
      have e4 := e4 (by simpa using p4)
      have t1 : (tr1 ++ tr4)[p.1]? = some (tr1[p.1]'(by omega)) := by rw [List.getElem?_append_left (by omega)]; exact List.getElem?_eq_getElem _
      have t2 : (tr1 ++ tr4)[p.2]? = some (tr1[p.2]'(by omega)) := by rw [List.getElem?_append_left (by omega)]; exact List.getElem?_eq_getElem _
      unfold dynOk
      rw [t1, t2, ← Array.getElem?_toList, g2]
      dsimp only
      rw [e1, e2, e4 s0 a2.s]
      simp [AV.beq_refl]
/-- A load whose address is read by what is known. -/
theorem OD.loadG {t : TypeId} {x : Operand} {p v : AV} (hn : Nat.blt d N = true) (hx : evL l x = some p) (h : ∀ st, SFa L K st → ∃ cs, loadCells st p = some cs ∧ partA E t cs 0 = some v) (k : OS E c pol ops r (i + 1) N ((d, v) :: l) L K Q) :
    OD E c pol ops { dst := some d, op := .load t x, type := ty, pos := pos, after := after, guard := guard } r i N l L K Q :=
  .quiet rfl hn rfl (fun tm st hF => by
    have : Abs.quiet E tm st { dst := some d, op := .load t x, type := ty, pos := pos, after := after, guard := guard } = (match loadCells st (evalO tm x) with | none => none | some cs => partA E t cs 0) := rfl
    obtain ⟨cs, h1, h2⟩ := h st hF.s
    rw [this, hF.ev hx, h1]; exact h2) k
end
end Go.Abs

/- Regions that draw their order: the rules, to be stepped through. -/
namespace Go.Abs
section
variable {E : Env} {fid N : Nat} {l : List (Nat × AV)} {L : List (Nat × AObj)} {K : List (Nat × Bool)} {Q : AExit → TM → St → Prop}
variable {c : Bool} {pol : Nat → Nat} {ops : Array Oper} {r : List Oper} {i : Nat} {o : Oper}
variable {d : Nat} {op : Op} {ty : TypeId} {pos : String} {after : Array Edge}
def SegK (E : Env) (ops : Array Oper) (N : Nat) (L : List (Nat × AObj)) (K : List (Nat × Bool)) (r : List Oper) (l : List (Nat × AV)) (k : List (Nat × AV) → Prop) : Prop := ∃ l', Seg E ops N L K r l l' ∧ k l'
theorem SegK.nil {k : List (Nat × AV) → Prop} (h : k l) : SegK E ops N L K [] l k := ⟨l, .nil, h⟩
theorem SegK.cons {k : List (Nat × AV) → Prop} {v : AV} (hw : wantS ops l o = some true) (hd : o.dst = some d) (hn : Nat.blt d N = true) (hl : isLoud o.op = false) (hq : ∀ tm st, Fa N l L K tm st → quiet E tm st o = some v) (h : SegK E ops N L K r ((d, v) :: l) k) : SegK E ops N L K (o :: r) l k := by
  obtain ⟨l', h1, h2⟩ := h
  exact ⟨l', .cons hw hd hn hl hq h1, h2⟩
theorem SegK.auto {k : List (Nat × AV) → Prop} {v : AV} {guard : Option (Nat × Bool)} (hw : wantS ops l { dst := some d, op := op, type := ty, pos := pos, after := after, guard := guard } = some true) (hn : Nat.blt d N = true) (hl : isLoud op = false) (h : quietS E l op = some v) (k1 : SegK E ops N L K r ((d, v) :: l) k) : SegK E ops N L K ({ dst := some d, op := op, type := ty, pos := pos, after := after, guard := guard } :: r) l k :=
  .cons hw rfl hn hl (fun _ _ hF => quietS_sound h hF) k1
theorem SegK.indexAddr {k : List (Nat × AV) → Prop} {t : TypeId} {x y : Operand} {a b v : AV} {guard : Option (Nat × Bool)} (hw : wantS ops l { dst := some d, op := .indexAddr t x y, type := ty, pos := pos, after := after, guard := guard } = some true) (hn : Nat.blt d N = true) (hx : evL l x = some a) (hy : evL l y = some b) (h : indexAddrA E t a b = some v) (k1 : SegK E ops N L K r ((d, v) :: l) k) :
    SegK E ops N L K ({ dst := some d, op := .indexAddr t x y, type := ty, pos := pos, after := after, guard := guard } :: r) l k :=
  .cons hw rfl hn rfl (fun _ _ hF => quiet_indexAddr hx hy h hF) k1
theorem SegK.loadP {k : List (Nat × AV) → Prop} (kk : Nat) {t : TypeId} {x : Operand} {b j off sz : Nat} {xs : List AV} {e v : AV} {guard : Option (Nat × Bool)} (hw : wantS ops l { dst := some d, op := .load t x, type := ty, pos := pos, after := after, guard := guard } = some true) (hn : Nat.blt d N = true) (hx : evL l x = some (.ptr b j off)) (hL : L[kk]? = some (b, .row sz xs)) (he : xs[j]? = some e) (ho : Nat.ble off e.cells.length = true)
    (hp : partA E t (e.cells.drop off) 0 = some v) (k1 : SegK E ops N L K r ((d, v) :: l) k) :
    SegK E ops N L K ({ dst := some d, op := .load t x, type := ty, pos := pos, after := after, guard := guard } :: r) l k :=
  .cons hw rfl hn rfl (fun _ _ hF => quiet_loadP kk hx hL he ho hp hF) k1
theorem SegK.call {k : List (Nat × AV) → Prop} {f : Operand} {args : Array Operand} {argTypes : Array TypeId} {g : FuncId} {first cap vs : List AV} {p : List AV → St → Option (AV × St)} {v : AV} (hn : Nat.blt d N = true) (hf : evL l f = some (.fn g first cap)) (ha : evLs l args.toList = some vs) (hp : E.prim g = some p) (hr : ∀ st, p (first ++ vs ++ cap) st = some (v, st)) (hz : ∀ st, freezeA st v = some (v, st))
    (k1 : SegK E ops N L K r ((d, v) :: l) k) : SegK E ops N L K ({ dst := some d, op := .call { callee := .value f, args := args, argTypes := argTypes }, type := ty, pos := pos, after := after, guard := none } :: r) l k := by
  obtain ⟨l', h1, h2⟩ := k1
  exact ⟨l', .call hn hf ha hp hr hz h1, h2⟩
theorem SegK.bin {k : List (Nat × AV) → Prop} {bop : BinOp} {t t2 : TypeId} {x y : Operand} {a b v : AV} {guard : Option (Nat × Bool)} (hw : wantS ops l { dst := some d, op := .binOp bop t x y t2, type := ty, pos := pos, after := after, guard := guard } = some true) (hn : Nat.blt d N = true) (hx : evL l x = some a) (hy : evL l y = some b) (h : binA E bop t x y a b = some v) (k1 : SegK E ops N L K r ((d, v) :: l) k) :
    SegK E ops N L K ({ dst := some d, op := .binOp bop t x y t2, type := ty, pos := pos, after := after, guard := guard } :: r) l k :=
  .cons hw rfl hn rfl (fun tm st hF => by show binA E bop t x y (evalO tm x) (evalO tm y) = some v; rw [hF.ev hx, hF.ev hy]; exact h) k1
theorem SegK.slice {k : List (Nat × AV) → Prop} {t : TypeId} {x : Operand} {lo hi mx : Option Operand} {a : AV} {b1 b2 b3 : Option AV} {v : AV} {guard : Option (Nat × Bool)} (hw : wantS ops l { dst := some d, op := .slice t x lo hi mx, type := ty, pos := pos, after := after, guard := guard } = some true) (hn : Nat.blt d N = true) (hx : evL l x = some a) (h1 : evO l lo = some b1) (h2 : evO l hi = some b2) (h3 : evO l mx = some b3) (h : sliceA E t a b1 b2 b3 = some v) (k1 : SegK E ops N L K r ((d, v) :: l) k) :
    SegK E ops N L K ({ dst := some d, op := .slice t x lo hi mx, type := ty, pos := pos, after := after, guard := guard } :: r) l k :=
  .cons hw rfl hn rfl (fun tm st hF => by show sliceA E t (evalO tm x) (lo.map (evalO tm)) (hi.map (evalO tm)) (mx.map (evalO tm)) = some v; rw [hF.ev hx, hF.evo h1, hF.evo h2, hF.evo h3]; exact h) k1
/-- First what leaves the state, on which all pairs look, then the rest. -/
theorem WS.drawQK (m : Nat) {id : Nat} {ops : Array Oper} {dy : List (Nat × Nat)} (hd : E.dyn fid id = dy) (ho : hasAlloc ops = false) (hm : Nat.ble m ops.toList.length = true)
    (hc : (dy.all fun p => Nat.blt p.1 m && Nat.blt p.2 m && (match ops.toList[p.2]? with | some o => !isLoud o.op | none => false)) = true)
    (h : SegK E ops N L K (ops.toList.take m) l fun l1 => OS E false (E.pol fid id) ops (ops.toList.drop m) m N l1 L K Q) : WS E fid N (.region id ops true) l L K Q := by
  obtain ⟨l', h1, h2⟩ := h
  exact .drawQ hd ho (List.take_append_drop m _).symm (by have := Nat.le_of_ble_eq_true hm; rw [List.length_take]; omega) hc h1 h2
/-- The like, with a row that is made among them: at place a; the pairs look at it, and at what stands before place m. -/
theorem WS.drawPK (a m : Nat) {id : Nat} {ops : Array Oper} {dy : List (Nat × Nat)} {t e : TypeId} {x y : Operand} {ty1 et : Ty} {n : Nat}
    (hd : E.dyn fid id = dy) (ho : hasAlloc ops = false) (hm : Nat.blt a m = true) (hm2 : Nat.ble m ops.toList.length = true) (hop : ops.toList[a]? = some { dst := some d, op := .makeSlice t x y, type := ty, pos := pos, after := after, guard := none })
    (hc : (dy.all fun p => Nat.beq p.1 a && (Nat.blt p.2 a || (Nat.blt a p.2 && Nat.blt p.2 m)) && (match ops.toList[p.2]? with | some o => !isLoud o.op | none => false)) = true)
    (hn : Nat.blt d N = true) (hcx : isConstO x = false) (ht : E.ty t = some ty1) (hd1 : ty1.d = .slice e) (he : E.ty e = some et) (hs : Nat.blt 0 et.size = true) (hroom : roomA et n = true)
    (h : SegK E ops N L K (ops.toList.take a) l fun l1 => evL l1 x = some (.int .i64 (n : Int)) ∧ evL l1 y = some (.int .i64 (n : Int)) ∧ ∀ b, SegK E ops N L K ((ops.toList.take m).drop (a + 1)) ((d, .sl et.size b 0 n) :: l1) fun l2 =>
      OS E false (E.pol fid id) ops (ops.toList.drop m) m N l2 ((b, .row et.size (List.replicate n et.zeroV)) :: L) K Q) : WS E fid N (.region id ops true) l L K Q := by
  obtain ⟨l1, h1, hx, hy, h2⟩ := h
  have hm : a < m := Eq.mp Nat.blt_eq hm
  have hm2 := Nat.le_of_ble_eq_true hm2
  have hla : (ops.toList.take a).length = a := by rw [List.length_take]; omega
  have hlb : ((ops.toList.take m).drop (a + 1)).length = m - (a + 1) := by rw [List.length_drop, List.length_take]; omega
  have hops : ops.toList = ops.toList.take a ++ { dst := some d, op := .makeSlice t x y, type := ty, pos := pos, after := after, guard := none } :: ((ops.toList.take m).drop (a + 1) ++ ops.toList.drop m) := by
    obtain ⟨hlt, ho1⟩ := List.getElem?_eq_some_iff.1 hop
    have e1 : ops.toList = ops.toList.take m ++ ops.toList.drop m := (List.take_append_drop m _).symm
    have e2 : ops.toList.take m = (ops.toList.take m).take a ++ (ops.toList.take m).drop a := (List.take_append_drop a _).symm
    have e3 : (ops.toList.take m).take a = ops.toList.take a := by rw [List.take_take, Nat.min_eq_left (by omega)]
    have e4 : (ops.toList.take m).drop a = (ops.toList.take m)[a]'(by rw [List.length_take]; omega) :: (ops.toList.take m).drop (a + 1) := List.drop_eq_getElem_cons _
    rw [e3] at e2
    rw [List.getElem_take, ho1] at e4
    calc ops.toList = ops.toList.take m ++ ops.toList.drop m := e1
      _ = (ops.toList.take a ++ (ops.toList.take m).drop a) ++ ops.toList.drop m := by rw [← e2]
      _ = _ := by rw [e4]; simp
  have hch := fun b => h2 b
  refine WS.drawP (l2 := fun b => Classical.choose (hch b)) (l1 := l1) (m := m) hd ho hops (by rw [hla, hlb]; omega) (by rw [hla]; exact hc) h1 hn hx hy hcx ht hd1 he hs hroom (fun b => (Classical.choose_spec (hch b)).1) (fun b => (Classical.choose_spec (hch b)).2)
end
end Go.Abs

/- Slices, read, with what they weigh. -/
namespace Go.Abs
open Go.RowKit
section
variable {H : Type} {enc : TypeId × Value → H} {P : Program} {w : World} {base : Nat} {spare : Nat → Bool} {held : Bool} {fuel n : Nat} {t e : TypeId} {cs : List Value} {x : DataW H × List MemPlace} {Γ : Ghost}
/-- A slice, read, with what its datum weighs. -/
theorem slice_readW {α : Type} (f : α → AV) (sz : Nat) (good : α → Prop) (hsz : 0 < sz) (ht : P.underlying t = some (.slice e)) (hc : P.cellsOf e = sz)
    (hel : ∀ n cs y, DataW.trod enc P w base spare held n e cs = some y → ∃ a, good a ∧ (f a).ok = true ∧ ∃ v : Value, v.cells.toList = cs ∧ R (Ghost.all w) (f a) v)
    (h : DataW.trod enc P w base spare held fuel t cs = some x) : ∃ s : GSl α, (∃ v, cs = [v] ∧ R (Ghost.all w) (s.av sz f) v) ∧ (∀ a ∈ s.xs, good a) ∧ s.xs.length ≤ maxLen ∧ (s.xs.length = 0 ∨ ∃ es rs, x.1 = .slice es rs ∧ s.xs.length = es.length) := by
  rcases DataW.trod_slice ht h with ⟨rfl, _⟩ | ⟨a, len, cap, elems, rest, n, _, rfl, hxd, _, hlc, hcm, hel', hget, _, _⟩
  · exact ⟨⟨some true, [], fun _ => rfl⟩, ⟨_, rfl, by simp only [GSl.av, R]⟩, (fun _ h => by cases h), Nat.zero_le _, .inl rfl⟩
  · by_cases h0 : len = 0
    · subst h0
      exact ⟨⟨some false, [], fun _ => rfl⟩, ⟨_, rfl, by simp only [GSl.av, R]; exact ⟨a, cap, rfl⟩⟩, (fun _ h => by cases h), Nat.zero_le _, .inl rfl⟩
    · have hb : ∀ i, i < len → ∃ l y, w.cells? base (a.add (i * sz)) sz = some l ∧ DataW.trod enc P w base spare held n e l = some y := fun i hi => by
        have := hget i hi
        rw [List.getElem?_eq_getElem (by omega), hc] at this
        obtain ⟨l, h1, h2⟩ := Option.bind_eq_some_iff.1 this
        exact ⟨l, _, h1, h2⟩
      have hspot : a.spot = none := by
        obtain ⟨l, y, h1, _⟩ := hb 0 (by omega)
        rw [Nat.zero_mul] at h1
        exact cells_spot hsz h1
      obtain ⟨b, o, sp⟩ := a
      dsimp only at hspot
      subst hspot
      have hch : ∀ i : Fin len, ∃ a : α, good a ∧ (f a).ok = true ∧ ∃ v : Value, v.cells.size = sz ∧ R (Ghost.all w) (f a) v ∧ ∀ (j : Nat) (u : Value), v.cells.toList[j]? = some u → w.cell? ⟨b, o + i * sz + j, none⟩ = some u := fun i => by
        obtain ⟨l, y, h1, h2⟩ := hb i i.2
        obtain ⟨a, ha, hok, v, hv, hr⟩ := hel n l y h2
        obtain ⟨h3, h4⟩ := cells_some h1
        exact ⟨a, ha, hok, v, by rw [← Array.length_toList, hv]; exact h3, hr, fun j u hj => h4 j u (by rw [← hv]; exact hj)⟩
      refine ⟨⟨none, List.ofFn fun i => Classical.choose (hch i), fun k => absurd rfl k⟩, ⟨_, rfl, ?_⟩, fun a ha => ?_, ?_, .inr ⟨elems.map (·.1), rest.map (·.1), by rw [hxd], by simp only [List.length_ofFn, List.length_map]; omega⟩⟩
      · simp only [GSl.av, R]
        refine ⟨b, o, cap, by simp, by simpa using hlc, hsz, by simp only [OwnOk], ?_⟩
        refine RE.mk fun i u hi => ?_
        rw [List.getElem?_map, List.getElem?_ofFn] at hi
        split at hi
        · rename_i hlt
          simp only [Option.map_some, Option.some.injEq] at hi
          subst hi
          obtain ⟨_, h2, v, h3, h4, h5⟩ := Classical.choose_spec (hch ⟨i, hlt⟩)
          exact ⟨v, h4, h2, h3, fun j u hj => h5 j u hj⟩
        · simp at hi
      · rw [List.mem_ofFn] at ha
        obtain ⟨i, rfl⟩ := ha
        exact (Classical.choose_spec (hch i)).1
      · simp only [List.length_ofFn]; omega
theorem weigh_slice {d : DataW H} {n : Nat} (hw : ∀ m ∈ d.weights P t, m ≤ reachBytes) (ht : P.underlying t = some (.slice e)) (hb : 1 ≤ P.bytesOf e) (h : n = 0 ∨ ∃ es rs, d = .slice es rs ∧ n = es.length) : n ≤ reachBytes := by
  rcases h with rfl | ⟨es, rs, rfl, rfl⟩
  · exact Nat.zero_le _
  · have := hw ((es.length + rs.length) * P.bytesOf e) (by simp [DataW.weights, ht])
    have h2 : es.length * 1 ≤ (es.length + rs.length) * P.bytesOf e := Nat.mul_le_mul (by omega) hb
    omega
theorem weigh_field {fs : Array Field} {xs : List (DataW H × List MemPlace)} (ht : P.underlying t = some (.struct fs)) (hw : ∀ m ∈ (DataW.agg (xs.map (·.1))).weights P t, m ≤ reachBytes) {i : Nat} {f : Field} {y : DataW H × List MemPlace} (hf : fs[i]? = some f) (hy : xs[i]? = some y) : ∀ m ∈ y.1.weights P f.type, m ≤ reachBytes := by
  intro m hm
  refine hw m ?_
  simp only [DataW.weights, ht]
  exact DataW.weights_mem_each (j := i) (by simp [hf]) (by rw [List.getElem?_map, hy]; rfl) m hm
theorem weigh_arg {ts : List TypeId} {ds : List (DataW H)} (h : (DataW.weightsEach P ts ds).all (· ≤ reachBytes) = true) {j : Nat} {d : DataW H} (ht : ts[j]? = some t) (hd : ds[j]? = some d) : ∀ m ∈ d.weights P t, m ≤ reachBytes := by
  intro m hm
  have := List.all_eq_true.1 h _ (DataW.weights_mem_each ht hd m hm)
  simpa using this
end
end Go.Abs

/- Slices, read, of data that weigh little. -/
namespace Go.Abs
open Go.RowKit
section
variable {H : Type} {enc : TypeId × Value → H} {P : Program} {w : World} {base : Nat} {spare : Nat → Bool} {held : Bool} {fuel n : Nat} {t e : TypeId} {cs : List Value} {x : DataW H × List MemPlace} {Γ : Ghost}
theorem weights_all {d : DataW H} : ∀ {l : List (DataW H)}, d ∈ l → ∀ m ∈ d.weights P e, m ∈ DataW.weightsAll P e l
  | [], h, _, _ => by cases h
  | c :: l, h, m, hm => by
    simp only [DataW.weightsAll, List.mem_append]
    rcases List.mem_cons.1 h with rfl | h
    · exact .inl hm
    · exact .inr (weights_all h m hm)
/-- A slice, read, of a datum that weighs little. -/
theorem slice_readV {α : Type} (f : α → AV) (sz : Nat) (good : α → Prop) (hsz : 0 < sz) (ht : P.underlying t = some (.slice e)) (hc : P.cellsOf e = sz)
    (hby : 1 ≤ P.bytesOf e) (hw : ∀ m ∈ x.1.weights P t, m ≤ reachBytes)
    (hel : ∀ n cs y, DataW.trod enc P w base spare held n e cs = some y → (∀ m ∈ y.1.weights P e, m ≤ reachBytes) → ∃ a, good a ∧ (f a).ok = true ∧ ∃ v : Value, v.cells.toList = cs ∧ R (Ghost.all w) (f a) v)
    (h : DataW.trod enc P w base spare held fuel t cs = some x) : ∃ s : GSl α, (∃ v, cs = [v] ∧ R (Ghost.all w) (s.av sz f) v) ∧ (∀ a ∈ s.xs, good a) ∧ s.xs.length ≤ reachBytes := by
  rcases DataW.trod_slice ht h with ⟨rfl, _⟩ | ⟨a, len, cap, elems, rest, n, _, rfl, hxd, _, hlc, hcm, hel', hget, _, _⟩
  · exact ⟨⟨some true, [], fun _ => rfl⟩, ⟨_, rfl, by simp only [GSl.av, R]⟩, (fun _ h => by cases h), Nat.zero_le _⟩
  · have hwe : ∀ y ∈ elems, ∀ m ∈ y.1.weights P e, m ≤ reachBytes := fun y hy m hm => by
      refine hw m ?_
      rw [hxd]
      simp only [DataW.weights, ht, List.mem_cons, List.mem_append]
      exact .inr (.inl (weights_all (List.mem_map_of_mem (f := fun q : DataW H × List MemPlace => q.1) hy) m hm))
    have hwl : elems.length ≤ reachBytes := by
      have h1 := hw ((elems.length + rest.length) * P.bytesOf e) (by rw [hxd]; simp [DataW.weights, ht])
      have h2 : elems.length * 1 ≤ (elems.length + rest.length) * P.bytesOf e := Nat.mul_le_mul (by omega) hby
      omega
    by_cases h0 : len = 0
    · subst h0
      exact ⟨⟨some false, [], fun _ => rfl⟩, ⟨_, rfl, by simp only [GSl.av, R]; exact ⟨a, cap, rfl⟩⟩, (fun _ h => by cases h), Nat.zero_le _⟩
    · have hb : ∀ i, i < len → ∃ l y, w.cells? base (a.add (i * sz)) sz = some l ∧ DataW.trod enc P w base spare held n e l = some y ∧ y ∈ elems := fun i hi => by
        have := hget i hi
        rw [List.getElem?_eq_getElem (by omega), hc] at this
        obtain ⟨l, h1, h2⟩ := Option.bind_eq_some_iff.1 this
        exact ⟨l, _, h1, h2, List.getElem_mem _⟩
      have hspot : a.spot = none := by
        obtain ⟨l, y, h1, _, _⟩ := hb 0 (by omega)
        rw [Nat.zero_mul] at h1
        exact cells_spot hsz h1
      obtain ⟨b, o, sp⟩ := a
      dsimp only at hspot
      subst hspot
      have hch : ∀ i : Fin len, ∃ a : α, good a ∧ (f a).ok = true ∧ ∃ v : Value, v.cells.size = sz ∧ R (Ghost.all w) (f a) v ∧ ∀ (j : Nat) (u : Value), v.cells.toList[j]? = some u → w.cell? ⟨b, o + i * sz + j, none⟩ = some u := fun i => by
        obtain ⟨l, y, h1, h2, hy⟩ := hb i i.2
        obtain ⟨a, ha, hok, v, hv, hr⟩ := hel n l y h2 (fun m hm => hwe y hy m hm)
        obtain ⟨h3, h4⟩ := cells_some h1
        exact ⟨a, ha, hok, v, by rw [← Array.length_toList, hv]; exact h3, hr, fun j u hj => h4 j u (by rw [← hv]; exact hj)⟩
      refine ⟨⟨none, List.ofFn fun i => Classical.choose (hch i), fun k => absurd rfl k⟩, ⟨_, rfl, ?_⟩, fun a ha => ?_, ?_⟩
      · simp only [GSl.av, R]
        refine ⟨b, o, cap, by simp, by simpa using hlc, hsz, by simp only [OwnOk], ?_⟩
        refine RE.mk fun i u hi => ?_
        rw [List.getElem?_map, List.getElem?_ofFn] at hi
        split at hi
        · rename_i hlt
          simp only [Option.map_some, Option.some.injEq] at hi
          subst hi
          obtain ⟨_, h2, v, h3, h4, h5⟩ := Classical.choose_spec (hch ⟨i, hlt⟩)
          exact ⟨v, h4, h2, h3, fun j u hj => h5 j u hj⟩
        · simp at hi
      · rw [List.mem_ofFn] at ha
        obtain ⟨i, rfl⟩ := ha
        exact (Classical.choose_spec (hch i)).1
      · simp only [List.length_ofFn]; omega
theorem weigh_string {s : ByteArray} {d : DataW H} (hd : d = .lit (.string s.data.toList)) (hw : ∀ m ∈ d.weights P t, m ≤ reachBytes) : s.size ≤ reachBytes := by
  subst hd
  have := hw s.data.toList.length (by simp [DataW.weights])
  simpa using this
/-- Wrapping, as a remainder. -/
theorem wrap_mod (n : Int) : IntKind.i64.wrap n = (n + 9223372036854775808) % 18446744073709551616 - 9223372036854775808 := by
  have h : IntKind.i64.wrap n = (if (true && decide (n % 18446744073709551616 ≥ 9223372036854775808)) then n % 18446744073709551616 - 18446744073709551616 else n % 18446744073709551616) := rfl
  rw [h]
  split
  · rename_i k
    simp at k
    omega
  · rename_i k
    simp at k
    omega
theorem wrap_wrap (a b : Int) : IntKind.i64.wrap (IntKind.i64.wrap a + b) = IntKind.i64.wrap (a + b) := by
  rw [wrap_mod, wrap_mod, wrap_mod]; omega
theorem wrap_wrap2 (a b : Int) : IntKind.i64.wrap (a + IntKind.i64.wrap b) = IntKind.i64.wrap (a + b) := by
  rw [wrap_mod, wrap_mod, wrap_mod]; omega
end
end Go.Abs
