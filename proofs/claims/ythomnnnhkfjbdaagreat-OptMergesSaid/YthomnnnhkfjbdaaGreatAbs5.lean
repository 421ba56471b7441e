/- Own text of this claim: part 5 of an interpreter that is proved sound against the model, and of what it shows of the law. -/
import Derived.Test.YthomnnnhkfjbdaaGreatAbs4
namespace Go.Abs
open Go.RowKit

section
variable {P : Program} {E : Env} {call : Call1} {base : Nat} {fl : Bool} {pol : Nat → Nat} {ops : Array Oper} {l : List Tr} {tm : TM} {st : St}

theorem preObjs_ok {base : Nat} : ∀ (r : List Oper) (i : Nat) {acc objs : List (Nat × AObj)}, preObjs E base r i acc = some objs →
    (∀ b, (b < base + i ∨ base + i + r.length ≤ b) → getL objs b = getL acc b) ∧
    (∀ (k : Nat) (o : Oper) (t : TypeId), r[k]? = some o → o.op = .alloc t → ∃ ty, E.ty t = some ty ∧ 0 < ty.size ∧ getL objs (base + (i + k)) = some (.row ty.size [ty.zeroV])) ∧
    (∀ b, getL objs b = getL acc b ∨ ∃ sz xs, getL objs b = some (.row sz xs))
  | [], i, acc, objs, h => by
    simp only [preObjs, Option.some.injEq] at h
    subst h
    exact ⟨fun _ _ => rfl, fun k o t hk => by simp at hk, fun _ => .inl rfl⟩
  | o :: r, i, acc, objs, h => by
    simp only [preObjs] at h
    have other : preObjs E base r (i + 1) acc = some objs → (∀ t, o.op ≠ .alloc t) → _ := fun h hn => by
      obtain ⟨h1, h2, h3⟩ := preObjs_ok r (i + 1) h
      refine (⟨fun b hb => h1 b (by simp only [List.length_cons] at hb; omega), fun k p t hk hp => ?_, h3⟩ :
        (∀ b, (b < base + i ∨ base + i + (o :: r).length ≤ b) → getL objs b = getL acc b) ∧
        (∀ (k : Nat) (p : Oper) (t : TypeId), (o :: r)[k]? = some p → p.op = .alloc t → ∃ ty, E.ty t = some ty ∧ 0 < ty.size ∧ getL objs (base + (i + k)) = some (.row ty.size [ty.zeroV])) ∧
        (∀ b, getL objs b = getL acc b ∨ ∃ sz xs, getL objs b = some (.row sz xs)))
      cases k with
      | zero =>
        simp only [List.getElem?_cons_zero, Option.some.injEq] at hk
        subst hk
        exact absurd hp (hn t)
      | succ k =>
        have e1 : i + (k + 1) = i + 1 + k := by omega
        rw [e1]; exact h2 k p t (by simpa using hk) hp
    split at h
    · rename_i t hop
      split at h
      · rename_i ty ht
        split at h
        · rename_i hsz
          obtain ⟨h1, h2, h3⟩ := preObjs_ok r (i + 1) h
          have own : getL objs (base + i) = some (.row ty.size [ty.zeroV]) := by
            rw [h1 _ (.inl (by omega)), getL_cons, if_pos rfl]
          refine ⟨fun b hb => ?_, fun k p t' hk hp => ?_, fun b => ?_⟩
          · simp only [List.length_cons] at hb
            rw [h1 b (by omega), getL_cons, if_neg (by omega)]
          · cases k with
            | zero =>
              simp only [List.getElem?_cons_zero, Option.some.injEq] at hk
              subst hk
              rw [hop] at hp; cases hp
              exact ⟨ty, ht, hsz, own⟩
            | succ k =>
              have e1 : i + (k + 1) = i + 1 + k := by omega
              rw [e1]; exact h2 k p t' (by simpa using hk) hp
          · rcases h3 b with h | h
            · rw [getL_cons] at h
              split at h
              · exact .inr ⟨_, _, h⟩
              · exact .inl h
            · exact .inr h
        · cases h
      · cases h
    · rename_i hn
      exact other h hn

theorem Inv.pre {B : Nat} {w0 w : World} {Γ : Ghost} {st st' : St} (hI : Inv B w0 Γ st w) {n : Nat} (hn : st'.next = st.next + n) (ht : st'.toks = st.toks) (hy : st'.tys = st.tys)
    (h1 : ∀ b, (b < st.next ∨ st.next + n ≤ b) → st'.get b = st.get b) : Out B w0 Γ st Γ st' w := by
  have ha : ∀ j, st'.alive j = st.alive j := fun j => by simp only [St.alive, ht]
  have hnew : ∀ j, st'.get j = st.get j ∨ st.next ≤ j := by
    intro j
    rcases Nat.lt_or_ge j st.next with h | h
    · exact .inl (h1 j (.inl h))
    · exact .inr h
  have hown : ∀ j b, OwnB Γ st' j b → OwnB Γ st j b := by
    rintro j b (⟨sz, xs, bs, sz', tot, k1, k2, k3⟩ | ⟨kt, et, es, k1, k2⟩ | ⟨k1, e, tot, k2⟩)
    · rcases hnew j with h | h
      · exact .inl ⟨sz, xs, bs, sz', tot, h ▸ k1, k2, k3⟩
      · rw [(hI.fresh j h).1] at k2; cases k2
    · rcases hnew j with h | h
      · exact .inr (.inl ⟨kt, et, es, h ▸ k1, k2⟩)
      · rw [(hI.fresh j h).2.1] at k2; cases k2
    · exact .inr (.inr ⟨(ha j) ▸ k1, e, tot, k2⟩)
  refine ⟨Ghost.Le.refl Γ, ⟨hI.below, hI.base, hI.inert, ?_, ?_, ?_, ?_, ?_, ?_, ?_, hI.ety, ?_, ?_, hI.old⟩, ?_⟩
  · intro j hj
    rw [hn] at hj
    obtain ⟨f1, f2, f3, f4, f5⟩ := hI.fresh j (by omega)
    exact ⟨f1, f2, f3, (h1 j (.inr hj)).trans f4, (ha j).trans f5⟩
  · intro j sz xs blk bs sz' tot k1 k2
    rcases hnew j with h | h
    · exact hI.rows j sz xs blk bs sz' tot (h ▸ k1) k2
    · rw [(hI.fresh j h).1] at k2; cases k2
  · intro j kt et es blk k1 k2
    rcases hnew j with h | h
    · exact hI.maps j kt et es blk (h ▸ k1) k2
    · rw [(hI.fresh j h).2.1] at k2; cases k2
  · intro j blk e tot k1 k2
    exact hI.toks j blk e tot ((ha j) ▸ k1) k2
  · exact fun i j b hi hj => hI.uniq i j b (hown i b hi) (hown j b hj)
  · exact fun i b hi => hI.above i b (hown i b hi)
  · intro i hi
    have hi' : st.alive i = true := (ha i) ▸ hi
    rcases hnew i with h | h
    · exact h.trans (hI.disj i hi')
    · rw [(hI.fresh i h).2.2.2.2] at hi'; cases hi'
  · intro j T k
    exact hI.tys j T (by simpa only [St.ty, hy] using k)
  · intro j T k
    exact hI.ttys j T (by simpa only [St.tty, hy] using k)
  · exact ⟨by omega, fun j hj k1 k2 => ⟨k1, k2, h1 j (.inl hj)⟩⟩

theorem Inv.comesMap {B : Nat} {w0 w w' : World} {Γ : Ghost} {st : St} (h : Inv B w0 Γ st w) (t : Touch w w' w.heap.size) {i : Nat} {kt et : TypeId} (hg : st.get i = some (.map kt et [])) (ho : Γ.mp i = none)
    (hc : w'.heap[w.heap.size]? = some (.map #[] 0)) : Inv B w0 (Γ.addMp i w.heap.size) st w' := by
  have hle : Γ.Le (Γ.addMp i w.heap.size) := Ghost.le_addMp ho
  have hlt : i < st.next := by
    rcases Nat.lt_or_ge i st.next with k | k
    · exact k
    · rw [(h.fresh i k).2.2.2.1] at hg; cases hg
  have hna : st.alive i = false := by
    cases ha : st.alive i with
    | false => rfl
    | true => rw [h.disj i ha] at hg; cases hg
  refine h.change i w.heap.size hle (.inl rfl) t.other t.size t.os t.tape t.out ?_ ?_ ?_ ?_ ?_ ?_ ?_ ?_ (.inl (by omega))
  · exact fun b o v k => .inr ⟨Nat.ne_of_lt (h.inert_lt k), k⟩
  · intro j hj
    obtain ⟨h1, h2, h3, h4, h5⟩ := h.fresh j hj
    refine ⟨h1, ?_, h3, h4, h5⟩
    simp only [Ghost.addMp]; rw [if_neg (by omega)]; exact h2
  · intro j h1 h2
    refine ⟨.inl rfl, .inl rfl, rfl, ?_, rfl⟩
    simp only [Ghost.addMp]; rw [if_neg h1]
  · rintro j hj sz1 xs1 b bs sz' tot1 k1 k2
    rcases hj with rfl | rfl
    · rw [hg] at k1; cases k1
    · rw [h.noGet] at k1; cases k1
  · rintro j hj kt' et' es k1
    rcases hj with rfl | rfl
    · rw [hg] at k1; cases k1
      refine ⟨by simp [Ghost.addMp], #[], ⟨0, rfl⟩, hc, rfl, fun i k v hi => ?_⟩
      simp at hi
    · rw [h.noGet] at k1; cases k1
  · rintro j hj b e tot k1 k2
    rcases hj with rfl | rfl
    · rw [hna] at k1; cases k1
    · rw [h.noAlive] at k1; cases k1
  · rintro j hj k
    rcases hj with rfl | rfl
    · rw [hna] at k; cases k
    · rw [h.noAlive] at k; cases k
  · intro b1 _ o2
    rcases o2 with ⟨sz1, xs1, bs1, sz', tot1, k1, _⟩ | ⟨kt, et, es, k1, _⟩ | ⟨k1, _⟩
    · rw [h.noGet] at k1; cases k1
    · rw [h.noGet] at k1; cases k1
    · rw [h.noAlive] at k1; cases k1

theorem slice_comes (hE : ∀ t y, E.ty t = some y → TyOk P t y) {B : Nat} {w0 w : World} {Γ : Ghost} {st : St} (hI : Inv B w0 Γ st w) {t : TypeId} {lit : Bool} {l c v : AV} {lv cv : Value} {i : Nat}
    (hm : makePre E i lit t l c = some v) (hl : R Γ l lv) (hc : R Γ c cv)
    (hg : ∀ ty a et sz n, E.ty t = some ty → ty.d = .slice a → E.ty a = some et → v = .sl sz i 0 n → st.get i = some (.row sz (List.replicate n et.zeroV))) (ho : Γ.obj i = none) :
    ∃ u w' Γ', (Instr.makeSlice t lv cv).run P w = .ok u w' ∧ Γ.Le Γ' ∧ (∀ j, j ≠ i → Γ'.obj j = Γ.obj j) ∧ Γ'.mp = Γ.mp ∧ Inv B w0 Γ' st w' ∧ R Γ' v u := by
  unfold makePre at hm
  split at hm
  · cases hm
  · rename_i ty ht
    obtain ⟨U, i', z', hu, _, _, g1, _⟩ := (hE t ty ht).ex
    have gi := tdOf_inv g1
    split at hm
    · rename_i e l c hd
      have hgg := hg ty e
      rw [hd] at gi; simp only [TDIs] at gi; subst gi
      simp only [R] at hl hc; subst hl; subst hc
      split at hm
      · cases hm
      · rename_i et he
        obtain ⟨ei, ez, hei, hez, hes, heb, hzs, hzo, hzr⟩ := (hE e et he).zero
        split at hm
        · rename_i hcond
          obtain ⟨⟨hsz, h0, hlc, hroom⟩, _⟩ := hcond
          cases hm
          have hgi := hgg et et.size l.toNat ht hd he rfl
          simp only [roomA, Bool.and_eq_true, decide_eq_true_eq] at hroom
          have hbytes : (ei.bytes : Int) * c ≤ 281474976710656 := by
            have hc' : (c.toNat : Int) = c := Int.toNat_of_nonneg (by omega)
            rw [← hc', heb, Int.mul_comm, ← Int.natCast_mul]
            omega
          have hrun := run_make (P := P) w t e ei ez hu hei hez .i64 .i64 l c h0 hlc hbytes (by omega)
          have hat := alloc_at w (.cells (madeCells ez.cells (c.toNat * ei.size)) e)
          have hsz' : (madeCells ez.cells (c.toNat * ei.size)).size = c.toNat * et.size := by rw [size_madeCells, hes]
          have hre : RE Γ (List.replicate l.toNat et.zeroV) (fun k => (madeCells ez.cells (c.toNat * ei.size))[k]?) 0 et.size :=
            zeros_RE (hzr Γ) hzo hzs hsz (m := c.toNat) (by omega) (fun k hk => by rw [made_get (by rw [hes]; exact hk) (by omega), hzs])
          have hle : Γ.Le (Γ.addObj i (w.heap.size, 0, et.size, c.toNat)) := Ghost.le_addObj ho
          refine ⟨_, _, _, hrun, hle, fun j hj => ?_, rfl, hI.comes (Touch.alloc w _) hgi ho hat hsz (tot := c.toNat) (by simp; omega) (by rw [hsz']; exact Nat.le_refl _) hre, ?_⟩
          · simp only [Ghost.addObj]; rw [if_neg hj]
          · simp only [R]
            exact ⟨w.heap.size, 0, c.toNat, 0, c.toNat, by simp [Ghost.addObj], rfl, by omega, .inr ⟨by simp, by omega⟩⟩
        · cases hm
    · cases hm

theorem map_comes (hE : ∀ t y, E.ty t = some y → TyOk P t y) {B : Nat} {w0 w : World} {Γ : Ghost} {st : St} (hI : Inv B w0 Γ st w) {t : TypeId} {v : AV} {i : Nat} (hm : mapPre E i t = some v)
    (hg : ∃ kt et, st.get i = some (.map kt et [])) (ho : Γ.mp i = none) :
    ∃ u w' Γ', (Instr.makeMap t none).run P w = .ok u w' ∧ Γ.Le Γ' ∧ Γ'.obj = Γ.obj ∧ (∀ j, j ≠ i → Γ'.mp j = Γ.mp j) ∧ Inv B w0 Γ' st w' ∧ R Γ' v u := by
  have hv : v = .map i := by
    unfold mapPre at hm
    split at hm
    · split at hm
      · cases hm; rfl
      · cases hm
    · cases hm
  subst hv
  obtain ⟨kt, et, hg⟩ := hg
  have hat := alloc_at w (.map #[] 0)
  have hle : Γ.Le (Γ.addMp i w.heap.size) := Ghost.le_addMp ho
  refine ⟨.map (some w.heap.size), w.alloc (.map #[] 0), _, by simp [Instr.makeMap], hle, rfl, fun j hj => ?_, hI.comesMap (Touch.alloc w _) hg ho hat, ?_⟩
  · simp only [Ghost.addMp]; rw [if_neg hj]
  · simp only [R]
    exact ⟨w.heap.size, by simp [Ghost.addMp], rfl⟩

theorem alloc_comes (hE : ∀ t y, E.ty t = some y → TyOk P t y) {B : Nat} {w0 w : World} {Γ : Ghost} {st : St} (hI : Inv B w0 Γ st w) {t : TypeId} {ty : Ty} {i : Nat}
    (ht : E.ty t = some ty) (hsz : 0 < ty.size) (hg : st.get i = some (.row ty.size [ty.zeroV])) (ho : Γ.obj i = none) :
    ∃ u w', (Instr.alloc t true (.tuple #[])).run P w = .ok u w' ∧ Inv B w0 (Γ.addObj i (w.heap.size, 0, ty.size, 1)) st w' ∧ R (Γ.addObj i (w.heap.size, 0, ty.size, 1)) (.ptr i 0 0) u := by
  obtain ⟨inf, z, hi, hz, hs, _, hzs, hzo, hzr⟩ := (hE t ty ht).zero
  have hat := alloc_at w (.cells z.cells t)
  refine ⟨.pointer (some ⟨w.heap.size, 0, none⟩), w.alloc (.cells z.cells t), ?_, hI.comes (Touch.alloc w _) hg ho hat hsz (Nat.le_refl 1) (by rw [Nat.one_mul, hzs]; exact Nat.le_refl _) (RE.one (hzr Γ) hzo hzs ?_), ?_⟩
  · simp [Instr.alloc, run_zero hi hz, newVar, newRow]
  · intro j v hj
    show z.cells[0 + j]? = some v
    rw [Nat.zero_add, ← Array.getElem?_toList]; exact hj
  · simp only [R]
    exact ⟨w.heap.size, 0, ty.size, 1, by simp [Ghost.addObj], by simp⟩

def isPend (fl : Bool) : Op → Bool
  | .alloc _ => true
  | op => fl && isMake op
theorem pend_turns {fl : Bool} {op : Op} (h : isPend fl op = true) : turns fl op = false := by
  unfold isPend at h
  split at h
  · rfl
  · unfold turns
    split
    · rfl
    · rw [h]; simp
structure DI (E : Env) (base : Nat) (fl : Bool) (ops : Array Oper) (l : List Tr) (tm : TM) (st : St) (B : Nat) (w0 : World) (Γ0 : Ghost) (stO : St) (ds : List Deferred) (S : Nat → Bool) (k : Nat) (Γ : Ghost) (a : Act) (w : World) : Prop where
  closed : Closed ops S
  upto : UpTo fl ops S k
  out : Out B w0 Γ0 stO Γ (stA st l k) w
  tmps : RT Γ (tmS S (dsOf ops.toList l) 0 tm) a.tmps
  defers : a.defers = ds
  low : base + ops.size ≤ (stA st l k).next
  pend : ∀ (i : Nat) (o : Oper), ops[i]? = some o → isPend fl o.op = true → S i = false → Γ.obj (base + i) = none ∧ Γ.mp (base + i) = none ∧ (stA st l k).get (base + i) = st.get (base + i)

structure Laid (E : Env) (base : Nat) (fl : Bool) (ops : Array Oper) (l : List Tr) (st : St) : Prop where
  alloc : ∀ (i : Nat) (o : Oper) (t : TypeId), ops[i]? = some o → o.op = .alloc t → ∃ ty, E.ty t = some ty ∧ 0 < ty.size ∧ st.get (base + i) = some (.row ty.size [ty.zeroV])
  make : ∀ (i : Nat) (o : Oper) (e : Tr), ops[i]? = some o → l[i]? = some e → fl = true → makeOk E base st i o e = true

theorem makeOk_slice {E : Env} {base : Nat} {st : St} {i : Nat} {o : Oper} {e : Tr} (h : makeOk E base st i o e = true) (hd : e.did = true) {t : TypeId} {x y : Operand} (ho : o.op = .makeSlice t x y) :
    ∀ ty a et sz b n, E.ty t = some ty → ty.d = .slice a → E.ty a = some et → e.v = .sl sz b 0 n → st.get (base + i) = some (.row sz (List.replicate n et.zeroV)) := by
  intro ty a et sz b n h1 h2 h3 h4
  unfold makeOk at h
  rw [hd, ho, h4] at h
  simp only [Bool.not_true, Bool.false_or, h1, h2, h3] at h
  split at h
  · rename_i ty' sz' xs hty hg
    cases hty
    rw [h2] at h
    simp only [h3, Bool.and_eq_true, beq_iff_eq] at h
    rw [hg, h.1, AV.eqL_of_beq _ _ h.2]
  · cases h
theorem makeOk_map {E : Env} {base : Nat} {st : St} {i : Nat} {o : Oper} {e : Tr} (h : makeOk E base st i o e = true) (hd : e.did = true) {t : TypeId} (ho : o.op = .makeMap t none) : ∃ kt et, st.get (base + i) = some (.map kt et []) := by
  unfold makeOk at h
  rw [hd, ho] at h
  simp only [Bool.not_true, Bool.false_or] at h
  split at h
  · rename_i ty' kt' et' es hty hg
    split at h
    · simp only [Bool.and_eq_true, beq_iff_eq, List.isEmpty_iff] at h
      exact ⟨kt', et', by rw [hg, h.2]⟩
    · cases h
  · cases h
theorem Made_looks {E : Env} {b : Nat} {ops : Array Oper} {tm tm' : TM} {o : Oper} {v : AV} (h : ∀ t ∈ o.looksAt ops, tm.get t = tm'.get t) (hm : Made E b tm' o v) : Made E b tm o v := by
  have hx : ∀ x ∈ o.op.operands, evalO tm x = evalO tm' x := fun _ hx => evalO_congr fun t e => h t (looks_of_mem (e ▸ hx))
  unfold Made at hm ⊢
  split at hm
  · rename_i t l c ho
    rw [ho] at hx
    rw [hx l (by simp [Op.operands]), hx c (by simp [Op.operands])]
    exact hm
  · exact hm
  · exact hm.elim

theorem DI.step (hE : EnvOk P E) {B : Nat} {w0 : World} (hcall : CallsOk P B w0 call) (F : Facts E call base fl pol ops l tm st) (hL : Laid E base fl ops l st) {Γ0 : Ghost} {stO : St} {ds : List Deferred} (hbase : base = stO.next)
    {S : Nat → Bool} {k : Nat} {Γ : Ghost} {a : Act} {w : World} (D : DI E base fl ops l tm st B w0 Γ0 stO ds S k Γ a w) {j : Nat} {o : Oper} (hj : ops[j]? = some o) (hSj : S j = false)
    (hr : ∀ e ∈ o.after, Region.binds .any e = true → S e.on = true) {Q : Exit → Act → World → Prop} {K : Act → World → Prop}
    (hK : ∀ k' Γ' a' w', DI E base fl ops l tm st B w0 Γ0 stO ds (fun m => m == j || S m) k' Γ' a' w' → K a' w') : wpOp P ops Q j K a w := by
  have hlt : j < ops.size := (Array.getElem?_eq_some_iff.1 hj).1
  obtain ⟨e, he⟩ := F.tr j o hj
  have hnames := names_same F D.closed hj hSj hr he
  have hlooks : ∀ t ∈ o.looksAt ops, (tmS S (dsOf ops.toList l) 0 tm).get t = e.tm.get t := fun t ht => hnames t (List.mem_append_right _ ht)
  have hput := put_same F D.closed hj hSj he.at_
  have hclosed := D.closed.add F hj hr
  have hpend : ∀ i (o : Oper), ops[i]? = some o → isPend fl o.op = true → (i == j || S i) = false → i ≠ j ∧ S i = false := fun i o _ _ h => by
    simp only [Bool.or_eq_false_iff, beq_eq_false_iff_ne] at h; exact h
  have hwant : wantedA ops (tmS S (dsOf ops.toList l) 0 tm) o = some e.did := by rw [wanted_looks hlooks]; exact he.did
  unfold wpOp
  simp only [hj]
  rw [wanted_sound D.tmps hwant]
  cases hdid : e.did with
  | false =>
    simp only [Bool.false_eq_true, if_false]
    obtain ⟨hv, hnow⟩ := he.not hdid
    have htm : RT Γ (tmS (fun m => m == j || S m) (dsOf ops.toList l) 0 tm) (a.put o.dst undef).tmps := by
      rw [hv] at hput; exact (D.tmps.put o.dst (undef_R Γ)).same hput.symm
    cases ht : turns fl o.op with
    | false =>
      exact hK k Γ _ w ⟨hclosed, D.upto.add hj ht, D.out, htm, by rw [put_defers]; exact D.defers, D.low, fun i p hi hp hs => D.pend i p hi hp (hpend i p hi hp hs).2⟩
    | true =>
      obtain ⟨hst, hup⟩ := turn_state F D.closed D.upto hj hSj hr ht
      have hs2 : stA st l (j + 1) = stA st l k := by rw [hst, ← he.now, ← he.was]; exact hnow
      exact hK (j + 1) Γ _ w ⟨hclosed, hup, hs2 ▸ D.out, htm, by rw [put_defers]; exact D.defers, hs2 ▸ D.low, fun i p hi hp hs => hs2 ▸ D.pend i p hi hp (hpend i p hi hp hs).2⟩
  | true =>
    simp only [if_true]
    refine .inl ?_
    have hdone := he.done hdid
    rw [Nat.zero_add] at hdone
    rcases stepPre_cases hdone with ⟨t, hop, hres⟩ | ⟨hfl, hmk, v, hres, hmade⟩ | ⟨hna, hnm, hstep⟩
    · have hpe : isPend fl o.op = true := by rw [hop]; rfl
      have ht := pend_turns hpe
      obtain ⟨p1, p2, p3⟩ := D.pend j o hj hpe hSj
      obtain ⟨ty, hty, hsz, p4⟩ := hL.alloc j o t hj hop
      obtain ⟨u, w', hrun, hinv, hru⟩ := alloc_comes hE.ty D.out.inv hty hsz (p3.trans p4) p1
      have hv : e.v = .ptr (base + j) 0 0 := congrArg Prod.fst hres
      have hex : (execOp a.eval o).run P w = .ok (.value u) w' := by
        have : execOp a.eval o = (do pure (Next.value (← Instr.alloc t true (.tuple #[]))) : Sem Next) := by
          obtain ⟨dst, op, ty, pos, after, guard⟩ := o
          dsimp only at hop; subst hop; rfl
        rw [this]
        simp only [Sem.run_bind, hrun, Result.andThen_ok, Sem.run_pure]
      unfold Oper.wp
      rw [hex]
      have hle : Γ.Le (Γ.addObj (base + j) (w.heap.size, 0, ty.size, 1)) := Ghost.le_addObj p1
      refine hK k _ _ w' ⟨hclosed, D.upto.add hj ht, ⟨D.out.le.trans hle, hinv, ⟨D.out.keep.1, fun i hi k1 k2 => ?_⟩⟩, ?_, by rw [put_defers]; exact D.defers, D.low, fun i p hi hp hs => ?_⟩
      · obtain ⟨x1, x2, x3⟩ := D.out.keep.2 i hi k1 k2
        refine ⟨?_, x2, x3⟩
        simp only [Ghost.addObj]
        rw [if_neg (by omega)]; exact x1
      · rw [hv] at hput
        exact ((RT.mono hle D.tmps).put o.dst hru).same hput.symm
      · obtain ⟨hne, hs'⟩ := hpend i p hi hp hs
        obtain ⟨y3, y4, y5⟩ := D.pend i p hi hp hs'
        refine ⟨?_, y4, y5⟩
        simp only [Ghost.addObj]
        rw [if_neg (by omega)]; exact y3
    · have hpe : isPend fl o.op = true := by
        unfold isPend
        split
        · rfl
        · rw [hfl, hmk]; rfl
      have ht := pend_turns hpe
      obtain ⟨p1, p2, p3⟩ := D.pend j o hj hpe hSj
      have hok := hL.make j o e hj he.at_ hfl
      have hv : e.v = v := congrArg Prod.fst hres
      have hmade2 := Made_looks hlooks hmade
      have done : ∀ (u : Value) (w' : World) (Γ' : Ghost), (execOp a.eval o).run P w = .ok (.value u) w' → Γ.Le Γ' → (∀ i, i ≠ base + j → Γ'.obj i = Γ.obj i) → (∀ i, i ≠ base + j → Γ'.mp i = Γ.mp i) → Inv B w0 Γ' (stA st l k) w' → R Γ' v u → o.wp P a w K Q := by
        intro u w' Γ' hex hle ho hm hinv hru
        unfold Oper.wp
        rw [hex]
        refine hK k _ _ w' ⟨hclosed, D.upto.add hj ht, ⟨D.out.le.trans hle, hinv, ⟨D.out.keep.1, fun i hi k1 k2 => ?_⟩⟩, ?_, by rw [put_defers]; exact D.defers, D.low, fun i p hi hp hs => ?_⟩
        · obtain ⟨x1, x2, x3⟩ := D.out.keep.2 i hi k1 k2
          exact ⟨(ho i (by omega)).trans x1, (hm i (by omega)).trans x2, x3⟩
        · rw [hv] at hput
          exact ((RT.mono hle D.tmps).put o.dst hru).same hput.symm
        · obtain ⟨hne, hs'⟩ := hpend i p hi hp hs
          obtain ⟨y3, y4, y5⟩ := D.pend i p hi hp hs'
          exact ⟨(ho _ (by omega)).trans y3, (hm _ (by omega)).trans y4, y5⟩
      unfold Made at hmade2
      split at hmade2
      · rename_i t x y hop
        obtain ⟨u, w', Γ', hrun, hle, ho, hm, hinv, hru⟩ := slice_comes hE.ty D.out.inv hmade2 (D.tmps.eval x) (D.tmps.eval y) (fun ty b et sz n q1 q2 q3 q4 => p3.trans (makeOk_slice hok hdid hop ty b et sz _ n q1 q2 q3 (hv.trans q4))) p1
        refine done u w' Γ' ?_ hle ho (fun i _ => by rw [hm]) hinv hru
        have : execOp a.eval o = (do pure (Next.value (← Instr.makeSlice t (a.eval x) (a.eval y))) : Sem Next) := by
          obtain ⟨dst, op, ty, pos, after, guard⟩ := o
          dsimp only at hop; subst hop; rfl
        rw [this]
        simp only [Sem.run_bind, hrun, Result.andThen_ok, Sem.run_pure]
      · rename_i t hop
        obtain ⟨kt, et, hg⟩ := makeOk_map hok hdid hop
        obtain ⟨u, w', Γ', hrun, hle, ho, hm, hinv, hru⟩ := map_comes hE.ty D.out.inv hmade2 ⟨kt, et, p3.trans hg⟩ p2
        refine done u w' Γ' ?_ hle (fun i _ => by rw [ho]) hm hinv hru
        have : execOp a.eval o = (do pure (Next.value (← Instr.makeMap t none)) : Sem Next) := by
          obtain ⟨dst, op, ty, pos, after, guard⟩ := o
          dsimp only at hop; subst hop; rfl
        rw [this]
        simp only [Sem.run_bind, hrun, Result.andThen_ok, Sem.run_pure]
      · exact hmade2.elim
    · have hal : ¬ ∃ t, o.op = .alloc t := fun ⟨t, h⟩ => hna t h
      have fin : ∀ (k' : Nat), UpTo fl ops (fun m => m == j || S m) k' → stepOp E call (pol j) (tmS S (dsOf ops.toList l) 0 tm) (stA st l k) o = some (e.v, stA st l k') →
          (o.wp P a w K Q) := by
        intro k' hup hs
        refine step_sound hE hcall D.out.inv D.tmps hs fun u w' Γ' o1 r1 => ?_
        refine hK k' Γ' _ w' ⟨hclosed, hup, D.out.trans o1, ?_, by rw [put_defers]; exact D.defers, Nat.le_trans D.low o1.keep.1, fun i p hi hp hs => ?_⟩
        · exact ((RT.mono o1.le D.tmps).put o.dst r1).same hput.symm
        · obtain ⟨hne, hs'⟩ := hpend i p hi hp hs
          obtain ⟨y3, y4, y5⟩ := D.pend i p hi hp hs'
          have hil : i < ops.size := (Array.getElem?_eq_some_iff.1 hi).1
          obtain ⟨z1, z2, z3⟩ := o1.keep.2 (base + i) (by have := D.low; omega) y3 y4
          exact ⟨z1, z2, z3.trans y5⟩
      cases ht : turns fl o.op with
      | true =>
        obtain ⟨hst, hup⟩ := turn_state F D.closed D.upto hj hSj hr ht
        refine fin (j + 1) hup ?_
        rw [step_looks hlooks, hst, ← he.now, ← he.was]
        exact hstep
      | false =>
        refine fin k (D.upto.add hj ht) ?_
        have hl : isLoud o.op = false := turns_quiet ht hna hnm
        have hq := quiet_same F D.closed D.upto hj hSj hr hl he hdid
        unfold stepOp
        rw [hl]
        simp only [Bool.false_eq_true, if_false]
        rw [quiet_looks hlooks, hq]
        rfl
end
end Go.Abs

namespace Go.Abs
open Go.RowKit

theorem count_set : ∀ (l : List Bool) (j : Nat), l[j]? = some false → (l.set j true).count false + 1 = l.count false
  | [], j, h => by simp at h
  | b :: l, 0, h => by
    simp only [List.getElem?_cons_zero, Option.some.injEq] at h
    subst h
    simp
  | b :: l, j + 1, h => by
    have := count_set l j (by simpa using h)
    simp only [List.set_cons_succ, List.count_cons]
    omega

section
variable {P : Program} {E : Env} {call : Call1} {base : Nat} {fl : Bool} {pol : Nat → Nat} {ops : Array Oper} {l : List Tr} {tm : TM} {st : St}

theorem all_listed (F : Facts E call base fl pol ops l tm st) {listed : Array Bool} (hs : listed.size = ops.size) (hr : Region.ready .any ops listed = []) : ∀ j, j < ops.size → listed.getD j false = true := by
  intro j
  induction j using Nat.strongRecOn with
  | ind j ih =>
    intro hj
    cases hb : listed.getD j false with
    | true => rfl
    | false =>
      have hm : j ∈ Region.ready .any ops listed := by
        rw [mem_ready]
        refine ⟨?_, ops[j], Array.getElem?_eq_getElem hj, fun e he hb => ih e.on (F.edges j _ (Array.getElem?_eq_getElem hj) e he hb) ?_⟩
        · rw [Array.getD_eq_getD_getElem?] at hb ⊢
          rw [Array.getElem?_eq_getElem (by omega)] at hb ⊢
          exact hb
        · have := F.edges j _ (Array.getElem?_eq_getElem hj) e he hb
          omega
      rw [hr] at hm; cases hm

theorem draw_any (hE : EnvOk P E) {B : Nat} {w0 : World} (hcall : CallsOk P B w0 call) (F : Facts E call base fl pol ops l tm st) (hL : Laid E base fl ops l st) {Γ0 : Ghost} {stO : St} {ds : List Deferred} (hbase : base = stO.next)
    {Q : Exit → Act → World → Prop}
    (hQ : ∀ Γ' a' w', Out B w0 Γ0 stO Γ' (stA st l l.length) w' → RT Γ' (tmS (fun _ => true) (dsOf ops.toList l) 0 tm) a'.tmps → a'.defers = ds → Q .normal a' w') :
    ∀ (fuel : Nat) (listed : Array Bool) (k : Nat) (Γ : Ghost) (a : Act) (w : World), listed.size = ops.size → listed.toList.count false ≤ fuel →
      DI E base fl ops l tm st B w0 Γ0 stO ds (fun m => listed.getD m false) k Γ a w → wpAny P .any ops Q fuel listed a w := by
  have done : ∀ (listed : Array Bool) (k : Nat) (Γ : Ghost) (a : Act) (w : World), listed.size = ops.size → Region.ready .any ops listed = [] →
      DI E base fl ops l tm st B w0 Γ0 stO ds (fun m => listed.getD m false) k Γ a w → Q .normal a w := by
    intro listed k Γ a w hs hr D
    have hall := all_listed F hs hr
    have hst : stA st l l.length = stA st l k := by
      rw [F.len]
      have := state_same F (a := k) (ops.size - k) (by have := D.upto.1; omega) fun i o h1 h2 ho => by
        cases ht : turns fl o.op with
        | false => rfl
        | true =>
          have := (D.upto.2 i o ho ht).1 (hall i (by omega))
          omega
      rw [Nat.add_sub_cancel' D.upto.1] at this
      exact this
    refine hQ Γ a w (hst ▸ D.out) ?_ D.defers
    have : Same (tmS (fun _ => true) (dsOf ops.toList l) 0 tm) (tmS (fun m => listed.getD m false) (dsOf ops.toList l) 0 tm) := by
      refine ⟨by rw [tmS_n, tmS_n], fun t => tmS_at _ 0 tm tm rfl rfl fun j v hj => ?_⟩
      obtain ⟨o, e, h1, _, _⟩ := ds_get hj
      rw [Nat.zero_add]
      exact (hall j (Array.getElem?_eq_some_iff.1 h1).1).symm
    exact D.tmps.same this.symm
  intro fuel
  induction fuel with
  | zero =>
    intro listed k Γ a w hs hc D
    have hr : Region.ready .any ops listed = [] := by
      cases hr : Region.ready .any ops listed with
      | nil => rfl
      | cons j r =>
        have hm : j ∈ Region.ready .any ops listed := by rw [hr]; simp
        obtain ⟨h1, o, h2, _⟩ := mem_ready.1 hm
        have hlt : j < listed.size := by rw [hs]; exact (Array.getElem?_eq_some_iff.1 h2).1
        rw [Array.getD_eq_getD_getElem?, Array.getElem?_eq_getElem hlt] at h1
        have : false ∈ listed.toList := by
          have h1' : listed[j] = false := h1
          rw [← h1']
          simp
        have := List.count_pos_iff.2 this
        omega
    exact ⟨hr, done listed k Γ a w hs hr D⟩
  | succ fuel ih =>
    intro listed k Γ a w hs hc D
    refine ⟨fun hr => done listed k Γ a w hs hr D, fun j hj => ?_⟩
    obtain ⟨h1, o, h2, h3⟩ := mem_ready.1 hj
    have hlt : j < ops.size := (Array.getElem?_eq_some_iff.1 h2).1
    have hf : listed[j]? = some false := by
      rw [Array.getD_eq_getD_getElem?, Array.getElem?_eq_getElem (by omega)] at h1
      rw [Array.getElem?_eq_getElem (by omega)]
      exact congrArg some h1
    have hfun : (fun m => m == j || listed.getD m false) = fun m => (listed.setIfInBounds j true).getD m false := by
      funext m
      simp only [Array.getD_eq_getD_getElem?, Array.getElem?_setIfInBounds]
      by_cases h : j = m
      · subst h
        rw [if_pos rfl, if_pos (by omega)]
        simp
      · rw [if_neg h]
        have : (m == j) = false := by simp; omega
        rw [this, Bool.false_or]
    refine D.step hE hcall F hL hbase h2 (by rw [Array.getD_eq_getD_getElem?, hf]; rfl) h3 fun k' Γ' a' w' D' => ?_
    rw [hfun] at D'
    refine ih _ k' Γ' a' w' (by simpa using hs) ?_ D'
    have := count_set listed.toList j (by simpa using hf)
    rw [Array.toList_setIfInBounds]
    omega

theorem fill_ok {base : Nat} : ∀ (r : List Oper) (l : List Tr) (i : Nat) (st : St), (fillMakes E base r l i st).next = st.next ∧ (fillMakes E base r l i st).toks = st.toks ∧ (fillMakes E base r l i st).tys = st.tys ∧
    (∀ b, (b < base + i ∨ base + i + r.length ≤ b) → (fillMakes E base r l i st).get b = st.get b) ∧
    (∀ (k : Nat) (o : Oper) (t : TypeId), r[k]? = some o → o.op = .alloc t → (fillMakes E base r l i st).get (base + (i + k)) = st.get (base + (i + k)))
  | [], l, i, st => by simp [fillMakes]
  | o :: r, [], i, st => by simp [fillMakes]
  | o :: r, e :: l, i, st => by
    have keep : ∀ st1 : St, st1.next = st.next → st1.toks = st.toks → st1.tys = st.tys → (∀ b, b ≠ base + i → st1.get b = st.get b) → ((∀ t, o.op ≠ .alloc t) ∨ st1 = st) →
        (fillMakes E base r l (i + 1) st1).next = st.next ∧ (fillMakes E base r l (i + 1) st1).toks = st.toks ∧ (fillMakes E base r l (i + 1) st1).tys = st.tys ∧
        (∀ b, (b < base + i ∨ base + i + (o :: r).length ≤ b) → (fillMakes E base r l (i + 1) st1).get b = st.get b) ∧
        (∀ (k : Nat) (p : Oper) (t : TypeId), (o :: r)[k]? = some p → p.op = .alloc t → (fillMakes E base r l (i + 1) st1).get (base + (i + k)) = st.get (base + (i + k))) := by
      intro st1 h1 h2 h3 h4 h5
      obtain ⟨a1, a2, a3, a4, a5⟩ := fill_ok (base := base) r l (i + 1) st1
      refine ⟨a1.trans h1, a2.trans h2, a3.trans h3, fun b hb => ?_, fun k p t hk hp => ?_⟩
      · simp only [List.length_cons] at hb
        rw [a4 b (by omega), h4 b (by omega)]
      · cases k with
        | zero =>
          simp only [List.getElem?_cons_zero, Option.some.injEq] at hk
          subst hk
          rcases h5 with h5 | h5
          · exact absurd hp (h5 t)
          · subst h5
            rw [a4 _ (by omega)]
        | succ k =>
          have e1 : i + (k + 1) = i + 1 + k := by omega
          rw [e1, a5 k p t (by simpa using hk) hp, h4 _ (by omega)]
    have same := keep st rfl rfl rfl (fun _ _ => rfl) (.inr rfl)
    have put : ∀ ob : AObj, (∀ t, o.op ≠ .alloc t) → _ := fun ob hn => keep (st.put (base + i) ob) rfl rfl rfl (fun b hb => by rw [St.get_put, if_neg (Ne.symm hb)]) (.inl hn)
    unfold fillMakes
    split
    · rename_i t _ _ sz _ _ n ho _
      split
      · split
        · split
          · exact put _ (fun t h => by rw [ho] at h; cases h)
          · exact same
        · exact same
      · exact same
    · rename_i t _ ho _
      split
      · split
        · exact put _ (fun t h => by rw [ho] at h; cases h)
        · exact same
      · exact same
    · exact same
theorem makes_spec {base : Nat} {st : St} : ∀ (r : List Oper) (l : List Tr) (i : Nat), makesOk E base st r l i = true → ∀ (k : Nat) (o : Oper) (e : Tr), r[k]? = some o → l[k]? = some e → makeOk E base st (i + k) o e = true
  | [], _, _, _, k, o, e, h, _ => by simp at h
  | _ :: _, [], _, _, k, o, e, _, h => by simp at h
  | o :: r, e :: l, i, h, k, p, q, hk, hl => by
    simp only [makesOk, Bool.and_eq_true] at h
    cases k with
    | zero =>
      simp only [List.getElem?_cons_zero, Option.some.injEq] at hk hl
      subst hk; subst hl
      exact h.1
    | succ k =>
      have := makes_spec r l (i + 1) h.2 k p q (by simpa using hk) (by simpa using hl)
      rw [show i + (k + 1) = i + 1 + k by omega]; exact this

theorem draw_sound (hE : EnvOk P E) {B : Nat} {w0 : World} (hcall : CallsOk P B w0 call) {st st' st2 : St} {Γ : Ghost} {w : World} {a : Act} {tm tm' : TM} {l : List Tr}
    (hI : Inv B w0 Γ st w) (hF : RT Γ tm a.tmps) (hs : drawStatic fl ops = true) (hn : st2.next = st.next + ops.size) (htk : st2.toks = st.toks) (hty : st2.tys = st.tys)
    (p1 : ∀ b, (b < st.next ∨ st.next + ops.size ≤ b) → st2.get b = st.get b)
    (p2 : ∀ (i : Nat) (o : Oper) (t : TypeId), ops[i]? = some o → o.op = .alloc t → ∃ ty, E.ty t = some ty ∧ 0 < ty.size ∧ st2.get (st.next + i) = some (.row ty.size [ty.zeroV]))
    (hr : runOpsT E call (some (st.next, fl)) pol ops ops.toList 0 tm st2 = some (l, (tm', st'))) (hd : (dynPairs fl ops).all (dynOk E ops l) = true) (hm : fl = true → makesOk E st.next st2 ops.toList l 0 = true) {Q : Exit → Act → World → Prop} {id : Nat}
    (hQ : ∀ Γ' a' w', Out B w0 Γ st Γ' st' w' → RT Γ' tm' a'.tmps → a'.defers = a.defers → Q .normal a' w') : (Code.region id ops true).wp P Q a w := by
  refine wp_region_any hE.mixed ?_
  have F := Facts.mk' hs hr hd
  have hL : Laid E st.next fl ops l st2 := ⟨p2, fun i o e h1 h2 h3 => by
    have := makes_spec _ _ _ (hm h3) i o e (by simpa using h1) h2
    rwa [Nat.zero_add] at this⟩
  obtain ⟨_, h2, h3, _⟩ := runOpsT_ok _ _ _ _ hr
  have o1 := (hI.drawn (w.drawn + 1)).pre (n := ops.size) hn htk hty p1
  dsimp only at h2 h3
  refine draw_any hE hcall F hL (ds := a.defers) (Γ0 := Γ) (stO := st) rfl (fun Γ' a' w' q1 q2 q3 => hQ Γ' a' w' (by rw [h3]; exact q1) (by rw [h2]; exact q2) q3) ops.size _ 0 Γ a _ (by simp) (by simp) ?_
  have hS : (fun m => (Array.replicate ops.size false).getD m false) = fun _ => false := by
    funext m
    simp only [Array.getD_eq_getD_getElem?, Array.getElem?_replicate]
    split <;> rfl
  rw [hS]
  refine ⟨fun i j h => (by cases h), ⟨Nat.zero_le _, fun i o _ _ => by simp⟩, ?_, ?_, rfl, ?_, fun i o hi _ _ => ?_⟩
  · rw [stA_zero]; exact o1
  · rw [tmS_none _ _ _ fun _ _ => rfl]; exact hF
  · rw [stA_zero, hn]; exact Nat.le_refl _
  · rw [stA_zero]
    have hf := hI.fresh (st.next + i) (Nat.le_add_right _ _)
    exact ⟨hf.1, hf.2.1, rfl⟩

theorem region_sound (hE : EnvOk P E) {B : Nat} {w0 : World} (hcall : CallsOk P B w0 call) {st st' : St} {Γ : Ghost} {w : World} {a : Act} {tm tm' : TM} {draw : Bool} {dy : List (Nat × Nat)}
    (hI : Inv B w0 Γ st w) (hF : RT Γ tm a.tmps) (hok : draw = true → drawStatic fl ops = true ∧ dynPairs fl ops = dy) (h : execReg E call pol dy fl ops draw tm st = some (tm', st')) {Q : Exit → Act → World → Prop} {id : Nat}
    (hQ : ∀ Γ' a' w', Out B w0 Γ st Γ' st' w' → RT Γ' tm' a'.tmps → a'.defers = a.defers → Q .normal a' w') : (Code.region id ops draw).wp P Q a w := by
  unfold execReg at h
  cases draw with
  | false =>
    simp only [Bool.false_eq_true, if_false] at h
    exact wp_region_list (runOps_sound hE hcall _ 0 hI hF h hQ)
  | true =>
    obtain ⟨hs, hdy⟩ := hok rfl
    simp only [if_true] at h
    split at h
    · cases h
    · rename_i objs hp
      obtain ⟨p1, p2, _⟩ := preObjs_ok _ 0 hp
      have q1 : ∀ b, (b < st.next ∨ st.next + ops.size ≤ b) → ({ st with next := st.next + ops.size, objs := objs } : St).get b = st.get b := fun b hb => p1 b (by simpa using hb)
      have q2 : ∀ (i : Nat) (o : Oper) (t : TypeId), ops[i]? = some o → o.op = .alloc t → ∃ ty, E.ty t = some ty ∧ 0 < ty.size ∧ ({ st with next := st.next + ops.size, objs := objs } : St).get (st.next + i) = some (.row ty.size [ty.zeroV]) := fun i o t hi hop => by
        obtain ⟨ty, y1, y2, y3⟩ := p2 i o t (by simpa using hi) hop
        rw [Nat.zero_add] at y3
        exact ⟨ty, y1, y2, y3⟩
      cases fl with
      | true =>
        dsimp only at h
        split at h
        · rename_i l1 _ _
          split at h
          · rename_i l q hl
            split at h
            · rename_i hok
              cases h
              simp only [Bool.and_eq_true] at hok
              obtain ⟨f1, f2, f3, f4, f5⟩ := fill_ok (E := E) (base := st.next) ops.toList l1 0 { st with next := st.next + ops.size, objs := objs }
              refine draw_sound hE hcall hI hF hs f1 f2 f3 (fun b hb => (f4 b (by simpa using hb)).trans (q1 b hb)) (fun i o t hi hop => ?_) hl (by rw [hdy]; exact hok.1) (fun _ => hok.2) hQ
              obtain ⟨ty, y1, y2, y3⟩ := q2 i o t hi hop
              have := f5 i o t (by simpa using hi) hop
              rw [Nat.zero_add] at this
              exact ⟨ty, y1, y2, this.trans y3⟩
            · cases h
          · cases h
        · cases h
      | false =>
        dsimp only at h
        split at h
        · obtain ⟨l, hl⟩ := runOps_trace _ _ _ _ h
          exact draw_sound (st2 := { st with next := st.next + ops.size, objs := objs }) hE hcall hI hF hs rfl rfl rfl q1 q2 hl (by rw [hdy]; rfl) (fun h => by cases h) hQ
        · rename_i d ds
          split at h
          · rename_i l q hl
            split at h
            · rename_i hok
              cases h
              exact draw_sound (st2 := { st with next := st.next + ops.size, objs := objs }) hE hcall hI hF hs rfl rfl rfl q1 q2 hl (by rw [hdy]; exact hok) (fun h => by cases h) hQ
            · cases h
          · cases h
end
end Go.Abs

namespace Go.Abs
open Go.RowKit

theorem exists_least (p : Nat → Prop) (h : ∃ n, p n) : ∃ n, p n ∧ ∀ m, p m → n ≤ m := by
  obtain ⟨n, hn⟩ := h
  induction n using Nat.strongRecOn with
  | ind n ih =>
    by_cases hm : ∃ m, m < n ∧ p m
    · obtain ⟨m, h1, h2⟩ := hm
      exact ih m h1 h2
    · exact ⟨n, hn, fun m hp => Nat.le_of_not_lt fun hlt => hm ⟨m, hlt, hp⟩⟩

section
variable {P : Program}

theorem wp_loop_n {c : Code} {Q : Exit → Act → World → Prop} (I : Nat → Act → World → Prop) {n : Nat} {a : Act} {w : World} (h0 : I n a w)
    (round : ∀ n a w, I n a w → c.wp P (Exit.then (fun a' w' => ∃ m, m < n ∧ I m a' w') Q) a w) : (Code.loop c).wp P Q a w := by
  classical
  let J : Act → World → Prop := fun a w => ∃ n, I n a w
  let μ : Act → World → Nat := fun a w => if h : J a w then Classical.choose (exists_least _ h) else 0
  have hμ : ∀ a w (h : J a w), I (μ a w) a w ∧ ∀ m, I m a w → μ a w ≤ m := fun a w h => by
    simp only [μ, dif_pos h]
    exact Classical.choose_spec (exists_least _ h)
  refine wp_loop J μ ⟨n, h0⟩ fun a w hJ => ?_
  obtain ⟨h1, _⟩ := hμ a w hJ
  refine wp_mono (round _ a w h1) fun e a' w' he => ?_
  cases e with
  | normal =>
    obtain ⟨m, hm, hI⟩ := he
    exact ⟨⟨m, hI⟩, Nat.lt_of_le_of_lt ((hμ a' w' ⟨m, hI⟩).2 m hI) hm⟩
  | _ => exact he

def AExit.out : AExit → Exit
  | .normal => .normal
  | .exit i => .exit i
  | .ret => .ret

theorem exec_sound {E : Env} (hE : EnvOk P E) {B : Nat} {w0 : World} {call : Call1} (hcall : CallsOk P B w0 call) {fid : Nat} : ∀ (n : Nat) (c : Code) {Γ : Ghost} {st st' : St} {w : World} {a : Act} {tm tm' : TM} {e : AExit} {Q : Exit → Act → World → Prop},
    Inv B w0 Γ st w → RT Γ tm a.tmps → codeOk (E.dyn fid) (E.mks fid) c = true → exec E call fid n c tm st = some (e, tm', st') →
    (∀ Γ' a' w', Out B w0 Γ st Γ' st' w' → RT Γ' tm' a'.tmps → a'.defers = a.defers → Q e.out a' w') → c.wp P Q a w := by
  intro n
  induction n using Nat.strongRecOn with
  | ind n ih =>
    intro c Γ st st' w a tm tm' e Q hI hF hok h hQ
    cases n with
    | zero => simp [exec] at h
    | succ n =>
      cases c with
      | skip =>
        simp only [exec, Option.some.injEq, Prod.mk.injEq] at h
        obtain ⟨rfl, rfl, rfl⟩ := h
        exact wp_skip (hQ Γ a w ⟨Ghost.Le.refl Γ, hI, Keep.refl Γ st⟩ hF rfl)
      | ret =>
        simp only [exec, Option.some.injEq, Prod.mk.injEq] at h
        obtain ⟨rfl, rfl, rfl⟩ := h
        exact wp_ret (hQ Γ a w ⟨Ghost.Le.refl Γ, hI, Keep.refl Γ st⟩ hF rfl)
      | exit id =>
        simp only [exec, Option.some.injEq, Prod.mk.injEq] at h
        obtain ⟨rfl, rfl, rfl⟩ := h
        exact wp_exit (hQ Γ a w ⟨Ghost.Le.refl Γ, hI, Keep.refl Γ st⟩ hF rfl)
      | region id ops draw =>
        simp only [exec] at h
        split at h
        · rename_i tm1 st1 hr
          simp only [Option.some.injEq, Prod.mk.injEq] at h
          obtain ⟨rfl, rfl, rfl⟩ := h
          refine region_sound hE hcall hI hF (fun hd => ?_) hr hQ
          subst hd
          simpa only [codeOk, Bool.and_eq_true, decide_eq_true_eq] using hok
        · cases h
      | seq x y =>
        simp only [codeOk, Bool.and_eq_true] at hok
        simp only [exec] at h
        refine wp_seq ?_
        split at h
        · rename_i tm1 st1 hx
          refine ih n (Nat.lt_succ_self n) x hI hF hok.1 hx fun Γ1 a1 w1 o1 f1 d1 => ?_
          exact ih n (Nat.lt_succ_self n) y o1.inv f1 hok.2 h fun Γ2 a2 w2 o2 f2 d2 => hQ Γ2 a2 w2 (o1.trans o2) f2 (d2.trans d1)
        · rename_i r hr
          refine ih n (Nat.lt_succ_self n) x hI hF hok.1 h fun Γ1 a1 w1 o1 f1 d1 => ?_
          cases e with
          | normal => exact absurd h (hr _ _)
          | exit i => exact hQ Γ1 a1 w1 o1 f1 d1
          | ret => exact hQ Γ1 a1 w1 o1 f1 d1
      | cond c x y =>
        simp only [codeOk, Bool.and_eq_true] at hok
        simp only [exec] at h
        have hc := hF.eval c
        split at h
        · rename_i hb
          rw [hb] at hc; simp only [R] at hc
          exact wp_cond_true hc (ih n (Nat.lt_succ_self n) x hI hF hok.1 h hQ)
        · rename_i hb
          rw [hb] at hc; simp only [R] at hc
          exact wp_cond_false hc (ih n (Nat.lt_succ_self n) y hI hF hok.2 h hQ)
        · cases h
      | block id x =>
        simp only [codeOk] at hok
        simp only [exec] at h
        refine wp_block ?_
        split at h
        · rename_i i tm1 st1 hx
          refine ih n (Nat.lt_succ_self n) x hI hF hok hx fun Γ1 a1 w1 o1 f1 d1 => ?_
          split at h
          · rename_i hi
            simp only [Option.some.injEq, Prod.mk.injEq] at h
            obtain ⟨rfl, rfl, rfl⟩ := h
            simp only [AExit.out, Exit.inBlock, if_pos hi]
            exact hQ Γ1 a1 w1 o1 f1 d1
          · rename_i hi
            simp only [Option.some.injEq, Prod.mk.injEq] at h
            obtain ⟨rfl, rfl, rfl⟩ := h
            simp only [AExit.out, Exit.inBlock, if_neg hi]
            exact hQ Γ1 a1 w1 o1 f1 d1
        · rename_i r hr
          refine ih n (Nat.lt_succ_self n) x hI hF hok h fun Γ1 a1 w1 o1 f1 d1 => ?_
          cases e with
          | normal => exact hQ Γ1 a1 w1 o1 f1 d1
          | exit i => exact absurd h (hr _ _ _)
          | ret => exact hQ Γ1 a1 w1 o1 f1 d1
      | loop x =>
        simp only [codeOk] at hok
        refine wp_loop_n (fun m a1 w1 => m ≤ n + 1 ∧ ∃ Γ1 st1 tm1, Out B w0 Γ st Γ1 st1 w1 ∧ RT Γ1 tm1 a1.tmps ∧ a1.defers = a.defers ∧ exec E call fid m (.loop x) tm1 st1 = some (e, tm', st'))
          (n := n + 1) ⟨Nat.le_refl _, Γ, st, tm, ⟨Ghost.Le.refl Γ, hI, Keep.refl Γ st⟩, hF, rfl, h⟩ ?_
        rintro m a1 w1 ⟨hm, Γ1, st1, tm1, o1, f1, d1, hx⟩
        cases m with
        | zero => simp [exec] at hx
        | succ m =>
          simp only [exec] at hx
          split at hx
          · rename_i tm2 st2 h2
            refine ih m (by omega) x o1.inv f1 hok h2 fun Γ2 a2 w2 o2 f2 d2 => ?_
            exact ⟨m, Nat.lt_succ_self m, by omega, Γ2, st2, tm2, o1.trans o2, f2, d2.trans d1, hx⟩
          · rename_i r hr
            refine ih m (by omega) x o1.inv f1 hok hx fun Γ2 a2 w2 o2 f2 d2 => ?_
            cases e with
            | normal => exact absurd hx (hr _ _)
            | exit i => exact hQ Γ2 a2 w2 (o1.trans o2) f2 (d2.trans d1)
            | ret => exact hQ Γ2 a2 w2 (o1.trans o2) f2 (d2.trans d1)
      | _ => simp [exec] at h

theorem resA_sound {E : Env} (hE : EnvOk P E) {B : Nat} {w0 w : World} {Γ : Ghost} {st : St} (hI : Inv B w0 Γ st w) {tm : TM} {vs : Array Value} (hF : RT Γ tm vs) {r : ResultVar} {x : AV}
    (h : resA E tm st r = some x) : ∃ u, ((match r with | .tmp t => pure (vs.getD t undef) | .cell a t => (do loadVar t (← asAddr (vs.getD a undef))) : Sem Value)).run P w = .ok u w ∧ R Γ x u := by
  have hev : ∀ t, R Γ (tm.get t) (vs.getD t undef) := hF.get
  cases r with
  | tmp t =>
    simp only [resA, Option.some.injEq] at h
    subst h
    exact ⟨_, rfl, hev t⟩
  | cell a t =>
    simp only [resA] at h
    split at h
    · rename_i cs hc
      obtain ⟨u, hu, hr⟩ := load_sound hE.ty hI hc h (hev a)
      obtain ⟨b, o, ws, he, _⟩ := loadCells_sound hI hc (hev a)
      rw [he] at hu
      refine ⟨u, ?_, hr⟩
      simp only [Instr.loadAt, Instr.sureAddr, Sem.run_bind, Sem.run_pure, Result.andThen_ok] at hu
      show Sem.run P (do loadVar t (← asAddr (vs.getD a undef))) w = _
      rw [he]
      simp only [asAddr, Sem.run_bind, Sem.run_pure, Result.andThen_ok]
      exact hu
    · cases h

theorem run_mapM_list {α : Type} {f : α → Sem Value} {w : World} {Γ : Ghost} {g : α → Option AV} (hf : ∀ x y, g x = some y → ∃ u, (f x).run P w = .ok u w ∧ R Γ y u) :
    ∀ (l : List α) (ys : List AV), l.mapM g = some ys → ∃ us, (l.mapM f).run P w = .ok us w ∧ RL Γ ys us
  | [], ys, h => by
    simp only [List.mapM_nil, Option.pure_def, Option.some.injEq] at h
    subst h
    exact ⟨[], by simp, RL.nil Γ⟩
  | x :: l, ys, h => by
    simp only [List.mapM_cons, Option.bind_eq_bind, Option.bind_eq_some_iff, Option.pure_def, Option.some.injEq] at h
    obtain ⟨y, h1, ys', h2, rfl⟩ := h
    obtain ⟨u, hu, hr⟩ := hf x y h1
    obtain ⟨us, hus, hrs⟩ := run_mapM_list hf l ys' h2
    refine ⟨u :: us, ?_, RL.cons hr hrs⟩
    simp only [List.mapM_cons, Sem.run_bind, hu, hus, Result.andThen_ok, Sem.run_pure]

theorem resL_mapM {E : Env} {tm : TM} {st : St} : ∀ (rs : List ResultVar), resL E tm st rs = rs.mapM (resA E tm st)
  | [] => rfl
  | r :: rs => by
    simp only [resL, List.mapM_cons, resL_mapM rs, Option.bind_eq_bind, Option.pure_def]
    cases resA E tm st r with
    | none => rfl
    | some v => cases List.mapM (resA E tm st) rs <;> rfl

theorem results_sound {E : Env} (hE : EnvOk P E) {B : Nat} {w0 w : World} {Γ : Ghost} {st : St} (hI : Inv B w0 Γ st w) {tm : TM} {vs : Array Value} (hF : RT Γ tm vs) {fn : Func} {x : AV}
    (h : resultsA E fn.results.toList tm st = some x) : ∃ u, (results fn vs).run P w = .ok u w ∧ R Γ x u := by
  unfold resultsA at h
  have key : ∀ ys, resL E tm st fn.results.toList = some ys → ∃ us : List Value, (results fn vs).run P w = .ok (if h : us.toArray.size = 1 then us.toArray[0] else .tuple us.toArray) w ∧ RL Γ ys us := by
    intro ys hy
    rw [resL_mapM] at hy
    obtain ⟨us, h1, h2⟩ := run_mapM_list (fun r y hr => resA_sound hE hI hF hr) _ _ hy
    refine ⟨us, ?_, h2⟩
    unfold results
    rw [Array.mapM_eq_mapM_toList]
    simp only [Sem.run_bind, Sem.run_map, Sem.run_pure]
    exact congrArg (fun r : Result (List Value) => (r.andThen fun a w' => Result.ok a.toArray w').andThen fun a w' => Result.ok (if h : a.size = 1 then a[0] else Value.tuple a) w') h1
  split at h
  · rename_i v hv
    cases h
    obtain ⟨us, h1, h2⟩ := key _ hv
    obtain ⟨u, r, rfl, h3, h4⟩ := h2.of_cons
    rw [h4.of_nil] at h1
    exact ⟨u, by simpa using h1, h3⟩
  · rename_i ys hne hv
    cases h
    obtain ⟨us, h1, h2⟩ := key _ hv
    have hl : us.toArray.size ≠ 1 := by
      intro hl
      have := h2.length
      simp only [List.size_toArray] at hl
      match ys, this, hne with
      | [y], _, hne => exact hne y rfl
      | [], h, _ => simp only [List.length_nil] at h; omega
      | _ :: _ :: _, h, _ => simp only [List.length_cons] at h; omega
    rw [dif_neg hl] at h1
    exact ⟨_, h1, by simp only [R]; exact ⟨us.toArray, rfl, h2⟩⟩
  · cases h

def PrimOk (P : Program) (E : Env) (B : Nat) (w0 : World) : Prop :=
  ∀ f g args st r st', E.prim f = some g → g args st = some (r, st') → (∀ (w : World) (vargs : Array Value), (callFunc f vargs).run P w = .ok (.enter f vargs) w) ∧
    ∀ Γ w (vargs : Array Value), Inv B w0 Γ st w → RL Γ args vargs.toList →
      Calls P f vargs w fun e w' => ∃ v Γ', e = .returned v ∧ Out B w0 Γ st Γ' st' w' ∧ R Γ' r v

theorem enters {f : FuncId} {fn : Func} {c : Code} (hf : P.funcs[f]? = some fn) (hb : fn.body = some c) (hn : (fn.name == "runtime.NumGoroutine") = false) (w : World) (vargs : Array Value) :
    (callFunc f vargs).run P w = .ok (.enter f vargs) w := by
  have h0 : Sem.run P program w = .ok P w := rfl
  unfold callFunc
  simp only [Sem.run_bind, h0, Result.andThen_ok, hf, hn, hb, Option.isNone_some, Bool.false_eq_true, if_false, Sem.run_pure]

theorem callF_sound {E : Env} (hE : EnvOk P E) {B : Nat} {w0 : World} (hp : PrimOk P E B w0) : ∀ n, CallsOk P B w0 (callF E n)
  | 0 => fun f args st r st' h => by simp [callF] at h
  | n + 1 => fun f args st r st' h => by
    simp only [callF] at h
    split at h
    · rename_i g hg
      exact hp f g args st r st' hg h
    · split at h
      · cases h
      · rename_i fi hfi
        obtain ⟨fn, h1, h2, h3, h4, h5⟩ := hE.fns f fi hfi
        refine ⟨enters h1 h2 h5, fun Γ w vargs hI hargs => calls_of_wp h1 h2 ?_⟩
        have hF : RT Γ (TM.of args fi.ntmps) (vargs ++ Array.replicate (fn.ntmps - vargs.size) undef) := by
          rw [h3]; exact RT.of hargs _
        have fin : ∀ tm1 st1, (resultsA E fi.results tm1 st1).map (fun v => (v, st1)) = some (r, st') → ∀ Γ' (a' : Act) w', Out B w0 Γ st Γ' st1 w' → RT Γ' tm1 a'.tmps → a'.defers = [] →
            a'.defers = [] ∧ ∃ v, (results fn a'.tmps).run P w' = .ok v w' ∧ ∃ u Γ', Ending.returned v = .returned u ∧ Out B w0 Γ st Γ' st' w' ∧ R Γ' r u := by
          intro tm1 st1 hres Γ' a' w' o1 f1 d1
          simp only [Option.map_eq_some_iff, Prod.mk.injEq] at hres
          obtain ⟨v, hv, rfl, rfl⟩ := hres
          rw [← h4] at hv
          obtain ⟨u, hu, hr⟩ := results_sound hE o1.inv f1 hv
          exact ⟨d1, u, hu, u, Γ', rfl, o1, hr⟩
        split at h
        · rename_i tm1 st1 hx
          exact exec_sound hE (callF_sound hE hp n) n _ hI hF (hE.static f fi hfi) hx fun Γ' a' w' o1 f1 d1 => fin tm1 st1 h Γ' a' w' o1 f1 d1
        · rename_i tm1 st1 hx
          exact exec_sound hE (callF_sound hE hp n) n _ hI hF (hE.static f fi hfi) hx fun Γ' a' w' o1 f1 d1 => fin tm1 st1 h Γ' a' w' o1 f1 d1
        · cases h
end
end Go.Abs

namespace Go.Abs

inductive Tree (α : Type) where
  | leaf
  | node (k : Nat) (v : α) (l r : Tree α)

def Tree.find {α : Type} : Tree α → Nat → Option α
  | .leaf, _ => none
  | .node k v l r, x => bif Nat.blt x k then l.find x else bif Nat.blt k x then r.find x else some v

def Tree.All {α : Type} (p : Nat → α → Prop) : Tree α → Prop
  | .leaf => True
  | .node k v l r => p k v ∧ l.All p ∧ r.All p

theorem Tree.find_all {α : Type} {p : Nat → α → Prop} : ∀ {t : Tree α}, t.All p → ∀ {x : Nat} {v : α}, t.find x = some v → p x v
  | .leaf, _, _, _, h => by simp [Tree.find] at h
  | .node k u l r, ha, x, v, h => by
    obtain ⟨h1, h2, h3⟩ := ha
    simp only [Tree.find] at h
    cases h4 : Nat.blt x k with
    | true => rw [h4] at h; exact Tree.find_all h2 h
    | false =>
      rw [h4] at h
      simp only [cond_false] at h
      cases h5 : Nat.blt k x with
      | true => rw [h5] at h; exact Tree.find_all h3 h
      | false =>
        rw [h5] at h
        simp only [cond_false, Option.some.injEq] at h
        subst h
        have a1 : ¬ x < k := fun k' => by
          have h := Eq.mpr Nat.blt_eq k'
          rw [h4] at h; cases h
        have a2 : ¬ k < x := fun k' => by
          have h := Eq.mpr Nat.blt_eq k'
          rw [h5] at h; cases h
        have : x = k := by omega
        subst this; exact h1

def fi (fn : Func) : FnI := ⟨fn.body.getD .skip, fn.ntmps, fn.results.toList⟩
structure FnOk (P : Program) (dy : Nat → Nat → List (Nat × Nat)) (f : Nat) (i : FnI) (mk : Nat → Bool := fun _ => false) : Prop where
  ex : ∃ fn, P.funcs[f]? = some fn ∧ fn.body = some i.code ∧ fn.ntmps = i.ntmps ∧ fn.results.toList = i.results ∧ (fn.name == "runtime.NumGoroutine") = false
  static : codeOk (dy f) mk i.code = true

theorem EnvOk.of_trees {P : Program} {E : Env} {ts : Tree Ty} {fs : Tree FnI} (h1 : E.ty = ts.find) (h2 : E.fns = fs.find) (a1 : ts.All (TyOk P)) (a2 : fs.All fun f i => FnOk P E.dyn f i (E.mks f)) (hm : P.follows .mixedOrders = true) : EnvOk P E :=
  ⟨fun t y h => Tree.find_all a1 (by rw [← h1]; exact h), fun f i h => (Tree.find_all a2 (by rw [← h2]; exact h)).ex, hm, fun f i h => (Tree.find_all a2 (by rw [← h2]; exact h)).static⟩

def polOf : List (Nat × Nat × Nat × Nat) → Nat → Nat → Nat → Nat
  | [], _, _, _ => 2
  | (f, r, i, p) :: l, f', r', i' => bif Nat.beq f f' && Nat.beq r r' && Nat.beq i i' then p else polOf l f' r' i'
def dynOf : List (Nat × Nat × List (Nat × Nat)) → Nat → Nat → List (Nat × Nat)
  | [], _, _ => []
  | (f, r, p) :: l, f', r' => bif Nat.beq f f' && Nat.beq r r' then p else dynOf l f' r'
def mkOf : List (Nat × Nat) → Nat → Nat → Bool
  | [], _, _ => false
  | (f, r) :: l, f', r' => bif Nat.beq f f' && Nat.beq r r' then true else mkOf l f' r'
end Go.Abs
