/- Own text of this claim: part 7 of an interpreter that is proved sound against the model, and of what it shows of the law. -/
import Derived.Test.YthomnnnhkfjbdaaGreatAbs5
/- What a strings.Builder does, for the interpreter. -/
namespace Go.Abs
open Go.RowKit

section
variable {P : Program} {B : Nat} {w0 w w' : World} {Γ : Ghost} {st : St}

/-- Bytes of a block that nobody owns are frozen. -/
theorem Inv.freezeBlk (h : Inv B w0 Γ st w) {g : Nat} (hno : ∀ i, ¬ OwnB Γ st i g) (hB : B ≤ g) (t : Touch w w' g) {c : Array Value} {T : TypeId} {fr fr' : Nat × Nat}
    (hc : w.heap[g]? = some (.cells c T fr)) (hc' : w'.heap[g]? = some (.cells c T fr')) : Inv B w0 Γ st w' := by
  have hcell : ∀ b o, b < w.heap.size → w'.cell? ⟨b, o, none⟩ = w.cell? ⟨b, o, none⟩ := fun b o hb => by
    by_cases e : b = g
    · subst e; rw [cell_of_heap hc, cell_of_heap hc']
    · exact cell_same (t.other b hb e) o
  refine ⟨h.below.trans ⟨t.os, t.tape, t.out, t.size, fun k hk => t.other k (Nat.lt_of_lt_of_le hk h.base) (by omega)⟩, Nat.le_trans h.base t.size, fun b o v k => ?_, h.fresh, ?_, ?_, ?_, h.uniq, h.above, h.disj, ?_, h.tys, h.ttys, h.old⟩
  · rw [hcell b o (h.inert_lt k)]; exact h.inert b o v k
  · intro i sz xs blk bs sz' tot k1 k2
    obtain ⟨r1, r2, r3, r4⟩ := h.rows i sz xs blk bs sz' tot k1 k2
    refine ⟨r1, r2, r3, fun ht => ?_⟩
    have ho : OwnB Γ st i blk := .inl ⟨sz, xs, bs, sz', tot, k1, k2, ht⟩
    obtain ⟨⟨c1, T1, hc1, hs⟩, hn⟩ := r4 ht
    have hne : blk ≠ g := by rintro rfl; exact hno i ho
    exact ⟨⟨c1, T1, (t.other blk (h.lt ho) hne).trans hc1, hs⟩, hn⟩
  · intro i kt et es blk k1 hb
    obtain ⟨en, clock, hm, hs⟩ := h.maps i kt et es blk k1 hb
    have ho : OwnB Γ st i blk := .inr (.inl ⟨kt, et, es, k1, hb⟩)
    have hne : blk ≠ g := by rintro rfl; exact hno i ho
    exact ⟨en, clock, (t.other blk (h.lt ho) hne).trans hm, hs⟩
  · intro i blk e tot k1 k2
    have ho : OwnB Γ st i blk := .inr (.inr ⟨k1, e, tot, k2⟩)
    have hne : blk ≠ g := by rintro rfl; exact hno i ho
    obtain ⟨⟨c1, T1, hc1, hs⟩, hn⟩ := h.toks i blk e tot k1 k2
    exact ⟨⟨c1, T1, (t.other blk (h.lt ho) hne).trans hc1, hs⟩, hn⟩
  · intro blk T1 k
    obtain ⟨c1, fr1, h1⟩ := h.ety blk T1 k
    by_cases e : blk = g
    · subst e
      rw [hc] at h1; cases h1
      exact ⟨c, fr', hc'⟩
    · exact ⟨c1, fr1, (t.other blk (Array.getElem?_eq_some_iff.1 h1).1 e).trans h1⟩

def bytesOfA : List AV → Option (List UInt8)
  | [] => some []
  | .int .u8 n :: r => if 0 ≤ n ∧ n < 256 then (bytesOfA r).map (UInt8.ofNat n.toNat :: ·) else none
  | _ => none

/-- copyCheck: behind it the builder knows its own address. -/
def bldCopy (T : TypeId) (args : List AV) (st : St) : Option (AV × St) :=
  match args with
  | [.ptr b 0 0] =>
    match st.get b, st.ty b with
    | some (.row 2 [.agg [a, buf]]), some T' =>
      if T' = T then
        match a with
        | .nilptr => some (.tup [], st.put b (.row 2 [.agg [.ptr b 0 0, buf]]))
        | .ptr b' 0 0 => if b' = b then some (.tup [], st) else none
        | _ => none
      else none
    | _, _ => none
  | _ => none
/-- String: the bytes; nobody appends to them any more. -/
def bldString (T T5 : TypeId) (args : List AV) (st : St) : Option (AV × St) :=
  match args with
  | [.ptr b 0 0] =>
    match st.get b with
    | some (.row 2 [.agg [_, .vs 1 (.tok t) xs]]) =>
      match bytesOfA xs, st.tty t with
      | some (x :: l), some T' => if T' = T5 ∧ st.alive t = true ∧ st.ty b = some T ∧ l.length < 140737488355328 then some (.str ⟨(x :: l).toArray⟩, st.dropTok t) else none
      | _, _ => none
    | _ => none
  | _ => none

/-- What a prim must do. -/
def PrimDoes (P : Program) (B : Nat) (w0 : World) (f : FuncId) (g : List AV → St → Option (AV × St)) : Prop :=
  ∀ args st r st', g args st = some (r, st') → (∀ (w : World) (vargs : Array Value), (callFunc f vargs).run P w = .ok (.enter f vargs) w) ∧
    ∀ Γ w (vargs : Array Value), Inv B w0 Γ st w → RL Γ args vargs.toList →
      Calls P f vargs w fun e w' => ∃ v Γ', e = .returned v ∧ Out B w0 Γ st Γ' st' w' ∧ R Γ' r v

theorem one_arg {Γ : Ghost} {x : AV} {vargs : Array Value} (h : RL Γ [x] vargs.toList) : ∃ v, vargs = #[v] ∧ R Γ x v := by
  obtain ⟨v, r, h1, h2, h3⟩ := h.of_cons
  rw [h3.of_nil] at h1
  exact ⟨v, by rw [← Array.toArray_toList (xs := vargs), h1], h2⟩

/-- A builder in memory. -/
theorem bld_mem (hI : Inv B w0 Γ st w) {b : Nat} {a buf : AV} {v : Value} (hg : st.get b = some (.row 2 [.agg [a, buf]])) (hr : R Γ (.ptr b 0 0) v) :
    ∃ blk base tot c T va vb, Γ.obj b = some (blk, base, 2, tot) ∧ v = .pointer (some ⟨blk, base, none⟩) ∧ 0 < tot ∧ w.heap[blk]? = some (.cells c T (0, 0)) ∧ base + tot * 2 ≤ c.size ∧
      c[base]? = some va ∧ c[base + 1]? = some vb ∧ R Γ a va ∧ R Γ buf vb ∧ buf.cellOk = true := by
  simp only [R] at hr
  obtain ⟨blk, base, sz, tot, ho, rfl⟩ := hr
  obtain ⟨hsz, _, hlen, hmem⟩ := hI.rows b 2 _ blk base sz tot hg ho
  subst hsz
  have ht : 0 < tot := by simp only [List.length_cons, List.length_nil] at hlen; omega
  obtain ⟨⟨c, T, hc, hs, hre⟩, _⟩ := hmem ht
  simp only [RE] at hre
  obtain ⟨⟨v0, h1, h2, h3, h4⟩, _⟩ := hre
  simp only [R] at h1
  obtain ⟨vs, rfl, h5⟩ := h1
  obtain ⟨va, r1, e1, ra, h6⟩ := h5.of_cons
  obtain ⟨vb, r2, e2, rb, h7⟩ := h6.of_cons
  rw [h7.of_nil] at e2
  subst e2
  have hv : (Value.agg vs).cells.toList = [va, vb] := e1
  rw [hv] at h4
  refine ⟨blk, base, tot, c, T, va, vb, ho, by simp, ht, hc, hs, h4 0 va rfl, h4 1 vb rfl, ra, rb, ?_⟩
  simp only [AV.ok, List.all_cons, List.all_nil, Bool.and_true, Bool.and_eq_true] at h2
  exact h2.2

theorem bldCopy_sound {f : FuncId} {T : TypeId} (hent : ∀ (w : World) (vargs : Array Value), (callFunc f vargs).run P w = .ok (.enter f vargs) w)
    (hused : ∀ (b : Nat) (w : World), w.cell? ⟨b, 0, none⟩ = some (.pointer (some ⟨b, 0, none⟩)) → Calls P f #[.pointer (some ⟨b, 0, none⟩)] w fun e w' => e = .returned (.tuple #[]) ∧ w' = w)
    (hfresh : ∀ (b n : Nat) (w : World), 2 ≤ n → w.cell? ⟨b, 0, none⟩ = some (.pointer none) → w.shape? b = some (T, n) → w.frozen? ⟨b, 0, none⟩ = false →
      Calls P f #[.pointer (some ⟨b, 0, none⟩)] w fun e w' => e = .returned (.tuple #[]) ∧ w' = w.setCell ⟨b, 0, none⟩ (.pointer (some ⟨b, 0, none⟩))) : PrimDoes P B w0 f (bldCopy T) := by
  intro args st r st' h
  refine ⟨hent, fun Γ w vargs hI hargs => ?_⟩
  unfold bldCopy at h
  split at h
  · rename_i b
    split at h
    · rename_i a buf T' hg hty
      split at h
      · rename_i hT
        subst hT
        obtain ⟨v, rfl, hv⟩ := one_arg hargs
        obtain ⟨blk, base, tot, c, T1, va, vb, ho, rfl, ht, hc, hs, q1, q2, ra, rb, hok⟩ := bld_mem hI hg hv
        obtain ⟨blk2, sz2, tot2, o2, ety⟩ := hI.tys b T' hty
        rw [ho] at o2
        simp only [Option.some.injEq, Prod.mk.injEq] at o2
        obtain ⟨e1, e2, _, _⟩ := o2
        subst e2
        rw [← e1] at ety
        obtain ⟨c2, fr2, hc2⟩ := hI.ety _ _ ety
        rw [hc] at hc2
        simp only [Option.some.injEq, Obj.cells.injEq] at hc2
        obtain ⟨_, e3, _⟩ := hc2
        subst e3
        have hcell : w.cell? ⟨blk, 0, none⟩ = some va := by rw [cell_of_heap hc]; exact q1
        have hsz : 2 ≤ c.size := by omega
        split at h
        · cases h
          simp only [R] at ra
          subst ra
          refine (hfresh blk c.size w hsz hcell (by unfold World.shape?; rw [hc]) (by simp [World.frozen?, hc])).mono ?_
          rintro e w' ⟨rfl, rfl⟩
          have hw' : (w.setCell ⟨blk, 0, none⟩ (.pointer (some ⟨blk, 0, none⟩))).heap[blk]? = some (.cells (c.setIfInBounds 0 (.pointer (some ⟨blk, 0, none⟩))) T1 (0, 0)) := by
            simp only [World.setCell, Array.getElem?_modify, if_pos, hc, Option.map_some, Option.isSome_none, Bool.false_eq_true, if_false]
          have tw : Touch w (w.setCell ⟨blk, 0, none⟩ (.pointer (some ⟨blk, 0, none⟩))) blk := by
            refine ⟨fun k hk hne => ?_, by simp [World.setCell], rfl, rfl, rfl⟩
            simp only [World.setCell, Array.getElem?_modify]
            rw [if_neg (fun e => hne e.symm)]
          have out := hI.rowPut hg ho ht tw hw' (by simpa using hs) (xs' := [.agg [.ptr b 0 0, buf]]) (by simp only [List.length_cons, List.length_nil]; omega) (by
            simp only [RE]
            refine ⟨⟨.agg #[.pointer (some ⟨blk, 0, none⟩), vb], ?_, ?_, rfl, ?_⟩, trivial⟩
            · simp only [R]
              refine ⟨_, rfl, RL.cons ?_ (RL.cons rb (RL.nil _))⟩
              simp only [R]
              exact ⟨blk, 0, 2, tot, ho, by simp⟩
            · show ((AV.ptr b 0 0).cellOk && (buf.cellOk && true)) = true
              rw [hok]; rfl
            · intro j u hj
              have hj' : [Value.pointer (some ⟨blk, 0, none⟩), vb][j]? = some u := hj
              match j, hj' with
              | 0, hj' =>
                simp only [List.getElem?_cons_zero, Option.some.injEq] at hj'
                subst hj'
                show (c.setIfInBounds 0 _)[0 + 0]? = _
                rw [Array.getElem?_setIfInBounds, if_pos rfl, if_pos (by omega)]
              | 1, hj' =>
                simp only [List.getElem?_cons_succ, List.getElem?_cons_zero, Option.some.injEq] at hj'
                subst hj'
                show (c.setIfInBounds 0 _)[0 + 1]? = _
                rw [Array.getElem?_setIfInBounds, if_neg (by omega)]
                exact q2
              | j + 2, hj' => simp at hj') (TyAt.same hc hw')
          exact ⟨_, Γ, rfl, out, by simp only [R]; exact ⟨#[], rfl, RL.nil _⟩⟩
        · split at h
          · rename_i b' hb
            subst hb
            cases h
            simp only [R] at ra
            obtain ⟨blk3, base3, sz3, tot3, o3, rfl⟩ := ra
            rw [ho] at o3
            simp only [Option.some.injEq, Prod.mk.injEq] at o3
            obtain ⟨rfl, rfl, rfl, rfl⟩ := o3
            refine (hused blk w (by simpa using hcell)).mono ?_
            rintro e w' ⟨rfl, rfl⟩
            exact ⟨_, Γ, rfl, ⟨Ghost.Le.refl Γ, hI, Keep.refl Γ _⟩, by simp only [R]; exact ⟨#[], rfl, RL.nil _⟩⟩
          · cases h
        · cases h
      · cases h
    · cases h
  · cases h

theorem bytesOfA_spec {Γ : Ghost} {f : Nat → Option Value} : ∀ {xs : List AV} {l : List UInt8} {o : Nat}, bytesOfA xs = some l → RE Γ xs f o 1 → l.length = xs.length ∧ ∀ j x, l[j]? = some x → f (o + j) = some (.int .u8 x.toNat)
  | [], l, o, h, _ => by
    simp only [bytesOfA, Option.some.injEq] at h
    subst h
    exact ⟨rfl, fun j x hj => by simp at hj⟩
  | a :: xs, l, o, h, hre => by
    unfold bytesOfA at h
    split at h
    · rename_i heq; cases heq
    · rename_i n r heq
      cases heq
      split at h
      · rename_i hn
        simp only [Option.map_eq_some_iff] at h
        obtain ⟨l', hl, rfl⟩ := h
        simp only [RE] at hre
        obtain ⟨⟨v, h1, h2, h3, h4⟩, h5⟩ := hre
        obtain ⟨e1, e2⟩ := bytesOfA_spec hl h5
        refine ⟨by simp [e1], fun j x hj => ?_⟩
        cases j with
        | zero =>
          simp only [List.getElem?_cons_zero, Option.some.injEq] at hj
          subst hj
          simp only [R] at h1
          subst h1
          have := h4 0 _ rfl
          rw [this]
          have : (UInt8.ofNat n.toNat).toNat = n.toNat := by
            rw [UInt8.toNat_ofNat']
            exact Nat.mod_eq_of_lt (by omega)
          rw [this]
          congr 2
          omega
        | succ j =>
          have := e2 j x (by simpa using hj)
          rw [← this]
          congr 1
          omega
      · cases h
    · cases h

theorem bldString_sound {f : FuncId} {T5 : TypeId} (hent : ∀ (w : World) (vargs : Array Value), (callFunc f vargs).run P w = .ok (.enter f vargs) w)
    (hcall : ∀ (b q g o cap cells : Nat) (l : List UInt8) (w : World), q = 0 → l ≠ [] → w.cell? ⟨b, 1, none⟩ = some (.slice (some ⟨g, o, none⟩) l.length cap) → l.length ≤ cap → l.length ≤ 9223372036854775807 →
      w.shape? g = some (T5, cells) → o + l.length ≤ cells → (∀ j x, l[j]? = some x → w.cell? ⟨g, o + j, none⟩ = some (.int .u8 x.toNat)) →
      Calls P f #[.pointer (some ⟨b, q, none⟩)] w fun e w' => e = .returned (.string ⟨l.toArray⟩) ∧ w' = w.drew.freeze ⟨g, o, none⟩ l.length) (T : TypeId) :
    PrimDoes P B w0 f (bldString T T5) := by
  intro args st r st' h
  refine ⟨hent, fun Γ w vargs hI hargs => ?_⟩
  unfold bldString at h
  split at h
  · rename_i b
    split at h
    · rename_i a t xs hg
      split at h
      · rename_i x l T' hb htt
        split at h
        · rename_i hT
          obtain ⟨rfl, hal, hty, hsize⟩ := hT
          cases h
          obtain ⟨v, rfl, hv⟩ := one_arg hargs
          obtain ⟨blk, base, tot, c, T1, va, vb, ho, rfl, ht, hc, hs, q1, q2, ra, rb, hok⟩ := bld_mem hI hg hv
          obtain ⟨blk2, sz2, tot2, o2, _⟩ := hI.tys b T hty
          rw [ho] at o2
          simp only [Option.some.injEq, Prod.mk.injEq] at o2
          obtain ⟨_, e2, _, _⟩ := o2
          subst e2
          simp only [R] at rb
          obtain ⟨g, o, cap, rfl, k1, _, k3, k4⟩ := rb
          obtain ⟨hlen, hbytes⟩ := bytesOfA_spec hb k4
          have hpos : 0 < xs.length := by rw [← hlen]; simp
          obtain ⟨g2, e', tot', tk1, ety⟩ := hI.ttys t T' htt
          rcases k3 with k3 | ⟨e3, tot3, tk3, k5, k6⟩
          · omega
          · rw [tk1] at tk3
            simp only [Option.some.injEq, Prod.mk.injEq] at tk3
            obtain ⟨rfl, rfl, rfl⟩ := tk3
            obtain ⟨⟨c2, T2, hc2, htot⟩, _⟩ := hI.toks t g2 e' tot' hal tk1
            obtain ⟨c4, fr4, hc4⟩ := hI.ety _ _ ety
            rw [hc2] at hc4
            simp only [Option.some.injEq, Obj.cells.injEq] at hc4
            obtain ⟨_, e4, _⟩ := hc4
            subst e4
            have hg2 : OwnB Γ st t g2 := .inr (.inr ⟨hal, e', tot', tk1⟩)
            have hll : (x :: l).length = xs.length := hlen
            refine (hcall blk 0 g2 o cap c2.size (x :: l) w rfl (by simp) ?_ (by omega) ?_ ?_ ?_ ?_).mono ?_
            · rw [cell_of_heap hc, hll]; simpa using q2
            · simp only [List.length_cons]; omega
            · unfold World.shape?; rw [hc2]
            · omega
            · intro j y hj
              exact hI.inert _ _ _ (hbytes j y hj)
            · rintro e w' ⟨rfl, rfl⟩
              have out1 := hI.dropTok t
              have hno : ∀ i, ¬ OwnB Γ (st.dropTok t) i g2 := by
                intro i hi
                have hi' : OwnB Γ st i g2 := by
                  rcases hi with hi | hi | ⟨k1, k2⟩
                  · exact .inl hi
                  · exact .inr (.inl hi)
                  · rw [St.alive_dropTok] at k1
                    split at k1
                    · cases k1
                    · exact .inr (.inr ⟨k1, k2⟩)
                have := hI.uniq i t g2 hi' hg2
                subst this
                rcases hi with ⟨sz, ys, _, _, _, k1, _⟩ | ⟨_, _, _, k1, _⟩ | ⟨k1, _⟩
                · rw [St.get_dropTok, hI.disj _ hal] at k1; cases k1
                · rw [St.get_dropTok, hI.disj _ hal] at k1; cases k1
                · rw [St.alive_dropTok] at k1; simp at k1
              obtain ⟨fr, hfr⟩ := freeze_heap w.drew g2 o (x :: l).length c2 T2 (0, 0) hc2
              have inv2 := out1.inv.freezeBlk hno (hI.above t g2 hg2) ((Touch.drawn w _ _).trans (freeze_touch w.drew g2 o (x :: l).length)) hc2 hfr
              exact ⟨_, Γ, rfl, ⟨Ghost.Le.refl Γ, inv2, out1.keep⟩, by simp only [R]⟩
        · cases h
      · cases h
    · cases h
  · cases h
end
end Go.Abs

/- Runs from nothing; contracts. -/
namespace Go.Abs
open Go.RowKit

section
variable {P : Program}

def Ghost.empty : Ghost := ⟨fun _ _ => none, fun _ => none, fun _ => none, fun _ => none, fun _ => none, fun _ _ => none⟩
def St.empty : St := ⟨0, [], [], []⟩
theorem Inv.empty (w : World) : Inv w.heap.size w Ghost.empty St.empty w := by
  refine ⟨Below.refl _ w, Nat.le_refl _, fun _ _ _ h => (by cases h), fun _ _ => ⟨rfl, rfl, rfl, rfl, rfl⟩, fun _ _ _ _ _ _ _ h => (by cases h), fun _ _ _ _ _ h => (by cases h), fun _ _ _ _ h => (by cases h), ?_, ?_, fun _ h => (by cases h), fun _ _ h => (by cases h), fun _ _ h => (by cases h), fun _ _ h => (by cases h), fun _ _ _ _ h => (by cases h)⟩
  · rintro i j blk (⟨_, _, _, _, _, h, _⟩ | ⟨_, _, _, h, _⟩ | ⟨h, _⟩) <;> cases h
  · rintro i blk (⟨_, _, _, _, _, h, _⟩ | ⟨_, _, _, h, _⟩ | ⟨h, _⟩) <;> cases h

theorem closed_calls {E : Env} (hE : EnvOk P E) (hp : ∀ B w0, PrimOk P E B w0) {f : FuncId} {n : Nat} {r : AV} {st' : St} (h : callF E n f [] St.empty = some (r, st')) (w : World) :
    Calls P f #[] w fun e w' => ∃ v Γ', e = .returned v ∧ Below w.heap.size w w' ∧ R Γ' r v := by
  refine ((callF_sound hE (hp w.heap.size w) n f [] St.empty r st' h).2 Ghost.empty w #[] (Inv.empty w) (RL.nil _)).mono ?_
  rintro e w' ⟨v, Γ', he, out, hr⟩
  exact ⟨v, Γ', he, out.inv.below, hr⟩
end
end Go.Abs

/- Values that name no object: they can be carried from one state to another. -/
namespace Go.Abs
open Go.RowKit

def Own.plain (_ : Own) : Own := .any
mutual
/-- The same value, to whose end nobody may append any more. -/
def AV.plain : AV → AV
  | .ip cells => .ip (AV.plainL cells)
  | .vs sz own xs => .vs sz own.plain (AV.plainL xs)
  | .fn f a b => .fn f (AV.plainL a) (AV.plainL b)
  | .iface t x => .iface t (AV.plain x)
  | .agg cells => .agg (AV.plainL cells)
  | .tup xs => .tup (AV.plainL xs)
  | x => x
def AV.plainL : List AV → List AV
  | [] => []
  | x :: xs => AV.plain x :: AV.plainL xs
end
mutual
/-- It names no object. -/
def AV.free : AV → Bool
  | .ptr _ _ _ | .sl _ _ _ _ | .map _ => false
  | .ip cells => AV.freeL cells
  | .vs _ _ xs => AV.freeL xs
  | .fn _ a b => AV.freeL a && AV.freeL b
  | .iface _ x => AV.free x
  | .agg cells => AV.freeL cells
  | .tup xs => AV.freeL xs
  | _ => true
def AV.freeL : List AV → Bool
  | [] => true
  | x :: xs => AV.free x && AV.freeL xs
end

theorem plainL_length : ∀ xs : List AV, (AV.plainL xs).length = xs.length
  | [] => rfl
  | x :: xs => by simp [AV.plainL, plainL_length xs]
theorem cellOk_plain (x : AV) : (AV.plain x).cellOk = x.cellOk := by cases x <;> rfl
theorem allOk_plain : ∀ xs : List AV, (AV.plainL xs).all AV.cellOk = xs.all AV.cellOk
  | [] => rfl
  | x :: xs => by simp [AV.plainL, cellOk_plain, allOk_plain xs]
theorem ok_plain (x : AV) : (AV.plain x).ok = x.ok := by
  cases x <;> first | rfl | exact allOk_plain _

mutual
theorem R.plain {Γ Δ : Ghost} (h : ∀ b o v, Γ.inert b o = some v → Δ.inert b o = some v) : ∀ (x : AV) (v : Value), AV.free x = true → R Γ x v → R Δ (AV.plain x) v
  | .bool _, _, _, k | .int _ _, _, _, k | .str _, _, _, k | .nilptr, _, _, k | .gptr _, _, _, k | .nilsl, _, _, k | .es, _, _, k | .nilmap, _, _, k | .nilfn, _, _, k | .nilif, _, _, k => by simpa only [AV.plain, R] using k
  | .junk, _, _, _ => by simp only [AV.plain, R]
  | .ptr _ _ _, _, hf, _ | .sl _ _ _ _, _, hf, _ | .map _, _, hf, _ => by simp [AV.free] at hf
  | .ip cells, v, hf, k => by
    simp only [AV.free] at hf
    simp only [AV.plain, R] at k ⊢
    obtain ⟨blk, o, vs, k1, k2, k3⟩ := k
    exact ⟨blk, o, vs, k1, RL.plain h cells vs hf k2, k3.mono (h blk)⟩
  | .vs sz own xs, v, hf, k => by
    simp only [AV.free] at hf
    simp only [AV.plain, R] at k ⊢
    obtain ⟨blk, o, cap, k1, k2, k3, k4, k5⟩ := k
    refine ⟨blk, o, cap, by rw [plainL_length]; exact k1, by rw [plainL_length]; exact k2, k3, ?_, RE.plain h xs _ _ o sz (h blk) hf k5⟩
    cases own with
    | full => rw [plainL_length]; exact trivial
    | any => trivial
    | tok t => trivial
  | .fn f a b, v, hf, k => by
    simp only [AV.free, Bool.and_eq_true] at hf
    simp only [AV.plain, R] at k ⊢
    obtain ⟨vf, vc, k1, k2, k3⟩ := k
    exact ⟨vf, vc, k1, RL.plain h a _ hf.1 k2, RL.plain h b _ hf.2 k3⟩
  | .iface t x, v, hf, k => by
    simp only [AV.free] at hf
    simp only [AV.plain, R] at k ⊢
    obtain ⟨y, k1, k2⟩ := k
    exact ⟨y, k1, R.plain h x y hf k2⟩
  | .agg cells, v, hf, k => by
    simp only [AV.free] at hf
    simp only [AV.plain, R] at k ⊢
    obtain ⟨vs, k1, k2⟩ := k
    exact ⟨vs, k1, RL.plain h cells _ hf k2⟩
  | .tup cells, v, hf, k => by
    simp only [AV.free] at hf
    simp only [AV.plain, R] at k ⊢
    obtain ⟨vs, k1, k2⟩ := k
    exact ⟨vs, k1, RL.plain h cells _ hf k2⟩
theorem RL.plain {Γ Δ : Ghost} (h : ∀ b o v, Γ.inert b o = some v → Δ.inert b o = some v) : ∀ (xs : List AV) (vs : List Value), AV.freeL xs = true → RL Γ xs vs → RL Δ (AV.plainL xs) vs
  | [], _, _, k => by simpa only [AV.plainL, RL] using k
  | x :: xs, _, hf, k => by
    simp only [AV.freeL, Bool.and_eq_true] at hf
    simp only [AV.plainL, RL] at k ⊢
    obtain ⟨v, r, k1, k2, k3⟩ := k
    exact ⟨v, r, k1, R.plain h x v hf.1 k2, RL.plain h xs r hf.2 k3⟩
theorem RE.plain {Γ Δ : Ghost} (h : ∀ b o v, Γ.inert b o = some v → Δ.inert b o = some v) : ∀ (xs : List AV) (f g : Nat → Option Value) (o sz : Nat), (∀ k v, f k = some v → g k = some v) → AV.freeL xs = true → RE Γ xs f o sz → RE Δ (AV.plainL xs) g o sz
  | [], _, _, _, _, _, _, _ => by simp only [AV.plainL, RE]
  | x :: xs, f, g, o, sz, hf, hr, k => by
    simp only [AV.freeL, Bool.and_eq_true] at hr
    simp only [AV.plainL, RE] at k ⊢
    obtain ⟨⟨v, k1, k2, k3, k4⟩, k5⟩ := k
    exact ⟨⟨v, R.plain h x v hr.1 k1, by rw [ok_plain]; exact k2, k3, k4.mono hf⟩, RE.plain h xs f g (o + sz) sz hf hr.2 k5⟩
end
end Go.Abs

/- A call that neither is given nor gives objects: its own run, from nothing, says what it does in any state. -/
namespace Go.Abs
open Go.RowKit

section
variable {P : Program}

theorem Inv.inner {B : Nat} {w0 w : World} {Γ : Ghost} {st : St} (hI : Inv B w0 Γ st w) :
    Inv w.heap.size w ⟨Γ.inert, fun _ => none, fun _ => none, fun _ => none, fun _ => none, Γ.inert⟩ St.empty w := by
  refine ⟨Below.refl _ w, Nat.le_refl _, hI.inert, fun _ _ => ⟨rfl, rfl, rfl, rfl, rfl⟩, fun _ _ _ _ _ _ _ h => (by cases h), fun _ _ _ _ _ h => (by cases h), fun _ _ _ _ h => (by cases h), ?_, ?_, fun _ h => (by cases h), fun _ _ h => (by cases h), fun _ _ h => (by cases h), fun _ _ h => (by cases h), fun _ _ _ _ h => h⟩
  · rintro i j blk (⟨_, _, _, _, _, h, _⟩ | ⟨_, _, _, h, _⟩ | ⟨h, _⟩) <;> cases h
  · rintro i blk (⟨_, _, _, _, _, h, _⟩ | ⟨_, _, _, h, _⟩ | ⟨h, _⟩) <;> cases h

def Ghost.back (Γ : Ghost) (n : Nat) (f : Nat → Nat → Option Value) : Ghost := { Γ with inert := fun b o => if b < n then Γ.inert b o else f b o }
theorem Inv.back {B : Nat} {w0 w w' : World} {Γ Γ1 : Ghost} {st st' : St} (hI : Inv B w0 Γ st w) (h1 : Inv w.heap.size w Γ1 st' w') :
    Out B w0 Γ st (Γ.back w.heap.size Γ1.inert) st w' := by
  have hle : Γ.Le (Γ.back w.heap.size Γ1.inert) := ⟨fun b o v k => by
    simp only [Ghost.back]
    rw [if_pos (hI.inert_lt k)]; exact k, fun _ _ k => k, fun _ _ k => k, fun _ _ k => k, fun _ _ k => k, rfl⟩
  have hb := h1.below
  have hno : ∀ b o, b < w.heap.size → (Γ.back w.heap.size Γ1.inert).inert b o = Γ.inert b o := fun b o h => by
    simp only [Ghost.back]; rw [if_pos h]
  refine ⟨hle, ⟨hI.below.trans ⟨hb.os, hb.tape, hb.output, hb.size, fun k hk => hb.block k (Nat.lt_of_lt_of_le hk hI.base)⟩, Nat.le_trans hI.base hb.size, ?_, hI.fresh, ?_, ?_, ?_, hI.uniq, hI.above, hI.disj, ?_, hI.tys, hI.ttys, ?_⟩, Keep.refl Γ st⟩
  · intro b o v k
    by_cases hlt : b < w.heap.size
    · rw [hno b o hlt] at k
      rw [cell_same (hb.block b hlt) o]; exact hI.inert b o v k
    · simp only [Ghost.back] at k
      rw [if_neg hlt] at k
      exact h1.inert b o v k
  · intro i sz xs blk bs sz' tot k1 k2
    obtain ⟨r1, r2, r3, r4⟩ := hI.rows i sz xs blk bs sz' tot k1 k2
    refine ⟨r1, r2, r3, fun ht => ?_⟩
    have hlt := hI.lt (.inl ⟨sz, xs, bs, sz', tot, k1, k2, ht⟩)
    obtain ⟨⟨c, T, hc, hs, hre⟩, hn⟩ := r4 ht
    exact ⟨⟨c, T, (hb.block blk hlt).trans hc, hs, RE.mono hle xs _ _ _ _ (fun _ _ k => k) hre⟩, fun o => (hno blk o hlt).trans (hn o)⟩
  · intro i kt et es blk k1 hm
    obtain ⟨en, clock, hc, hs, hre⟩ := hI.maps i kt et es blk k1 hm
    have hlt := hI.lt (.inr (.inl ⟨kt, et, es, k1, hm⟩))
    refine ⟨en, clock, (hb.block blk hlt).trans hc, hs, fun i' k v hi' => ?_⟩
    obtain ⟨e, he, r1, r2, r3, r4⟩ := hre i' k v hi'
    exact ⟨e, he, r1.mono hle, r2.mono hle, r3, r4⟩
  · intro i blk e tot k1 k2
    have hlt := hI.lt (.inr (.inr ⟨k1, e, tot, k2⟩))
    obtain ⟨⟨c, T, hc, hs⟩, hn⟩ := hI.toks i blk e tot k1 k2
    exact ⟨⟨c, T, (hb.block blk hlt).trans hc, hs⟩, fun o ho => (hno blk o hlt).trans (hn o ho)⟩
  · intro blk T k
    obtain ⟨c, fr, hc⟩ := hI.ety blk T k
    exact ⟨c, fr, (hb.block blk (Array.getElem?_eq_some_iff.1 hc).1).trans hc⟩
  · intro b o v hlt k
    rw [hno b o (Nat.lt_of_lt_of_le hlt hI.base)] at k
    exact hI.old b o v hlt k

theorem pure_calls {E : Env} (hE : EnvOk P E) (hp : ∀ B w0, PrimOk P E B w0) {f : FuncId} {n : Nat} {args : List AV} {r : AV} {st1 : St} (hf : AV.freeL args = true) (hr : AV.free r = true)
    (h : callF E n f (AV.plainL args) St.empty = some (r, st1)) {B : Nat} {w0 : World} {Γ : Ghost} {st : St} {w : World} {vargs : Array Value} (hI : Inv B w0 Γ st w) (hargs : RL Γ args vargs.toList) :
    Calls P f vargs w fun e w' => ∃ v Γ', e = .returned v ∧ Out B w0 Γ st Γ' st w' ∧ R Γ' (AV.plain r) v := by
  refine ((callF_sound hE (hp w.heap.size w) n f _ St.empty r st1 h).2 _ w vargs hI.inner (RL.plain (Γ := Γ) (Δ := ⟨Γ.inert, fun _ => none, fun _ => none, fun _ => none, fun _ => none, Γ.inert⟩) (fun _ _ _ k => k) args _ hf hargs)).mono ?_
  rintro e w' ⟨v, Γ1, he, out, hv⟩
  refine ⟨v, _, he, hI.back out.inv, R.plain (fun b o u k => ?_) r v hr hv⟩
  simp only [Ghost.back]
  split
  · rename_i hlt
    have := out.inv.old b o u hlt k
    rw [out.le.old] at this
    exact this
  · exact k
end
end Go.Abs

/- More fuel, the same result. -/
namespace Go.Abs

def CallLe (c d : Call1) : Prop := ∀ f args st r, c f args st = some r → d f args st = some r

theorem loud_mono {E : Env} {c d : Call1} (hc : CallLe c d) {pol : Nat} {tm : TM} {st : St} {o : Oper} {r : AV × St} (h : loud E c pol tm st o = some r) : loud E d pol tm st o = some r := by
  obtain ⟨dst, op, ty, pos, after, guard⟩ := o
  cases op <;> simp only [loud] at h ⊢ <;> (try exact h)
  case makeMap t x => cases x <;> exact h
  case call cl =>
    obtain ⟨callee, args, tys⟩ := cl
    cases callee with
    | builtin b => cases b <;> exact h
    | invoke rv m => exact h
    | value f =>
      dsimp only at h ⊢
      split at h
      · rename_i g first cap he
        exact hc _ _ _ _ h
      · cases h
theorem stepOp_mono {E : Env} {c d : Call1} (hc : CallLe c d) {pol : Nat} {tm : TM} {st : St} {o : Oper} {r : AV × St} (h : stepOp E c pol tm st o = some r) : stepOp E d pol tm st o = some r := by
  unfold stepOp at h ⊢
  split at h
  · rename_i hl
    rw [if_pos hl]
    split at h
    · rename_i v st' hs
      rw [loud_mono hc hs]
      exact h
    · cases h
  · rename_i hl
    rw [if_neg hl]; exact h
theorem stepPre_mono {E : Env} {c d : Call1} (hc : CallLe c d) {pre : Pre} {pol i : Nat} {tm : TM} {st : St} {o : Oper} {r : AV × St} (h : stepPre E c pre pol i tm st o = some r) : stepPre E d pre pol i tm st o = some r := by
  unfold stepPre at h ⊢
  split at h
  · exact h
  · exact h
  · exact h
  · exact stepOp_mono hc h
theorem runOps_mono {E : Env} {c d : Call1} (hc : CallLe c d) {pre : Pre} {pol : Nat → Nat} {ops : Array Oper} : ∀ (l : List Oper) (i : Nat) (tm : TM) (st : St) {r : TM × St}, runOps E c pre pol ops l i tm st = some r → runOps E d pre pol ops l i tm st = some r
  | [], _, _, _, _, h => h
  | o :: l, i, tm, st, r, h => by
    simp only [runOps] at h ⊢
    split at h
    · split at h
      · rename_i v st' hs
        rw [stepPre_mono hc hs]
        exact runOps_mono hc l (i + 1) _ _ h
      · cases h
    · exact runOps_mono hc l (i + 1) _ _ h
    · cases h
theorem runOpsT_mono {E : Env} {c d : Call1} (hc : CallLe c d) {pre : Pre} {pol : Nat → Nat} {ops : Array Oper} : ∀ (l : List Oper) (i : Nat) (tm : TM) (st : St) {r : List Tr × TM × St}, runOpsT E c pre pol ops l i tm st = some r → runOpsT E d pre pol ops l i tm st = some r
  | [], _, _, _, _, h => h
  | o :: l, i, tm, st, r, h => by
    simp only [runOpsT] at h ⊢
    split at h
    · split at h
      · rename_i v st' hs
        rw [stepPre_mono hc hs]
        split at h
        · rename_i l' q hl
          simp only [runOpsT_mono hc l (i + 1) _ _ hl]
          exact h
        · cases h
      · cases h
    · split at h
      · rename_i l' q hl
        simp only [runOpsT_mono hc l (i + 1) _ _ hl]
        exact h
      · cases h
    · cases h
theorem execReg_mono {E : Env} {c d : Call1} (hc : CallLe c d) {pol : Nat → Nat} {dy : List (Nat × Nat)} {mk : Bool} {ops : Array Oper} {draw : Bool} {tm : TM} {st : St} {r : TM × St} (h : execReg E c pol dy mk ops draw tm st = some r) : execReg E d pol dy mk ops draw tm st = some r := by
  unfold execReg at h ⊢
  split at h
  · rename_i hd
    rw [if_pos hd]
    split at h
    · cases h
    · rename_i objs hp
      cases mk with
      | true =>
        dsimp only at h ⊢
        split at h
        · rename_i l1 q1 hl1
          rw [runOpsT_mono hc _ _ _ _ hl1]
          dsimp only at h ⊢
          split at h
          · rename_i l q hl
            rw [runOpsT_mono hc _ _ _ _ hl]
            exact h
          · cases h
        · cases h
      | false =>
        dsimp only at h ⊢
        split at h
        · exact runOps_mono hc _ _ _ _ h
        · split at h
          · rename_i l q hl
            rw [runOpsT_mono hc _ _ _ _ hl]
            exact h
          · cases h
  · rename_i hd
    rw [if_neg hd]
    exact runOps_mono hc _ _ _ _ h
theorem exec_mono {E : Env} {c d : Call1} (hc : CallLe c d) {fid : Nat} : ∀ (n m : Nat) (k : Code) (tm : TM) (st : St) {r : AExit × TM × St}, n ≤ m → exec E c fid n k tm st = some r → exec E d fid m k tm st = some r
  | 0, _, _, _, _, _, _, h => by simp [exec] at h
  | n + 1, 0, _, _, _, _, hm, _ => by omega
  | n + 1, m + 1, k, tm, st, r, hm, h => by
    have ih : ∀ (k : Code) (tm : TM) (st : St) {r : AExit × TM × St}, exec E c fid n k tm st = some r → exec E d fid m k tm st = some r := fun k tm st _ h => exec_mono hc n m k tm st (by omega) h
    cases k with
    | region id ops draw =>
      simp only [exec] at h ⊢
      split at h
      · rename_i tm' st' hr
        rw [execReg_mono hc hr]; exact h
      · cases h
    | seq a b =>
      simp only [exec] at h ⊢
      split at h
      · rename_i tm' st' ha
        rw [ih a _ _ ha]; exact ih b _ _ h
      · rename_i x hx
        rw [ih a _ _ h]
        obtain ⟨e, tm', st'⟩ := r
        cases e with
        | normal => exact absurd h (hx _ _)
        | exit i => rfl
        | ret => rfl
    | cond x a b =>
      simp only [exec] at h ⊢
      split at h
      · exact ih a _ _ h
      · exact ih b _ _ h
      · cases h
    | block id a =>
      simp only [exec] at h ⊢
      split at h
      · rename_i i tm' st' ha
        rw [ih a _ _ ha]; exact h
      · rename_i x hx
        rw [ih a _ _ h]
        obtain ⟨e, tm', st'⟩ := r
        cases e with
        | normal => rfl
        | exit i => exact absurd h (hx _ _ _)
        | ret => rfl
    | loop a =>
      simp only [exec] at h ⊢
      split at h
      · rename_i tm' st' ha
        rw [ih a _ _ ha]; exact ih (.loop a) _ _ h
      · rename_i x hx
        rw [ih a _ _ h]
        obtain ⟨e, tm', st'⟩ := r
        cases e with
        | normal => exact absurd h (hx _ _)
        | exit i => rfl
        | ret => rfl
    | skip => exact h
    | ret => exact h
    | exit id => exact h
    | _ => simp [exec] at h
theorem callF_mono {E : Env} : ∀ (n m : Nat), n ≤ m → CallLe (callF E n) (callF E m)
  | 0, _, _ => fun _ _ _ _ h => by simp [callF] at h
  | n + 1, 0, h => by omega
  | n + 1, m + 1, hm => fun f args st r h => by
    simp only [callF] at h ⊢
    split at h
    · exact h
    · split at h
      · cases h
      · rename_i fn hf
        split at h
        · rename_i tm' st' hx
          rw [exec_mono (callF_mono n m (by omega)) n m _ _ _ (by omega) hx]; exact h
        · rename_i tm' st' hx
          rw [exec_mono (callF_mono n m (by omega)) n m _ _ _ (by omega) hx]; exact h
        · cases h
end Go.Abs

/- What holds when a piece of code has run, with however much fuel. -/
namespace Go.Abs

theorem exec_lift {E : Env} {fid n m k : Nat} {c : Code} {tm : TM} {st : St} {r : AExit × TM × St} (h : exec E (callF E n) fid n c tm st = some r) (hm : n ≤ m) (hk : n ≤ k) : exec E (callF E k) fid m c tm st = some r :=
  exec_mono (callF_mono n k hk) n m c tm st hm h

def W (E : Env) (fid : Nat) (c : Code) (tm : TM) (st : St) (Q : AExit → TM → St → Prop) : Prop :=
  ∃ n e tm' st', exec E (callF E n) fid n c tm st = some (e, tm', st') ∧ Q e tm' st'
def CW (E : Env) (f : FuncId) (args : List AV) (st : St) (Q : AV → St → Prop) : Prop :=
  ∃ n r st', callF E n f args st = some (r, st') ∧ Q r st'
def OW (E : Env) (pre : Pre) (pol : Nat → Nat) (ops : Array Oper) (l : List Oper) (i : Nat) (tm : TM) (st : St) (Q : TM → St → Prop) : Prop :=
  ∃ n tm' st', runOps E (callF E n) pre pol ops l i tm st = some (tm', st') ∧ Q tm' st'

section
variable {E : Env} {fid : Nat} {tm : TM} {st : St}

def seqQ (E : Env) (fid : Nat) (b : Code) (Q : AExit → TM → St → Prop) (e : AExit) (tm : TM) (st : St) : Prop :=
  match e with
  | .normal => W E fid b tm st Q
  | e => Q e tm st
theorem W.seq {a b : Code} {Q : AExit → TM → St → Prop} (h : W E fid a tm st (seqQ E fid b Q)) : W E fid (.seq a b) tm st Q := by
  obtain ⟨n, e, tm1, st1, h1, h2⟩ := h
  cases e with
  | normal =>
    obtain ⟨m, e', tm2, st2, h3, h4⟩ := h2
    refine ⟨max n m + 1, e', tm2, st2, ?_, h4⟩
    simp only [exec]
    rw [exec_lift h1 (by omega) (by omega)]
    exact exec_lift h3 (by omega) (by omega)
  | exit i =>
    refine ⟨n + 1, _, tm1, st1, ?_, h2⟩
    simp only [exec]
    rw [exec_lift h1 (by omega) (by omega)]
  | ret =>
    refine ⟨n + 1, _, tm1, st1, ?_, h2⟩
    simp only [exec]
    rw [exec_lift h1 (by omega) (by omega)]
theorem seqQ.normal {b : Code} {Q : AExit → TM → St → Prop} (h : W E fid b tm st Q) : seqQ E fid b Q .normal tm st := h
theorem seqQ.exit {b : Code} {Q : AExit → TM → St → Prop} {i : Nat} (h : Q (.exit i) tm st) : seqQ E fid b Q (.exit i) tm st := h
theorem seqQ.ret {b : Code} {Q : AExit → TM → St → Prop} (h : Q .ret tm st) : seqQ E fid b Q .ret tm st := h

def blockQ (i : Nat) (Q : AExit → TM → St → Prop) (e : AExit) (tm : TM) (st : St) : Prop :=
  match e with
  | .exit j => if j = i then Q .normal tm st else Q (.exit j) tm st
  | e => Q e tm st
theorem W.block {a : Code} {i : Nat} {Q : AExit → TM → St → Prop} (h : W E fid a tm st (blockQ i Q)) : W E fid (.block i a) tm st Q := by
  obtain ⟨n, e, tm1, st1, h1, h2⟩ := h
  cases e with
  | normal =>
    refine ⟨n + 1, _, tm1, st1, ?_, h2⟩
    simp only [exec]
    rw [exec_lift h1 (by omega) (by omega)]
  | exit j =>
    simp only [blockQ] at h2
    by_cases hj : j = i
    · rw [if_pos hj] at h2
      refine ⟨n + 1, _, tm1, st1, ?_, h2⟩
      simp only [exec]
      rw [exec_lift h1 (by omega) (by omega)]
      dsimp only
      rw [if_pos hj]
    · rw [if_neg hj] at h2
      refine ⟨n + 1, _, tm1, st1, ?_, h2⟩
      simp only [exec]
      rw [exec_lift h1 (by omega) (by omega)]
      dsimp only
      rw [if_neg hj]
  | ret =>
    refine ⟨n + 1, _, tm1, st1, ?_, h2⟩
    simp only [exec]
    rw [exec_lift h1 (by omega) (by omega)]
theorem blockQ.normal {i : Nat} {Q : AExit → TM → St → Prop} (h : Q .normal tm st) : blockQ i Q .normal tm st := h
theorem blockQ.here {i : Nat} {Q : AExit → TM → St → Prop} (h : Q .normal tm st) : blockQ i Q (.exit i) tm st := by
  simp only [blockQ, if_true]; exact h
theorem blockQ.exit {i j : Nat} {Q : AExit → TM → St → Prop} (hj : Nat.beq j i = false) (h : Q (.exit j) tm st) : blockQ i Q (.exit j) tm st := by
  have : j ≠ i := fun k => by subst k; simp at hj
  simp only [blockQ, if_neg this]; exact h
theorem blockQ.ret {i : Nat} {Q : AExit → TM → St → Prop} (h : Q .ret tm st) : blockQ i Q .ret tm st := h

theorem W.skip {Q : AExit → TM → St → Prop} (h : Q .normal tm st) : W E fid .skip tm st Q := ⟨1, _, _, _, rfl, h⟩
theorem W.ret {Q : AExit → TM → St → Prop} (h : Q .ret tm st) : W E fid .ret tm st Q := ⟨1, _, _, _, rfl, h⟩
theorem W.exit {i : Nat} {Q : AExit → TM → St → Prop} (h : Q (.exit i) tm st) : W E fid (.exit i) tm st Q := ⟨1, _, _, _, rfl, h⟩
theorem W.cond {c : Operand} {a b : Code} {Q : AExit → TM → St → Prop} {t : Bool} (ht : evalO tm c = .bool t) (h1 : t = true → W E fid a tm st Q) (h2 : t = false → W E fid b tm st Q) : W E fid (.cond c a b) tm st Q := by
  cases t with
  | true =>
    obtain ⟨n, e, tm1, st1, h3, h4⟩ := h1 rfl
    refine ⟨n + 1, e, tm1, st1, ?_, h4⟩
    simp only [exec]
    rw [ht]
    exact exec_lift h3 (by omega) (by omega)
  | false =>
    obtain ⟨n, e, tm1, st1, h3, h4⟩ := h2 rfl
    refine ⟨n + 1, e, tm1, st1, ?_, h4⟩
    simp only [exec]
    rw [ht]
    exact exec_lift h3 (by omega) (by omega)
theorem W.mono {c : Code} {Q Q' : AExit → TM → St → Prop} (h : W E fid c tm st Q) (hq : ∀ e tm st, Q e tm st → Q' e tm st) : W E fid c tm st Q' := by
  obtain ⟨n, e, tm1, st1, h1, h2⟩ := h
  exact ⟨n, e, tm1, st1, h1, hq _ _ _ h2⟩

def loopQ (I : Nat → TM → St → Prop) (k : Nat) (Q : AExit → TM → St → Prop) (e : AExit) (tm : TM) (st : St) : Prop :=
  match e with
  | .normal => ∃ j, j < k ∧ I j tm st
  | e => Q e tm st
theorem W.loop {c : Code} {Q : AExit → TM → St → Prop} (I : Nat → TM → St → Prop) (hb : ∀ k tm st, I k tm st → W E fid c tm st (loopQ I k Q)) : ∀ (k : Nat) (tm : TM) (st : St), I k tm st → W E fid (.loop c) tm st Q := by
  intro k
  induction k using Nat.strongRecOn with
  | ind k ih =>
    intro tm st h
    obtain ⟨n, e, tm1, st1, h1, h2⟩ := hb k tm st h
    cases e with
    | normal =>
      obtain ⟨j, hj, hI⟩ := h2
      obtain ⟨m, e', tm2, st2, h3, h4⟩ := ih j hj tm1 st1 hI
      refine ⟨max n m + 1, e', tm2, st2, ?_, h4⟩
      simp only [exec]
      rw [exec_lift h1 (by omega) (by omega)]
      exact exec_lift h3 (by omega) (by omega)
    | exit i =>
      refine ⟨n + 1, _, tm1, st1, ?_, h2⟩
      simp only [exec]
      rw [exec_lift h1 (by omega) (by omega)]
    | ret =>
      refine ⟨n + 1, _, tm1, st1, ?_, h2⟩
      simp only [exec]
      rw [exec_lift h1 (by omega) (by omega)]
theorem loopQ.normal {I : Nat → TM → St → Prop} {k : Nat} {Q : AExit → TM → St → Prop} (j : Nat) (hj : j < k) (h : I j tm st) : loopQ I k Q .normal tm st := ⟨j, hj, h⟩
theorem loopQ.exit {I : Nat → TM → St → Prop} {k : Nat} {Q : AExit → TM → St → Prop} {i : Nat} (h : Q (.exit i) tm st) : loopQ I k Q (.exit i) tm st := h
theorem loopQ.ret {I : Nat → TM → St → Prop} {k : Nat} {Q : AExit → TM → St → Prop} (h : Q .ret tm st) : loopQ I k Q .ret tm st := h

theorem W.region {id : Nat} {ops : Array Oper} {Q : AExit → TM → St → Prop} (h : OW E none (E.pol fid id) ops ops.toList 0 tm st (Q .normal)) : W E fid (.region id ops false) tm st Q := by
  obtain ⟨n, tm1, st1, h1, h2⟩ := h
  refine ⟨n + 1, .normal, tm1, st1, ?_, h2⟩
  simp only [exec, execReg, Bool.false_eq_true, if_false]
  rw [runOps_mono (callF_mono n (n + 1) (by omega)) _ _ _ _ h1]
def St.at (st : St) (n : Nat) : St := { st with next := n }
def hasAlloc (ops : Array Oper) : Bool := ops.toList.any fun o => match o.op with | .alloc _ => true | _ => false
theorem preObjs_none {E : Env} {base : Nat} : ∀ (l : List Oper) (i : Nat) (acc : List (Nat × AObj)), (l.any fun o => match o.op with | .alloc _ => true | _ => false) = false → preObjs E base l i acc = some acc
  | [], _, _, _ => rfl
  | o :: l, i, acc, h => by
    simp only [List.any_cons, Bool.or_eq_false_iff] at h
    have ih := preObjs_none (E := E) (base := base) l (i + 1) acc h.2
    unfold preObjs
    split
    · rename_i t ht
      rw [ht] at h; simp at h
    · exact ih
theorem W.draw {id : Nat} {ops : Array Oper} {Q : AExit → TM → St → Prop} {objs : List (Nat × AObj)} (hd : E.dyn fid id = []) (ho : preObjs E st.next ops.toList 0 st.objs = some objs) (hk : E.mks fid id = false)
    (h : OW E (some (st.next, false)) (E.pol fid id) ops ops.toList 0 tm { st with next := st.next + ops.size, objs := objs } (Q .normal)) : W E fid (.region id ops true) tm st Q := by
  obtain ⟨n, tm1, st1, h1, h2⟩ := h
  refine ⟨n + 1, .normal, tm1, st1, ?_, h2⟩
  simp only [exec, execReg, if_true, ho, hd, hk]
  rw [runOps_mono (callF_mono n (n + 1) (by omega)) _ _ _ _ h1]
theorem W.draw0 {id : Nat} {ops : Array Oper} {Q : AExit → TM → St → Prop} (hd : E.dyn fid id = []) (ho : hasAlloc ops = false) (hk : E.mks fid id = false)
    (h : OW E (some (st.next, false)) (E.pol fid id) ops ops.toList 0 tm (st.at (st.next + ops.size)) (Q .normal)) : W E fid (.region id ops true) tm st Q :=
  W.draw hd (preObjs_none _ _ _ ho) hk h

theorem OW.nil {pre : Pre} {pol : Nat → Nat} {ops : Array Oper} {i : Nat} {Q : TM → St → Prop} (h : Q tm st) : OW E pre pol ops [] i tm st Q := ⟨0, tm, st, rfl, h⟩
theorem stepPre_quiet {call : Call1} {pre : Pre} {pol i : Nat} {o : Oper} {v : AV} (hl : isLoud o.op = false) (hq : quiet E tm st o = some v) : stepPre E call pre pol i tm st o = some (v, st) := by
  unfold stepPre
  split
  · rename_i h; rw [h] at hl; simp [isLoud] at hl
  · rename_i h; rw [h] at hl; simp [isLoud] at hl
  · rename_i h; rw [h] at hl; simp [isLoud] at hl
  · unfold stepOp
    rw [hl, hq]; rfl
theorem OW.quiet {pre : Pre} {pol : Nat → Nat} {ops : Array Oper} {o : Oper} {r : List Oper} {i : Nat} {Q : TM → St → Prop} {v : AV} (hw : wantedA ops tm o = some true) (hl : isLoud o.op = false) (hq : quiet E tm st o = some v)
    (k : OW E pre pol ops r (i + 1) (putO tm o.dst v) st Q) : OW E pre pol ops (o :: r) i tm st Q := by
  obtain ⟨n, tm1, st1, h1, h2⟩ := k
  refine ⟨n, tm1, st1, ?_, h2⟩
  simp only [runOps]
  rw [hw]
  dsimp only
  rw [stepPre_quiet hl hq]
  exact h1
theorem OW.skip {pre : Pre} {pol : Nat → Nat} {ops : Array Oper} {o : Oper} {r : List Oper} {i : Nat} {Q : TM → St → Prop} (hw : wantedA ops tm o = some false)
    (k : OW E pre pol ops r (i + 1) (putO tm o.dst (.tup [])) st Q) : OW E pre pol ops (o :: r) i tm st Q := by
  obtain ⟨n, tm1, st1, h1, h2⟩ := k
  refine ⟨n, tm1, st1, ?_, h2⟩
  simp only [runOps]
  rw [hw]
  exact h1
theorem OW.alloc {base : Nat} {pol : Nat → Nat} {ops : Array Oper} {dst : Option Tmp} {t : TypeId} {ty pos : _} {after : _} {r : List Oper} {i : Nat} {Q : TM → St → Prop}
    (k : OW E (some (base, false)) pol ops r (i + 1) (putO tm dst (.ptr (base + i) 0 0)) st Q) : OW E (some (base, false)) pol ops ({ dst := dst, op := .alloc t, type := ty, pos := pos, after := after, guard := none } :: r) i tm st Q := by
  obtain ⟨n, tm1, st1, h1, h2⟩ := k
  refine ⟨n, tm1, st1, ?_, h2⟩
  simp only [runOps, wantedA, stepPre]
  exact h1
def noCall : Call1 := fun _ _ _ => none
theorem stepPre_loud {call : Call1} {pre : Pre} {pol i : Nat} {o : Oper} {v : AV} {st' : St} (hp : ∀ b, pre = some b → b.2 = false ∧ ∀ t, o.op ≠ .alloc t) (hl : isLoud o.op = true) (hf : isFnCall o.op = false) (hq : loud E noCall pol tm st o = some (v, st')) : stepPre E call pre pol i tm st o = some (v, st') := by
  unfold stepPre
  split
  · rename_i b f t h; exact absurd h ((hp _ rfl).2 t)
  · have := (hp _ rfl).1; cases this
  · have := (hp _ rfl).1; cases this
  · unfold stepOp
    rw [if_pos hl, loud_mono (fun _ _ _ _ h => by cases h) hq]
    dsimp only
    rw [hf, Bool.and_false]; rfl
theorem OW.loud {pre : Pre} {pol : Nat → Nat} {ops : Array Oper} {o : Oper} {r : List Oper} {i : Nat} {Q : TM → St → Prop} {v : AV} {st' : St} (hw : wantedA ops tm o = some true) (hp : ∀ b, pre = some b → b.2 = false ∧ ∀ t, o.op ≠ .alloc t) (hl : isLoud o.op = true) (hf : isFnCall o.op = false) (hq : loud E noCall (pol i) tm st o = some (v, st'))
    (k : OW E pre pol ops r (i + 1) (putO tm o.dst v) st' Q) : OW E pre pol ops (o :: r) i tm st Q := by
  obtain ⟨n, tm1, st1, h1, h2⟩ := k
  refine ⟨n, tm1, st1, ?_, h2⟩
  simp only [runOps]
  rw [hw]
  dsimp only
  rw [stepPre_loud hp hl hf hq]
  exact h1
def callQ (E : Env) (pre : Pre) (pol : Nat → Nat) (ops : Array Oper) (dst : Option Tmp) (l : List Oper) (i : Nat) (tm : TM) (Q : TM → St → Prop) (r : AV) (st : St) : Prop :=
  ∃ v st', (if pol i = 2 then freezeA st r else some (r, st)) = some (v, st') ∧ OW E pre pol ops l (i + 1) (putO tm dst v) st' Q
theorem OW.call {pre : Pre} {pol : Nat → Nat} {ops : Array Oper} {dst : Option Tmp} {f : Operand} {args : Array Operand} {argTypes : Array TypeId} {ty pos : _} {after : _} {g : FuncId} {first cap : List AV} {r : List Oper} {i : Nat} {Q : TM → St → Prop}
    (hf : evalO tm f = .fn g first cap) (h : CW E g (first ++ args.toList.map (evalO tm) ++ cap) st (callQ E pre pol ops dst r i tm Q)) :
    OW E pre pol ops ({ dst := dst, op := .call { callee := .value f, args := args, argTypes := argTypes }, type := ty, pos := pos, after := after, guard := none } :: r) i tm st Q := by
  obtain ⟨n, v, st1, h1, v', st2, h2, m, tm3, st3, h3, h4⟩ := h
  refine ⟨max n m, tm3, st3, ?_, h4⟩
  have h1' := callF_mono n (max n m) (by omega) _ _ _ _ h1
  have hs : stepPre E (callF E (max n m)) pre (pol i) i tm st { dst := dst, op := .call { callee := .value f, args := args, argTypes := argTypes }, type := ty, pos := pos, after := after, guard := none } = some (v', st2) := by
    have hl : Abs.loud E (callF E (max n m)) (pol i) tm st { dst := dst, op := .call { callee := .value f, args := args, argTypes := argTypes }, type := ty, pos := pos, after := after, guard := none } = some (v, st1) := by
      have : Abs.loud E (callF E (max n m)) (pol i) tm st { dst := dst, op := .call { callee := .value f, args := args, argTypes := argTypes }, type := ty, pos := pos, after := after, guard := none } = (match evalO tm f with | .fn g first cap => callF E (max n m) g (first ++ args.toList.map (evalO tm) ++ cap) st | _ => none) := rfl
      rw [this, hf]
      exact h1'
    simp only [stepPre, stepOp, isLoud, if_true, hl, isFnCall, Bool.and_true, decide_eq_true_eq]
    exact h2
  simp only [runOps, wantedA]
  rw [hs]
  exact runOps_mono (callF_mono m (max n m) (by omega)) _ _ _ _ h3
theorem callQ.plain {pre : Pre} {pol : Nat → Nat} {ops : Array Oper} {dst : Option Tmp} {l : List Oper} {i : Nat} {Q : TM → St → Prop} {r : AV} (hr : freezeA st r = some (r, st)) (h : OW E pre pol ops l (i + 1) (putO tm dst r) st Q) : callQ E pre pol ops dst l i tm Q r st := by
  refine ⟨r, st, ?_, h⟩
  split
  · exact hr
  · rfl

def retQ (E : Env) (rs : List ResultVar) (Q : AV → St → Prop) (e : AExit) (tm : TM) (st : St) : Prop :=
  (e = .normal ∨ e = .ret) ∧ ∃ v, resultsA E rs tm st = some v ∧ Q v st
theorem retQ.ret {rs : List ResultVar} {Q : AV → St → Prop} {v : AV} (h : resultsA E rs tm st = some v) (hq : Q v st) : retQ E rs Q .ret tm st := ⟨.inr rfl, v, h, hq⟩
theorem retQ.normal {rs : List ResultVar} {Q : AV → St → Prop} {v : AV} (h : resultsA E rs tm st = some v) (hq : Q v st) : retQ E rs Q .normal tm st := ⟨.inl rfl, v, h, hq⟩
theorem CW.fn {f : FuncId} {fn : FnI} {args : List AV} {Q : AV → St → Prop} (hp : E.prim f = none) (hf : E.fns f = some fn)
    (h : ∀ tm, tm.n = max fn.ntmps args.length → (∀ i x, args[i]? = some x → tm.get i = x) → W E f fn.code tm st (retQ E fn.results Q)) : CW E f args st Q := by
  have hof : ∀ i x, args[i]? = some x → (TM.of args fn.ntmps).get i = x := fun i x hx => by
    obtain ⟨hi, h1⟩ := List.getElem?_eq_some_iff.1 hx
    simp only [TM.of, TM.get]
    rw [Tri.get_ofL, if_pos (by omega), Nat.sub_zero, List.getD_eq_getElem?_getD, hx]; rfl
  obtain ⟨n, e, tm1, st1, h1, he, v, h2, h3⟩ := h (TM.of args fn.ntmps) rfl hof
  refine ⟨n + 1, v, st1, ?_, h3⟩
  simp only [callF, hp, hf]
  rw [h1]
  rcases he with rfl | rfl <;> simp only [h2, Option.map_some]
theorem CW.prim {f : FuncId} {g : List AV → St → Option (AV × St)} {args : List AV} {Q : AV → St → Prop} {r : AV} {st' : St} (hp : E.prim f = some g) (h : g args st = some (r, st')) (hq : Q r st') : CW E f args st Q := by
  refine ⟨1, r, st', ?_, hq⟩
  simp only [callF, hp]
  exact h
theorem CW.mono {f : FuncId} {args : List AV} {Q Q' : AV → St → Prop} (h : CW E f args st Q) (hq : ∀ r st, Q r st → Q' r st) : CW E f args st Q' := by
  obtain ⟨n, r, st1, h1, h2⟩ := h
  exact ⟨n, r, st1, h1, hq _ _ h2⟩
end
end Go.Abs

/- Regions with their traces; facts on tmps and objects. -/
namespace Go.Abs

theorem runOps_of_T {E : Env} {c : Call1} {pre : Pre} {pol : Nat → Nat} {ops : Array Oper} : ∀ (l : List Oper) (i : Nat) (tm : TM) (st : St) {tr : List Tr} {q : TM × St}, runOpsT E c pre pol ops l i tm st = some (tr, q) → runOps E c pre pol ops l i tm st = some q ∧ tr.length = l.length
  | [], _, _, _, _, _, h => by
    simp only [runOpsT, Option.some.injEq, Prod.mk.injEq] at h
    obtain ⟨rfl, rfl⟩ := h
    exact ⟨rfl, rfl⟩
  | o :: l, i, tm, st, tr, q, h => by
    cases hw : wantedA ops tm o with
    | none => simp only [runOpsT, hw] at h; cases h
    | some b =>
      cases b with
      | true =>
        cases hs : stepPre E c pre (pol i) i tm st o with
        | none => simp only [runOpsT, hw, hs] at h; cases h
        | some vs =>
          obtain ⟨v, st'⟩ := vs
          cases hl : runOpsT E c pre pol ops l (i + 1) (putO tm o.dst v) st' with
          | none => simp only [runOpsT, hw, hs, hl] at h; cases h
          | some lq =>
            obtain ⟨l', q'⟩ := lq
            simp only [runOpsT, hw, hs, hl, Option.some.injEq, Prod.mk.injEq] at h
            obtain ⟨rfl, rfl⟩ := h
            have := runOps_of_T l (i + 1) _ _ hl
            simp only [runOps, hw, hs]
            exact ⟨this.1, by simp [this.2]⟩
      | false =>
        cases hl : runOpsT E c pre pol ops l (i + 1) (putO tm o.dst (.tup [])) st with
        | none => simp only [runOpsT, hw, hl] at h; cases h
        | some lq =>
          obtain ⟨l', q'⟩ := lq
          simp only [runOpsT, hw, hl, Option.some.injEq, Prod.mk.injEq] at h
          obtain ⟨rfl, rfl⟩ := h
          have := runOps_of_T l (i + 1) _ _ hl
          simp only [runOps, hw]
          exact ⟨this.1, by simp [this.2]⟩

/-- The state stays, and what is quiet says the same all along. -/
def Stays (E : Env) (st : St) (l : List Oper) (tr : List Tr) : Prop :=
  ∀ (k : Nat) (t : Tr) (o : Oper), tr[k]? = some t → l[k]? = some o → t.was = st ∧ t.now = st ∧ (t.did = true → isLoud o.op = false → quiet E t.tm st o = some t.v)
theorem Stays.cons {E : Env} {st : St} {o : Oper} {l : List Oper} {t : Tr} {tr : List Tr} (h : t.was = st ∧ t.now = st ∧ (t.did = true → isLoud o.op = false → quiet E t.tm st o = some t.v)) (hs : Stays E st l tr) : Stays E st (o :: l) (t :: tr) := by
  intro k t' o' h1 h2
  cases k with
  | zero =>
    simp only [List.getElem?_cons_zero, Option.some.injEq] at h1 h2
    subst h1; subst h2; exact h
  | succ k =>
    simp only [List.getElem?_cons_succ] at h1 h2
    exact hs k t' o' h1 h2

def OWc (E : Env) (c : Bool) (pre : Pre) (pol : Nat → Nat) (ops : Array Oper) (l : List Oper) (i : Nat) (tm : TM) (st : St) (Q : TM → St → Prop) : Prop :=
  ∃ n tr tm' st', runOpsT E (callF E n) pre pol ops l i tm st = some (tr, tm', st') ∧ (c = true → st' = st ∧ Stays E st l tr) ∧ Q tm' st'

section
variable {E : Env} {fid : Nat} {tm : TM} {st : St}

theorem OWc.toOW {c : Bool} {pre : Pre} {pol : Nat → Nat} {ops : Array Oper} {l : List Oper} {i : Nat} {Q : TM → St → Prop} (h : OWc E c pre pol ops l i tm st Q) : OW E pre pol ops l i tm st Q := by
  obtain ⟨n, tr, tm', st', h1, _, h2⟩ := h
  exact ⟨n, tm', st', (runOps_of_T _ _ _ _ h1).1, h2⟩

def dyCheck (ops : Array Oper) (dy : List (Nat × Nat)) : Bool :=
  dy.all fun p => Nat.blt p.1 ops.toList.length && Nat.blt p.2 ops.toList.length && (match ops.toList[p.2]? with | some o => !isLoud o.op | none => false)
theorem W.drawC {id : Nat} {ops : Array Oper} {dy : List (Nat × Nat)} {Q : AExit → TM → St → Prop} (hd : E.dyn fid id = dy) (ho : hasAlloc ops = false) (hc : dyCheck ops dy = true)
    (h : OWc E true (some (st.next, false)) (E.pol fid id) ops ops.toList 0 tm (st.at (st.next + ops.size)) (Q .normal)) (hk : E.mks fid id = false := by rfl) : W E fid (.region id ops true) tm st Q := by
  obtain ⟨n, tr, tm1, st1, h1, hs, h2⟩ := h
  obtain ⟨hst, hsy⟩ := hs rfl
  subst hst
  have hlen := (runOps_of_T _ _ _ _ h1).2
  refine ⟨n + 1, .normal, tm1, _, ?_, h2⟩
  have hpre : preObjs E st.next ops.toList 0 st.objs = some st.objs := preObjs_none _ _ _ ho
  have h1' := runOpsT_mono (callF_mono n (n + 1) (by omega)) _ _ _ _ h1
  simp only [exec, execReg, if_true, hpre, hd, hk]
  cases dy with
  | nil =>
    dsimp only
    have := (runOps_of_T _ _ _ _ h1').1
    unfold St.at at this
    rw [this]
    rfl
  | cons d ds =>
    dsimp only
    unfold St.at at h1'
    rw [h1']
    dsimp only
    have hall : (d :: ds).all (dynOk E ops tr) = true := by
      rw [List.all_eq_true]
      intro p hp
      have hc' := List.all_eq_true.1 hc p hp
      simp only [Bool.and_eq_true] at hc'
      obtain ⟨⟨c1, c2⟩, c3⟩ := hc'
      have c1 : p.1 < ops.toList.length := Eq.mp Nat.blt_eq c1
      have c2 : p.2 < ops.toList.length := Eq.mp Nat.blt_eq c2
      have e1 : p.1 < tr.length := by rw [hlen]; exact c1
      have e2 : p.2 < tr.length := by rw [hlen]; exact c2
      have o1 := List.getElem?_eq_getElem c1
      have o2 := List.getElem?_eq_getElem c2
      have t1 := List.getElem?_eq_getElem e1
      have t2 := List.getElem?_eq_getElem e2
      rw [o2] at c3
      have c3 : isLoud ops.toList[p.2].op = false := by simpa using c3
      obtain ⟨a1, a2, _⟩ := hsy p.1 _ _ t1 o1
      obtain ⟨_, _, b3⟩ := hsy p.2 _ _ t2 o2
      unfold dynOk
      rw [t1, t2, show ops[p.2]? = ops.toList[p.2]? from (Array.getElem?_toList).symm, o2]
      dsimp only
      by_cases hd1 : tr[p.2].did = true
      · rw [a1, a2, b3 hd1 c3]
        simp [AV.beq_refl]
      · simp [hd1]
    rw [if_pos hall]
    rfl

/-! ### Facts -/
def lk : List (Nat × AV) → Nat → Option AV
  | [], _ => none
  | (i, v) :: r, j => bif Nat.beq i j then some v else lk r j
def evL (l : List (Nat × AV)) : Operand → Option AV
  | .tmp t => lk l t
  | .const v => some (ofValue v)
  | .global g => some (.gptr g)
  | .func f => some (.fn f [] [])
def evLs (l : List (Nat × AV)) : List Operand → Option (List AV)
  | [] => some []
  | x :: r => match evL l x, evLs l r with
    | some v, some vs => some (v :: vs)
    | _, _ => none

/-- What is known: how many tmps, some tmps, some objects, some tokens (where the flag says so). -/
structure Fa (N : Nat) (l : List (Nat × AV)) (L : List (Nat × AObj)) (K : List (Nat × Bool)) (tm : TM) (st : St) : Prop where
  n : tm.n = N
  get : ∀ i v, lk l i = some v → tm.get i = v
  obj : ∀ (k b : Nat) (o : AObj), L[k]? = some (b, o) → st.get b = some o ∧ b < st.next
  uniq : ∀ (k k' b : Nat) (o o' : AObj), L[k]? = some (b, o) → L[k']? = some (b, o') → k = k'
  tok : ∀ (k t : Nat), K[k]? = some (t, true) → st.alive t = true ∧ t < st.next
  uniqT : ∀ (k k' t : Nat), K[k]? = some (t, true) → K[k']? = some (t, true) → k = k'

theorem Fa.ev {N : Nat} {l : List (Nat × AV)} {L : List (Nat × AObj)} {K : List (Nat × Bool)} (h : Fa N l L K tm st) {x : Operand} {v : AV} (hx : evL l x = some v) : evalO tm x = v := by
  cases x with
  | tmp t => exact h.get t v hx
  | const u => simpa [evL, evalO] using hx
  | global g => simpa [evL, evalO] using hx
  | func f => simpa [evL, evalO] using hx
theorem Fa.evs {N : Nat} {l : List (Nat × AV)} {L : List (Nat × AObj)} {K : List (Nat × Bool)} (h : Fa N l L K tm st) : ∀ {xs : List Operand} {vs : List AV}, evLs l xs = some vs → xs.map (evalO tm) = vs
  | [], vs, hx => by simpa [evLs] using hx
  | x :: xs, vs, hx => by
    simp only [evLs] at hx
    split at hx
    · rename_i v ws h1 h2
      cases hx
      rw [List.map_cons, h.ev h1, h.evs h2]
    · cases hx
theorem Fa.put {N : Nat} {l : List (Nat × AV)} {L : List (Nat × AObj)} {K : List (Nat × Bool)} (h : Fa N l L K tm st) {d : Nat} (hd : Nat.blt d N = true) (v : AV) : Fa N ((d, v) :: l) L K (tm.put d v) st := by
  have hd' : d < tm.n := by rw [h.n]; exact Eq.mp Nat.blt_eq hd
  refine ⟨by rw [TM.n_put]; exact h.n, fun i u hu => ?_, h.obj, h.uniq, h.tok, h.uniqT⟩
  rw [TM.get_put]
  simp only [lk] at hu
  cases hb : Nat.beq d i with
  | true =>
    rw [hb] at hu
    simp only [cond_true, Option.some.injEq] at hu
    have := Nat.eq_of_beq_eq_true hb
    rw [if_pos ⟨this.symm, hd'⟩]; exact hu
  | false =>
    rw [hb] at hu
    simp only [cond_false] at hu
    have := Nat.ne_of_beq_eq_false hb
    rw [if_neg (fun k => this k.1.symm)]
    exact h.get i u hu
def Sub (l l' : List (Nat × AV)) : Prop := ∀ i v, lk l' i = some v → lk l i = some v
theorem Sub.nil (l : List (Nat × AV)) : Sub l [] := fun _ _ h => by simp [lk] at h
theorem Sub.cons {l l' : List (Nat × AV)} {i : Nat} {v : AV} (h : lk l i = some v) (k : Sub l l') : Sub l ((i, v) :: l') := by
  intro j u hu
  simp only [lk] at hu
  cases hb : Nat.beq i j with
  | true =>
    rw [hb] at hu
    simp only [cond_true, Option.some.injEq] at hu
    have := Nat.eq_of_beq_eq_true hb
    subst this; rw [h, hu]
  | false =>
    rw [hb] at hu
    exact k j u hu
theorem Sub.refl (l : List (Nat × AV)) : Sub l l := fun _ _ h => h

/-- Objects, and tokens, that are known to be there: by places. -/
def SubO (L L' : List (Nat × AObj)) : Prop := ∃ f : Nat → Nat, (∀ (k : Nat) (p : Nat × AObj), L'[k]? = some p → L[f k]? = some p) ∧ ∀ k k' : Nat, k < L'.length → k' < L'.length → f k = f k' → k = k'
theorem SubO.nil (L : List (Nat × AObj)) : SubO L [] := ⟨id, fun k p h => by simp at h, fun k k' h => by simp at h⟩
theorem SubO.refl (L : List (Nat × AObj)) : SubO L L := ⟨id, fun k p h => h, fun k k' _ _ h => h⟩
def SubK (K K' : List (Nat × Bool)) : Prop := ∃ f : Nat → Nat, (∀ (k t : Nat), K'[k]? = some (t, true) → K[f k]? = some (t, true)) ∧ ∀ k k' t t' : Nat, K'[k]? = some (t, true) → K'[k']? = some (t', true) → f k = f k' → k = k'
theorem SubK.nil (K : List (Nat × Bool)) : SubK K [] := ⟨id, fun k t h => by simp at h, fun k k' t t' h => by simp at h⟩
theorem SubK.refl (K : List (Nat × Bool)) : SubK K K := ⟨id, fun _ _ h => h, fun _ _ _ _ _ _ h => h⟩
theorem SubK.drop {K K' : List (Nat × Bool)} {p : Nat × Bool} (h : SubK K K') : SubK (p :: K) K' := by
  obtain ⟨f, h1, h2⟩ := h
  exact ⟨fun k => f k + 1, fun k q hk => by simpa using h1 k q hk, fun k k' t t' a b e => h2 k k' t t' a b (by simpa using e)⟩
theorem SubK.keep {K K' : List (Nat × Bool)} {t : Nat} {b b' : Bool} (hb : b' = true → b = true) (h : SubK K K') : SubK ((t, b) :: K) ((t, b') :: K') := by
  obtain ⟨f, h1, h2⟩ := h
  refine ⟨fun k => match k with | 0 => 0 | k + 1 => f k + 1, fun k q hk => ?_, fun k k' u u' a b e => ?_⟩
  · cases k with
    | zero =>
      simp only [List.getElem?_cons_zero, Option.some.injEq, Prod.mk.injEq] at hk ⊢
      exact ⟨hk.1, hb hk.2⟩
    | succ k => simpa using h1 k q (by simpa using hk)
  · cases k with
    | zero => cases k' with
      | zero => rfl
      | succ k' => simp at e
    | succ k => cases k' with
      | zero => simp at e
      | succ k' =>
        simp only [Nat.add_right_cancel_iff] at e
        rw [h2 k k' u u' (by simpa using a) (by simpa using b) e]
theorem SubK.new {K K' : List (Nat × Bool)} {t : Nat} (h : SubK K K') : SubK K ((t, false) :: K') := by
  obtain ⟨f, h1, h2⟩ := h
  refine ⟨fun k => match k with | 0 => 0 | k + 1 => f k, fun k q hk => ?_, fun k k' u u' a b e => ?_⟩
  · cases k with
    | zero => simp at hk
    | succ k => simpa using h1 k q (by simpa using hk)
  · cases k with
    | zero => simp at a
    | succ k => cases k' with
      | zero => simp at b
      | succ k' => rw [h2 k k' u u' (by simpa using a) (by simpa using b) e]
theorem SubO.drop {L L' : List (Nat × AObj)} {p : Nat × AObj} (h : SubO L L') : SubO (p :: L) L' := by
  obtain ⟨f, h1, h2⟩ := h
  exact ⟨fun k => f k + 1, fun k q hk => by simpa using h1 k q hk, fun k k' a b e => h2 k k' a b (by simpa using e)⟩
theorem SubO.keep {L L' : List (Nat × AObj)} {p : Nat × AObj} (h : SubO L L') : SubO (p :: L) (p :: L') := by
  obtain ⟨f, h1, h2⟩ := h
  refine ⟨fun k => match k with | 0 => 0 | k + 1 => f k + 1, fun k q hk => ?_, fun k k' a b e => ?_⟩
  · cases k with
    | zero => exact hk
    | succ k => simpa using h1 k q (by simpa using hk)
  · simp only [List.length_cons] at a b
    cases k with
    | zero => cases k' with
      | zero => rfl
      | succ k' => simp at e
    | succ k => cases k' with
      | zero => simp at e
      | succ k' =>
        simp only [Nat.add_right_cancel_iff] at e
        rw [h2 k k' (by omega) (by omega) e]
theorem Fa.sub {N : Nat} {l l' : List (Nat × AV)} {L L' : List (Nat × AObj)} {K K' : List (Nat × Bool)} (h : Fa N l L K tm st) (h1 : Sub l l') (h2 : SubO L L') (h3 : SubK K K') : Fa N l' L' K' tm st := by
  obtain ⟨f, f1, f2⟩ := h2
  obtain ⟨g, g1, g2⟩ := h3
  refine ⟨h.n, fun i v hv => h.get i v (h1 i v hv), fun k b o hk => h.obj (f k) b o (f1 k _ hk), fun k k' b o o' hk hk' => ?_, fun k t hk => ?_, fun k k' t hk hk' => ?_⟩
  · exact f2 k k' (List.getElem?_eq_some_iff.1 hk).1 (List.getElem?_eq_some_iff.1 hk').1 (h.uniq _ _ b o o' (f1 k _ hk) (f1 k' _ hk'))
  · exact h.tok (g k) t (g1 k t hk)
  · exact g2 k k' t t hk hk' (h.uniqT _ _ t (g1 k t hk) (g1 k' t hk'))
theorem Fa.at {N : Nat} {l : List (Nat × AV)} {L : List (Nat × AObj)} {K : List (Nat × Bool)} (h : Fa N l L K tm st) {m : Nat} (hm : st.next ≤ m) : Fa N l L K tm (st.at m) :=
  ⟨h.n, h.get, fun k b o hk => ⟨(h.obj k b o hk).1, Nat.lt_of_lt_of_le (h.obj k b o hk).2 hm⟩, h.uniq, fun k t hk => ⟨(h.tok k t hk).1, Nat.lt_of_lt_of_le (h.tok k t hk).2 hm⟩, h.uniqT⟩
end

def WS (E : Env) (fid N : Nat) (c : Code) (l : List (Nat × AV)) (L : List (Nat × AObj)) (K : List (Nat × Bool)) (Q : AExit → TM → St → Prop) : Prop :=
  ∀ tm st, Fa N l L K tm st → W E fid c tm st Q
def QS (N : Nat) (e : AExit) (l : List (Nat × AV)) (L : List (Nat × AObj)) (K : List (Nat × Bool)) (Q : AExit → TM → St → Prop) : Prop :=
  ∀ tm st, Fa N l L K tm st → Q e tm st
/-- A region's rest. -/
def OS (E : Env) (c : Bool) (pol : Nat → Nat) (ops : Array Oper) (r : List Oper) (i N : Nat) (l : List (Nat × AV)) (L : List (Nat × AObj)) (K : List (Nat × Bool)) (Q : AExit → TM → St → Prop) : Prop :=
  ∀ pre tm st, Fa N l L K tm st → (∀ b, pre = some b → hasAlloc ops = false ∧ b.2 = false) → OWc E c pre pol ops r i tm st (Q .normal)
/-- The same, where the first operation is carried out. -/
def OD (E : Env) (c : Bool) (pol : Nat → Nat) (ops : Array Oper) (o : Oper) (r : List Oper) (i N : Nat) (l : List (Nat × AV)) (L : List (Nat × AObj)) (K : List (Nat × Bool)) (Q : AExit → TM → St → Prop) : Prop :=
  ∀ pre tm st, Fa N l L K tm st → (∀ b, pre = some b → hasAlloc ops = false ∧ b.2 = false) → wantedA ops tm o = some true → OWc E c pre pol ops (o :: r) i tm st (Q .normal)

section
variable {E : Env} {fid N : Nat} {l : List (Nat × AV)} {L : List (Nat × AObj)} {K : List (Nat × Bool)} {Q : AExit → TM → St → Prop}

theorem WS.seq {a b : Code} (h : WS E fid N a l L K (seqQ E fid b Q)) : WS E fid N (.seq a b) l L K Q := fun tm st hF => .seq (h tm st hF)
theorem WS.block {a : Code} {i : Nat} (h : WS E fid N a l L K (blockQ i Q)) : WS E fid N (.block i a) l L K Q := fun tm st hF => .block (h tm st hF)
theorem WS.skip (h : QS N .normal l L K Q) : WS E fid N .skip l L K Q := fun tm st hF => .skip (h tm st hF)
theorem WS.ret (h : QS N .ret l L K Q) : WS E fid N .ret l L K Q := fun tm st hF => .ret (h tm st hF)
theorem WS.exit {i : Nat} (h : QS N (.exit i) l L K Q) : WS E fid N (.exit i) l L K Q := fun tm st hF => .exit (h tm st hF)
theorem WS.condT {c : Operand} {a b : Code} (ht : evL l c = some (.bool true)) (h : WS E fid N a l L K Q) : WS E fid N (.cond c a b) l L K Q :=
  fun tm st hF => .cond (hF.ev ht) (fun _ => h tm st hF) (fun k => by cases k)
theorem WS.condF {c : Operand} {a b : Code} (ht : evL l c = some (.bool false)) (h : WS E fid N b l L K Q) : WS E fid N (.cond c a b) l L K Q :=
  fun tm st hF => .cond (hF.ev ht) (fun k => by cases k) (fun _ => h tm st hF)
theorem WS.cond {c : Operand} {a b : Code} {t : Bool} (ht : evL l c = some (.bool t)) (h1 : t = true → WS E fid N a l L K Q) (h2 : t = false → WS E fid N b l L K Q) : WS E fid N (.cond c a b) l L K Q :=
  fun tm st hF => .cond (hF.ev ht) (fun k => h1 k tm st hF) (fun k => h2 k tm st hF)
theorem WS.region {id : Nat} {ops : Array Oper} (h : OS E false (E.pol fid id) ops ops.toList 0 N l L K Q) : WS E fid N (.region id ops false) l L K Q :=
  fun tm st hF => .region (h none tm st hF (fun _ k => by cases k)).toOW
theorem WS.draw {id : Nat} {ops : Array Oper} (hd : E.dyn fid id = []) (ho : hasAlloc ops = false) (h : OS E false (E.pol fid id) ops ops.toList 0 N l L K Q) (hk : E.mks fid id = false := by rfl) : WS E fid N (.region id ops true) l L K Q :=
  fun tm st hF => .draw0 hd ho hk (h (some (st.next, false)) tm _ (hF.at (by omega)) (fun b hb => ⟨ho, by cases hb; rfl⟩)).toOW
theorem WS.drawC {id : Nat} {ops : Array Oper} {dy : List (Nat × Nat)} (hd : E.dyn fid id = dy) (ho : hasAlloc ops = false) (hc : dyCheck ops dy = true) (h : OS E true (E.pol fid id) ops ops.toList 0 N l L K Q) (hk : E.mks fid id = false := by rfl) : WS E fid N (.region id ops true) l L K Q :=
  fun tm st hF => .drawC hd ho hc (h (some (st.next, false)) tm _ (hF.at (by omega)) (fun b hb => ⟨ho, by cases hb; rfl⟩)) hk
theorem WS.sub {c : Code} {l' : List (Nat × AV)} {L' : List (Nat × AObj)} {K' : List (Nat × Bool)} (h1 : Sub l l') (h2 : SubO L L') (h3 : SubK K K') (h : WS E fid N c l' L' K' Q) : WS E fid N c l L K Q :=
  fun tm st hF => h tm st (hF.sub h1 h2 h3)

theorem QS.seqN {b : Code} (h : WS E fid N b l L K Q) : QS N .normal l L K (seqQ E fid b Q) := h
theorem QS.seqE {b : Code} {i : Nat} (h : QS N (.exit i) l L K Q) : QS N (.exit i) l L K (seqQ E fid b Q) := h
theorem QS.seqR {b : Code} (h : QS N .ret l L K Q) : QS N .ret l L K (seqQ E fid b Q) := h
theorem QS.blockN {i : Nat} (h : QS N .normal l L K Q) : QS N .normal l L K (blockQ i Q) := h
theorem QS.blockH {i : Nat} (h : QS N .normal l L K Q) : QS N (.exit i) l L K (blockQ i Q) := fun tm st hF => blockQ.here (h tm st hF)
theorem QS.blockE {i j : Nat} (hj : Nat.beq j i = false) (h : QS N (.exit j) l L K Q) : QS N (.exit j) l L K (blockQ i Q) := fun tm st hF => blockQ.exit hj (h tm st hF)
theorem QS.blockR {i : Nat} (h : QS N .ret l L K Q) : QS N .ret l L K (blockQ i Q) := h
def resS (l : List (Nat × AV)) : List ResultVar → Option (List AV)
  | [] => some []
  | .tmp t :: rs => match lk l t, resS l rs with
    | some v, some vs => some (v :: vs)
    | _, _ => none
  | .cell _ _ :: _ => none
def res1 (l : List (Nat × AV)) (rs : List ResultVar) : Option AV :=
  match resS l rs with
  | some [v] => some v
  | some vs => some (.tup vs)
  | none => none
theorem Fa.resS {tm : TM} {st : St} (hF : Fa N l L K tm st) : ∀ {rs : List ResultVar} {vs : List AV}, resS l rs = some vs → resL E tm st rs = some vs
  | [], vs, h => h
  | .cell _ _ :: _, vs, h => by simp [Abs.resS] at h
  | .tmp t :: rs, vs, h => by
    simp only [Abs.resS] at h
    split at h
    · rename_i v vs' h1 h2
      simp only [resL, resA, hF.get t v h1, hF.resS h2]
      exact h
    · cases h
theorem Fa.res1 {tm : TM} {st : St} (hF : Fa N l L K tm st) {rs : List ResultVar} {v : AV} (h : res1 l rs = some v) : resultsA E rs tm st = some v := by
  unfold Abs.res1 at h
  cases hr : Abs.resS l rs with
  | none => rw [hr] at h; cases h
  | some vs =>
    rw [hr] at h
    unfold resultsA
    rw [hF.resS hr]
    match vs, h with
    | [], h => exact h
    | [_], h => exact h
    | _ :: _ :: _, h => exact h
theorem QS.retR {rs : List ResultVar} {v : AV} {Q : AV → St → Prop} (h : res1 l rs = some v) (hq : ∀ st, Q v st) : QS N .ret l L K (retQ E rs Q) :=
  fun _ st hF => retQ.ret (hF.res1 h) (hq st)
theorem QS.retN {rs : List ResultVar} {v : AV} {Q : AV → St → Prop} (h : res1 l rs = some v) (hq : ∀ st, Q v st) : QS N .normal l L K (retQ E rs Q) :=
  fun _ st hF => retQ.normal (hF.res1 h) (hq st)

/-- Loops: facts by data, a measure. -/
def loopS {D : Type} (N : Nat) (lf : D → List (Nat × AV)) (Lf : D → List (Nat × AObj)) (Kf : D → List (Nat × Bool)) (p : D → Prop) (m : D → Nat) (k : Nat) (tm : TM) (st : St) : Prop :=
  ∃ d, m d = k ∧ p d ∧ Fa N (lf d) (Lf d) (Kf d) tm st
theorem WS.loop {D : Type} {c : Code} (lf : D → List (Nat × AV)) (Lf : D → List (Nat × AObj)) (Kf : D → List (Nat × Bool)) (p : D → Prop) (m : D → Nat) (d0 : D) (h0 : p d0) (hl : Sub l (lf d0)) (hL : SubO L (Lf d0)) (hK : SubK K (Kf d0))
    (hb : ∀ d, p d → WS E fid N c (lf d) (Lf d) (Kf d) (loopQ (loopS N lf Lf Kf p m) (m d) Q)) : WS E fid N (.loop c) l L K Q := by
  intro tm st hF
  refine W.loop (loopS N lf Lf Kf p m) ?_ (m d0) tm st ⟨d0, rfl, h0, hF.sub hl hL hK⟩
  rintro k tm st ⟨d, rfl, hp, hF⟩
  exact hb d hp tm st hF
theorem QS.loopN {D : Type} {lf : D → List (Nat × AV)} {Lf : D → List (Nat × AObj)} {Kf : D → List (Nat × Bool)} {p : D → Prop} {m : D → Nat} {k : Nat} (d : D) (hp : p d) (hm : m d < k) (hl : Sub l (lf d)) (hL : SubO L (Lf d)) (hK : SubK K (Kf d)) : QS N .normal l L K (loopQ (loopS N lf Lf Kf p m) k Q) :=
  fun _ _ hF => loopQ.normal (m d) hm ⟨d, rfl, hp, hF.sub hl hL hK⟩
theorem QS.loopE {I : Nat → TM → St → Prop} {k i : Nat} (h : QS N (.exit i) l L K Q) : QS N (.exit i) l L K (loopQ I k Q) := h
theorem QS.loopR {I : Nat → TM → St → Prop} {k : Nat} (h : QS N .ret l L K Q) : QS N .ret l L K (loopQ I k Q) := h

/-! ### Operations -/
variable {c : Bool} {pol : Nat → Nat} {ops : Array Oper} {o : Oper} {r : List Oper} {i : Nat}
theorem OS.nil (h : QS N .normal l L K Q) : OS E c pol ops [] i N l L K Q := by
  intro pre tm st hF _
  exact ⟨0, [], tm, st, rfl, fun _ => ⟨rfl, fun k t o h1 h2 => by simp at h1⟩, h tm st hF⟩
def wantS (ops : Array Oper) (l : List (Nat × AV)) (o : Oper) : Option Bool :=
  match o.guard with
  | none => some true
  | some (j, want) =>
    match (ops.toList[j]?).bind (·.dst) with
    | none => some false
    | some d =>
      match lk l d with
      | some (.bool b) => some (b == want)
      | some (.tup _) => some false
      | _ => none
theorem Fa.want {tm : TM} {st : St} (hF : Fa N l L K tm st) {b : Bool} (h : wantS ops l o = some b) : wantedA ops tm o = some b := by
  unfold wantS at h
  unfold wantedA
  split at h
  · rename_i hg; rw [hg]; exact h
  · rename_i j want hg
    rw [hg]
    dsimp only
    rw [← Array.getElem?_toList]
    split at h
    · rename_i hd; rw [hd]; exact h
    · rename_i d hd
      rw [hd]
      dsimp only
      split at h
      · rename_i b' hb; rw [hF.get d _ hb]; exact h
      · rename_i b' hb; rw [hF.get d _ hb]; exact h
      · cases h
theorem OS.do (hw : wantS ops l o = some true) (h : OD E c pol ops o r i N l L K Q) : OS E c pol ops (o :: r) i N l L K Q :=
  fun pre tm st hF hp => h pre tm st hF hp (hF.want hw)
theorem OWc.skip {pre : Pre} {tm : TM} {st : St} {Q : TM → St → Prop} (hw : wantedA ops tm o = some false) (k : OWc E c pre pol ops r (i + 1) (putO tm o.dst (.tup [])) st Q) : OWc E c pre pol ops (o :: r) i tm st Q := by
  obtain ⟨n, tr, tm1, st1, h1, hs, h2⟩ := k
  refine ⟨n, ⟨tm, st, st, .tup [], false⟩ :: tr, tm1, st1, ?_, fun hc => ⟨(hs hc).1, ?_⟩, h2⟩
  · simp only [runOpsT]
    rw [hw]
    dsimp only
    rw [h1]
  · exact .cons ⟨rfl, rfl, fun k => by cases k⟩ (hs hc).2
theorem OS.skip {d : Nat} (hw : wantS ops l o = some false) (hd : o.dst = some d) (hn : Nat.blt d N = true) (h : OS E c pol ops r (i + 1) N ((d, .tup []) :: l) L K Q) : OS E c pol ops (o :: r) i N l L K Q := by
  intro pre tm st hF hp
  refine .skip (hF.want hw) ?_
  rw [hd]
  exact h pre _ st (hF.put hn _) hp
theorem OS.skip0 (hw : wantS ops l o = some false) (hd : o.dst = none) (h : OS E c pol ops r (i + 1) N l L K Q) : OS E c pol ops (o :: r) i N l L K Q := by
  intro pre tm st hF hp
  refine .skip (hF.want hw) ?_
  rw [hd]
  exact h pre _ st hF hp
/-- The guard is open: both ways. -/
theorem OS.split {j d : Nat} {want b : Bool} (hg : o.guard = some (j, want)) (hd : (ops.toList[j]?).bind (·.dst) = some d) (hb : lk l d = some (.bool b))
    (h1 : b = true → OS E c pol ops (o :: r) i N ((d, .bool true) :: l) L K Q) (h2 : b = false → OS E c pol ops (o :: r) i N ((d, .bool false) :: l) L K Q) : OS E c pol ops (o :: r) i N l L K Q := by
  intro pre tm st hF hp
  have hF' : ∀ v, v = AV.bool b → Fa N ((d, v) :: l) L K tm st := fun v hv => hF.sub (fun i u hu => by
    simp only [lk] at hu
    cases hb' : Nat.beq d i with
    | true =>
      rw [hb'] at hu
      simp only [cond_true, Option.some.injEq] at hu
      have := Nat.eq_of_beq_eq_true hb'
      subst this; rw [hb, ← hu, hv]
    | false => rw [hb'] at hu; exact hu) (.refl _) (.refl _)
  cases b with
  | true => exact h1 rfl pre tm st (hF' _ rfl) hp
  | false => exact h2 rfl pre tm st (hF' _ rfl) hp

theorem OD.quiet {d : Nat} {v : AV} (hd : o.dst = some d) (hn : Nat.blt d N = true) (hl : isLoud o.op = false) (hq : ∀ tm st, Fa N l L K tm st → quiet E tm st o = some v) (k : OS E c pol ops r (i + 1) N ((d, v) :: l) L K Q) : OD E c pol ops o r i N l L K Q := by
  intro pre tm st hF hp hw
  obtain ⟨n, tr, tm1, st1, h1, hs, h2⟩ := k pre (tm.put d v) st (hF.put hn v) hp
  refine ⟨n, ⟨tm, st, st, v, true⟩ :: tr, tm1, st1, ?_, fun hc => ⟨(hs hc).1, ?_⟩, h2⟩
  · simp only [runOpsT]
    rw [hw]
    dsimp only
    rw [stepPre_quiet hl (hq tm st hF), hd]
    dsimp only [putO]
    rw [h1]
  · exact .cons ⟨rfl, rfl, fun _ _ => hq tm st hF⟩ (hs hc).2
end
end Go.Abs
