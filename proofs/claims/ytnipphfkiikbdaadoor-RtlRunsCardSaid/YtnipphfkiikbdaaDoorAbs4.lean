/- Own text of this claim: part 4 of an interpreter that is proved sound against the model, and of what it shows of the law. -/
import Derived.Laws.IdiomCopy
import Derived.Tactics
import Derived.Orders
import Derived.Test.YtnipphfkiikbdaaDoorAbs3
/- Slices that are made, and what is appended. -/
namespace Go.Abs
open Go.RowKit

section
variable {P : Program}

theorem RE.shift {Γ : Ghost} {xs : List AV} {f g : Nat → Option Value} {o sz d : Nat} (h : RE Γ xs f o sz) (hfg : ∀ k v, f k = some v → g (k + d) = some v) : RE Γ xs g (o + d) sz :=
  RE.mk fun i x hx => by
    obtain ⟨v, h1, h2, h3, h4⟩ := h.get i x hx
    refine ⟨v, h1, h2, h3, fun j u hj => ?_⟩
    have := hfg _ _ (h4 j u hj)
    have e : o + i * sz + j + d = o + d + i * sz + j := by omega
    rw [← e]; exact this

theorem RE.news {Γ : Ghost} {f : Nat → Option Value} {sz : Nat} : ∀ (ys : List AV) (o : Nat), RE Γ ys f o sz →
    ∃ news : List Value, news.length = ys.length * sz ∧ CellsAt f o news ∧ RE Γ ys (fun k => news[k]?) 0 sz ∧ ∀ u ∈ news, u.oneCell' = true
  | [], o, _ => ⟨[], by simp, fun j v hj => by simp at hj, by simp only [RE], by simp⟩
  | y :: ys, o, h => by
    simp only [RE] at h
    obtain ⟨⟨v, h1, h2, h3, h4⟩, h5⟩ := h
    obtain ⟨news, k1, k2, k3, k4⟩ := RE.news ys (o + sz) h5
    have hl : v.cells.toList.length = sz := by rw [Array.length_toList]; exact h3
    refine ⟨v.cells.toList ++ news, ?_, ?_, ?_, ?_⟩
    · rw [List.length_append, k1, hl, List.length_cons, Nat.add_mul, Nat.one_mul, Nat.add_comm]
    · intro j u hj
      rw [List.getElem?_append] at hj
      split at hj
      · exact h4 j u hj
      · rename_i hlt
        have := k2 _ u hj
        have e : o + sz + (j - v.cells.toList.length) = o + j := by omega
        rw [← e]; exact this
    · simp only [RE]
      refine ⟨⟨v, h1, h2, h3, fun j u hj => ?_⟩, k3.shift fun k u hk => ?_⟩
      · show (v.cells.toList ++ news)[0 + j]? = some u
        rw [Nat.zero_add, List.getElem?_append_left]
        · exact hj
        · exact (List.getElem?_eq_some_iff.1 hj).1
      · show (v.cells.toList ++ news)[k + sz]? = some u
        rw [List.getElem?_append_right (by omega)]
        have e : k + sz - v.cells.toList.length = k := by omega
        rw [e]; exact hk
    · intro u hu
      rcases List.mem_append.1 hu with hu | hu
      · exact oneCells h1 h2 u hu
      · exact k4 u hu

theorem RE.ext {Γ : Ghost} {xs : List AV} {f g : Nat → Option Value} {o sz : Nat} (h : RE Γ xs f o sz) (hfg : ∀ k v, o ≤ k → k < o + xs.length * sz → f k = some v → g k = some v) : RE Γ xs g o sz :=
  RE.mk fun i x hx => by
    obtain ⟨v, h1, h2, h3, h4⟩ := h.get i x hx
    refine ⟨v, h1, h2, h3, fun j u hj => hfg _ _ (by omega) ?_ (h4 j u hj)⟩
    have hj' : j < sz := by rw [← h3, ← Array.length_toList]; exact (List.getElem?_eq_some_iff.1 hj).1
    have hi : i < xs.length := (List.getElem?_eq_some_iff.1 hx).1
    have : (i + 1) * sz ≤ xs.length * sz := Nat.mul_le_mul_right _ hi
    rw [Nat.add_mul, Nat.one_mul] at this
    omega

theorem RE.replicate {Γ : Ghost} {x : AV} {v : Value} {f : Nat → Option Value} {o sz n : Nat} (hx : R Γ x v) (hok : x.ok = true) (hs : v.cells.size = sz)
    (h : ∀ i, i < n → CellsAt f (o + i * sz) v.cells.toList) : RE Γ (List.replicate n x) f o sz :=
  RE.mk fun i y hy => by
    rw [List.getElem?_replicate] at hy
    split at hy
    · rename_i hi
      cases hy
      exact ⟨v, hx, hok, hs, h i hi⟩
    · cases hy

theorem made_get {z : Array Value} {n k : Nat} (hk : k < n) (hz : 0 < z.size) : (madeCells z n)[k]? = z[k % z.size]? := by
  have hm : k % z.size < z.size := Nat.mod_lt _ hz
  unfold madeCells
  rw [Array.getElem?_map, Array.getElem?_range, if_pos hk]
  simp only [Option.map_some]
  rw [getElem!_pos z _ hm, Array.getElem?_eq_getElem hm]

theorem zeroCells_get {z : Array Value} {n k : Nat} (hk : k < n * z.size) (hz : 0 < z.size) : (Builtin.zeroCells z n)[k]? = z[k % z.size]? := made_get (z := z) (n := n * z.size) hk hz

/-- Zeros one behind the other. -/
theorem zeros_RE {Γ : Ghost} {x : AV} {z : Value} {c : Array Value} {sz n m : Nat} (hx : R Γ x z) (hok : x.ok = true) (hs : z.cells.size = sz) (hsz : 0 < sz) (hn : n ≤ m)
    (h : ∀ k, k < m * sz → c[k]? = z.cells[k % sz]?) : RE Γ (List.replicate n x) (fun k => c[k]?) 0 sz :=
  RE.replicate hx hok hs fun i hi j u hj => by
    have hj' : j < sz := by rw [← hs, ← Array.length_toList]; exact (List.getElem?_eq_some_iff.1 hj).1
    have : (i + 1) * sz ≤ m * sz := Nat.mul_le_mul_right _ (by omega)
    rw [Nat.add_mul, Nat.one_mul] at this
    show c[0 + i * sz + j]? = some u
    rw [h _ (by omega)]
    have e : (0 + i * sz + j) % sz = j := by
      rw [Nat.zero_add, Nat.add_comm, Nat.add_mul_mod_self_right, Nat.mod_eq_of_lt hj']
    rw [e, ← Array.getElem?_toList]; exact hj

theorem makeSlice_sound {E : Env} (hE : ∀ t y, E.ty t = some y → TyOk P t y) {B : Nat} {w0 w : World} {Γ : Ghost} {st st' : St} (hI : Inv B w0 Γ st w) {lit : Bool} {t : TypeId} {l c r : AV} {lv cv : Value}
    (h : makeSliceA E st lit t l c = some (r, st')) (hl : R Γ l lv) (hc : R Γ c cv) : Does P B w0 (Instr.makeSlice t lv cv) w Γ st r st' := by
  unfold makeSliceA at h
  split at h
  · cases h
  · rename_i ty ht
    obtain ⟨U, i', z', hu, _, _, g1, _⟩ := (hE t ty ht).ex
    have gi := tdOf_inv g1
    split at h
    · rename_i e l c hd
      rw [hd] at gi; simp only [TDIs] at gi; subst gi
      simp only [R] at hl hc; subst hl; subst hc
      split at h
      · cases h
      · rename_i et he
        obtain ⟨ei, ez, hei, hez, hes, heb, hzs, hzo, hzr⟩ := (hE e et he).zero
        split at h
        · rename_i hcond
          obtain ⟨hsz, h0, hlc, hroom⟩ := hcond
          simp only [roomA, Bool.and_eq_true, decide_eq_true_eq] at hroom
          have hbytes : (ei.bytes : Int) * c ≤ 281474976710656 := by
            have hc' : (c.toNat : Int) = c := Int.toNat_of_nonneg (by omega)
            rw [← hc', heb, Int.mul_comm, ← Int.natCast_mul]
            omega
          have hrun := run_make (P := P) w t e ei ez hu hei hez .i64 .i64 l c h0 hlc hbytes (by omega)
          have hat := alloc_at w (.cells (madeCells ez.cells (c.toNat * ei.size)) e)
          have hsz' : (madeCells ez.cells (c.toNat * ei.size)).size = c.toNat * et.size := by rw [size_madeCells, hes]
          split at h
          · rename_i hlit
            cases h
            simp only [Bool.and_eq_true, beq_iff_eq] at hlit
            obtain ⟨_, rfl⟩ := hlit
            refine ⟨_, _, _, hrun, hI.tokNew (Touch.alloc w _) hat (n := 0) (tot := c.toNat * et.size) (by rw [hsz']; exact Nat.le_refl _), ?_⟩
            simp only [R]
            refine ⟨w.heap.size, 0, c.toNat, rfl, Nat.zero_le _, hsz, .inr ⟨0, c.toNat * et.size, by simp [Ghost.addTk], by simp, by omega⟩, by simp only [RE]⟩
          · cases h
            have hre : RE Γ (List.replicate l.toNat et.zeroV) (fun k => (madeCells ez.cells (c.toNat * ei.size))[k]?) 0 et.size :=
              zeros_RE (hzr Γ) hzo hzs hsz (m := c.toNat) (by omega) (fun k hk => by rw [made_get (by rw [hes]; exact hk) (by omega), hzs])
            refine ⟨_, _, _, hrun, hI.rowNew (Touch.alloc w _) hat hsz (tot := c.toNat) (by simp; omega) (by rw [hsz']; exact Nat.le_refl _) hre, ?_⟩
            simp only [R]
            exact ⟨w.heap.size, 0, c.toNat, 0, c.toNat, by simp [Ghost.addObj], rfl, by omega, .inr ⟨by simp, by omega⟩⟩
        · cases h
    · cases h

theorem makeMap_sound {B : Nat} {w0 w : World} {Γ : Ghost} {st : St} (hI : Inv B w0 Γ st w) {t : TypeId} {kt et : TypeId} {k : Option (IntKind × Int)}
    (hu : P.underlying t = some (.map kt et)) : Does P B w0 (Instr.makeMap t (k.map fun x => .int x.1 x.2)) w Γ st (.map st.next) (st.new (.map kt et [])) := by
  have hat := alloc_at w (.map #[] 0)
  refine ⟨.map (some w.heap.size), w.alloc (.map #[] 0), _, ?_, hI.mapNew (Touch.alloc w _) kt et hat, ?_⟩
  · cases k with
    | none => simp [Instr.makeMap]
    | some x => simp [Instr.makeMap, run_under hu, asInt, asIntOf]
  · simp only [R]
    exact ⟨w.heap.size, by simp [Ghost.addMp], rfl⟩

theorem run_setObj_map {w : World} {b : Nat} {en : Array MapEntry} {clock : Nat} (h : w.heap[b]? = some (.map en clock)) (o : Obj) :
    (setObj b o).run P w = .ok () { w with heap := w.heap.setIfInBounds b o } := by
  simp only [setObj, Sem.run, h]
theorem setObj_touch {w : World} {b : Nat} {o : Obj} (hb : b < w.heap.size) : Touch w { w with heap := w.heap.setIfInBounds b o } b ∧ ({ w with heap := w.heap.setIfInBounds b o } : World).heap[b]? = some o :=
  ⟨⟨fun k _ hne => by simp [Array.getElem?_setIfInBounds, Ne.symm hne], by simp, rfl, rfl, rfl⟩, by simp [hb]⟩

theorem sameBits_sound {E : Env} {Γ : Ghost} {kty : Ty} {k : AV} {u v : Value} (hok : keyOkA E kty k = true) (hu : R Γ k u) (hv : R Γ k v) : Instr.sameBits 10000 u v = true := by
  unfold keyOkA at hok
  split at hok
  · simp only [R] at hu hv; subst hu; subst hv; rw [show (10000 : Nat) = 9999 + 1 from rfl, Instr.sameBits]; simp
  · simp only [R] at hu hv; subst hu; subst hv; rw [show (10000 : Nat) = 9999 + 1 from rfl, Instr.sameBits]; simp
  · simp only [R] at hu hv; subst hu; subst hv; rw [show (10000 : Nat) = 9999 + 1 from rfl, Instr.sameBits]; simp [bytes_beq]
  · rename_i n e cs hd
    split at hok
    · split at hok
      · rename_i l hl
        simp only [Bool.and_eq_true] at hok
        obtain ⟨_, hall⟩ := hok
        simp only [R] at hu hv
        obtain ⟨us, rfl, h1⟩ := hu
        obtain ⟨vs, rfl, h2⟩ := hv
        rw [show (10000 : Nat) = 9999 + 1 from rfl, Instr.sameBits]
        have key : ∀ (cs : List AV) (us vs : List Value), (cs.all (fun c => match c with | .int m _ => decide (l = m) | _ => false)) = true → RL Γ cs us → RL Γ cs vs → us = vs ∧ (us.zip vs).all (fun (x, y) => Instr.sameBits 9999 x y) = true := by
          intro cs
          induction cs with
          | nil => intro us vs _ a b; rw [a.of_nil, b.of_nil]; exact ⟨rfl, rfl⟩
          | cons c cs ih =>
            intro us vs ha a b
            simp only [List.all_cons, Bool.and_eq_true] at ha
            obtain ⟨u, ur, rfl, q1, q2⟩ := a.of_cons
            obtain ⟨v, vr, rfl, q3, q4⟩ := b.of_cons
            cases c <;> simp only [Bool.false_eq_true, false_and] at ha
            simp only [R] at q1 q3
            obtain ⟨e1, e2⟩ := ih ur vr ha.2 q2 q4
            subst q1; subst q3
            refine ⟨by rw [e1], ?_⟩
            simp only [List.zip_cons_cons, List.all_cons, e2, Bool.and_true]
            rw [show (9999 : Nat) = 9998 + 1 from rfl, Instr.sameBits]; simp
        obtain ⟨e1, e2⟩ := key cs us.toList vs.toList hall h1 h2
        have e3 : us = vs := by rw [← Array.toArray_toList (xs := us), e1, Array.toArray_toList]
        subst e3
        simp only [beq_self_eq_true, Bool.true_and]
        exact e2
      · cases hok
    · cases hok
  · cases hok
end
end Go.Abs

/- Maps that are written; appends. -/
namespace Go.Abs
open Go.RowKit

section
variable {P : Program}

theorem mapPut_sound {E : Env} (hE : ∀ t y, E.ty t = some y → TyOk P t y) {B : Nat} {w0 w : World} {Γ : Ghost} {st st' : St} (hI : Inv B w0 Γ st w) {t : TypeId} {m k x r : AV} {mv kv xv : Value}
    (h : mapOpA E st t m k x = some (r, st')) (hm : R Γ m mv) (hk : R Γ k kv) (hx : R Γ x xv) :
    ∃ w' Γ', (Instr.mapUpdate t mv kv xv).run P w = .ok () w' ∧ Out B w0 Γ st Γ' st' w' ∧ r = .junk := by
  unfold mapOpA at h
  split at h
  · rename_i ty ht
    obtain ⟨U, i', z', hu, _, _, g1, _⟩ := (hE t ty ht).ex
    have gi := tdOf_inv g1
    split at h
    · rename_i kt et b hd
      rw [hd] at gi; simp only [TDIs] at gi; subst gi
      split at h
      · rename_i kty hkt
        simp only [Option.map_eq_some_iff] at h
        obtain ⟨s', hput, e⟩ := h
        cases e
        unfold mapPutA at hput
        split at hput
        · rename_i kt' et' es hg
          split at hput
          · rename_i hc
            obtain ⟨rfl, rfl, hok, hkok, hxok⟩ := hc
            simp only [R] at hm
            obtain ⟨blk, hb, rfl⟩ := hm
            obtain ⟨blk', hb', en, clock, hh, hs, hre⟩ := hI.maps b kt' et' es hg
            rw [hb] at hb'; cases hb'
            have hlt : blk < w.heap.size := (Array.getElem?_eq_some_iff.1 hh).1
            have hen : REn Γ es en.toList := ⟨by rw [Array.length_toList]; exact hs, fun i k v hi => by
              obtain ⟨e, q1, q2⟩ := hre i k v hi
              exact ⟨e, by rw [Array.getElem?_toList]; exact q1, q2⟩⟩
            have hck := checkKey_sound hE hkt hok hk false w
            split at hput
            · rename_i hf
              cases hput
              obtain ⟨r', k1, k2⟩ := findKey_sound hE hkt hok hk w hen hf
              cases r' with
              | some _ => exact k2.elim
              | none =>
                obtain ⟨tw, hat⟩ := setObj_touch (w := w) (o := .map (en.push { key := kv, val := xv, born := clock }) (clock + 1)) hlt
                refine ⟨_, Γ, ?_, hI.mapPut hg hb tw ⟨_, _, hat, by simp [hs], fun i k' v hi => ?_⟩, rfl⟩
                · simp only [Instr.mapUpdate, Sem.run_bind, run_under hu, Result.andThen_ok, run_getObj_map hh, hck, k1, run_setObj_map hh]
                · rw [List.getElem?_append] at hi
                  split at hi
                  · rename_i hil
                    obtain ⟨e, q1, q2⟩ := hre i k' v hi
                    refine ⟨e, ?_, q2⟩
                    rw [Array.getElem?_push, if_neg (by omega)]; exact q1
                  · rename_i hil
                    have : i = es.length := by
                      have := (List.getElem?_eq_some_iff.1 hi).1
                      simp at this; omega
                    subst this
                    simp only [Nat.sub_self, List.getElem?_cons_zero, Option.some.injEq, Prod.mk.injEq] at hi
                    obtain ⟨rfl, rfl⟩ := hi
                    refine ⟨{ key := kv, val := xv, born := clock }, ?_, hk, hx, hkok, hxok⟩
                    rw [Array.getElem?_push, if_pos (by omega)]
            · rename_i i v0 hf
              split at hput
              · rename_i j v1 hij
                split at hput
                · rename_i hjk
                  cases hput
                  have hjk' := AV.eq_of_beq _ _ hjk
                  subst hjk'
                  obtain ⟨r', k1, k2⟩ := findKey_sound hE hkt hok hk w hen hf
                  cases r' with
                  | none => exact k2.elim
                  | some q =>
                    obtain ⟨i2, vv⟩ := q
                    obtain ⟨rfl, _, hil, _⟩ := k2
                    obtain ⟨e, q1, q2, q3, q4, q5⟩ := hre i j v1 hij
                    have hst : (Instr.keyThatStays (((en[i]?).map (·.key)).getD kv) kv).run P w = .ok kv w := by
                      simp only [q1, Option.map_some, Option.getD_some, Instr.keyThatStays, sameBits_sound hok q2 hk, if_true, Sem.run_pure]
                    obtain ⟨tw, hat⟩ := setObj_touch (w := w) (o := .map (en.modify i fun e => { e with key := kv, val := xv }) clock) hlt
                    refine ⟨_, Γ, ?_, hI.mapPut hg hb tw ⟨_, _, hat, by simp [hs], fun n k' v hi => ?_⟩, rfl⟩
                    · simp only [Instr.mapUpdate, Sem.run_bind, run_under hu, Result.andThen_ok, run_getObj_map hh, hck, k1, hst, run_setObj_map hh]
                    · rw [List.getElem?_set] at hi
                      split at hi
                      · rename_i hin
                        subst hin
                        have hi' : (j, x) = (k', v) := by
                          first
                            | (rw [if_pos (by simpa using hil)] at hi; exact Option.some.inj hi)
                            | exact Option.some.inj hi
                        cases hi'
                        refine ⟨{ e with key := kv, val := xv }, ?_, hk, hx, hkok, hxok⟩
                        rw [Array.getElem?_modify, if_pos rfl, q1]; rfl
                      · rename_i hin
                        obtain ⟨e', p1, p2⟩ := hre n k' v hi
                        refine ⟨e', ?_, p2⟩
                        rw [Array.getElem?_modify, if_neg hin]; exact p1
                · cases hput
              · cases hput
            · cases hput
          · cases hput
        · cases hput
      · cases h
    · cases h
  · cases h

/-! ### What is appended -/
structure Fed (P : Program) (Γ : Ghost) (size : Nat) (tx : TypeId) (x : Value) (ys : List AV) (news : List Value) (w : World) : Prop where
  src : Src P size tx x ys.length news w
  els : RE Γ ys (fun k => news[k]?) 0 size

theorem elems_sound {E : Env} (hE : ∀ t y, E.ty t = some y → TyOk P t y) {B : Nat} {w0 w : World} {Γ : Ghost} {st : St} (hI : Inv B w0 Γ st w) {tx : TypeId} {tyx et : Ty} {x : AV} {v : Value} {sz' : Nat} {ys : List AV}
    (ht : E.ty tx = some tyx) (hd : (∃ e, tyx.d = .slice e) ∨ tyx.d = .string) (hs : (decide (tyx.d = .string) == isStrA x) = true) (hsz : 0 < et.size)
    (h : elemsA st x = some (sz', ys)) (hok : okElems et ys = true) (hsame : (ys.isEmpty || sz' == et.size) = true) (hx : R Γ x v) : ∃ news, Fed P Γ et.size tx v ys news w := by
  obtain ⟨U, i', z', hu, _, _, g1, _⟩ := (hE tx tyx ht).ex
  have gi := tdOf_inv g1
  have hsl : isStrA x = false → ∃ e, P.underlying tx = some (.slice e) := by
    intro hf
    rw [hf] at hs
    rcases hd with ⟨e, hd⟩ | hd
    · rw [hd] at gi; simp only [TDIs] at gi; exact ⟨e, gi ▸ hu⟩
    · rw [hd] at hs; simp at hs
  unfold elemsA at h
  split at h
  · rename_i s
    cases h
    simp only [R] at hx; subst hx
    have hd' : tyx.d = .string := by simpa [isStrA] using hs
    rw [hd'] at gi; simp only [TDIs] at gi; subst gi
    have hlen : (bytesA s).length = s.size := by simp [bytesA]
    by_cases he : bytesA s = []
    · have h0 : s.size = 0 := by rw [← hlen, he]; rfl
      refine ⟨[], ⟨⟨.inr hu, fun _ => by rw [he]; simp [Builtin.lenOf, h0], ?_, ?_, by rw [he]; simp, by simp⟩, by rw [he]; simp only [RE]⟩⟩
      · rw [he]; simp [Builtin.firstCells]
      · rw [he]; simp [Builtin.firstCells]
    · have h1 : 1 = et.size := by
        cases hb : bytesA s with
        | nil => exact absurd hb he
        | cons a r => rw [hb] at hsame; simpa using hsame
      rw [← h1]
      refine ⟨byteCells s, ⟨by rw [hlen]; exact Src.ofString w hu s, ?_⟩⟩
      refine bytesA_RE fun j b hb => ?_
      show (byteCells s)[0 + j]? = _
      rw [Nat.zero_add]
      unfold byteCells
      rw [List.getElem?_map, Array.getElem?_toList, hb]; rfl
  · cases h
    simp only [R] at hx; subst hx
    obtain ⟨e, hu'⟩ := hsl rfl
    exact ⟨[], ⟨Src.ofNil w hu' 0, by simp only [RE]⟩⟩
  · cases h
    simp only [R] at hx; obtain ⟨a, cap, rfl⟩ := hx
    obtain ⟨e, hu'⟩ := hsl rfl
    exact ⟨[], ⟨Src.ofSlice w hu' a 0 cap [] (by simp) (fun j u hj => by simp at hj) (by simp), by simp only [RE]⟩⟩
  · rename_i sz own xs
    cases h
    obtain ⟨e, hu'⟩ := hsl rfl
    simp only [R] at hx
    obtain ⟨blk, o, cap, rfl, h1, h2, h3, h4⟩ := hx
    by_cases he : ys = []
    · subst he
      exact ⟨[], ⟨Src.ofSlice w hu' _ 0 cap [] (by simp) (fun j u hj => by simp at hj) (by simp), by simp only [RE]⟩⟩
    · have hse : sz' = et.size := by
        cases ys with
        | nil => exact absurd rfl he
        | cons a r => simpa using hsame
      subst hse
      obtain ⟨news, k1, k2, k3, k4⟩ := RE.news ys o h4
      exact ⟨news, ⟨Src.ofSlice w hu' _ ys.length cap news k1 (fun j u hj => by rw [add_mk]; exact hI.inert _ _ _ (k2 j u hj)) k4, k3⟩⟩
  · rename_i sz b off len
    obtain ⟨e, hu'⟩ := hsl rfl
    split at h
    · rename_i sz1 xs hg
      split at h
      · rename_i hle
        cases h
        simp only [R] at hx
        obtain ⟨blk, base, tot, o, cap, ho, rfl, h2, h3⟩ := hx
        obtain ⟨e1, hsz1, hlt, hmem⟩ := hI.rows b sz1 xs blk base sz' tot hg ho
        subst e1
        have hyl : ((xs.drop off).take len).length = len := by rw [List.length_take, List.length_drop]; omega
        by_cases he : (xs.drop off).take len = []
        · have h0 : len = 0 := by rw [← hyl, he]; rfl
          subst h0
          rw [he]
          exact ⟨[], ⟨Src.ofSlice w hu' _ 0 cap [] (by simp) (fun j u hj => by simp at hj) (by simp), by simp only [RE]⟩⟩
        · have hlen0 : 0 < len := by
            rcases Nat.eq_zero_or_pos len with h0 | h0
            · subst h0; exact absurd (by simp) he
            · exact h0
          have hse : sz' = et.size := by
            cases hq : (xs.drop off).take len with
            | nil => exact absurd hq he
            | cons a r => rw [hq] at hsame; simpa using hsame
          subst hse
          rcases h3 with h3 | ⟨h3, h4⟩
          · omega
          · subst h3
            obtain ⟨⟨c, T, hh, hcs, hre⟩, _⟩ := hmem (by omega)
            obtain ⟨news, k1, k2, k3, k4⟩ := RE.news _ _ ((hre.drop off).take len)
            rw [hyl] at k1
            refine ⟨news, ⟨?_, k3⟩⟩
            rw [hyl]
            exact Src.ofSlice w hu' _ len cap news k1 (fun j u hj => by rw [add_mk, cell_of_heap hh]; exact k2 j u hj) k4
      · cases h
    · cases h
  · cases h
end
end Go.Abs

/- append does what the interpreter says. -/
namespace Go.Abs
open Go.RowKit

section
variable {P : Program}

/-- A new array, with what was and what is appended. -/
theorem grow_facts {Γ : Ghost} {w : World} {ts tx e rt : TypeId} {ei : TypeInfo} {ez : Value} {size : Nat} (hu : P.underlying ts = some (.slice e)) (hei : P.info? e = some ei) (hez : ei.zero = some ez)
    (hes : ei.size = size) (hzs : ez.cells.size = size) {xs ys : List AV} {news olds : List Value} {xv : Value} (fed : Fed P Γ size tx xv ys news w) {base : Option Addr} {sCap : Nat}
    (hol : olds.length = xs.length * size) (hold : (Builtin.firstCells ei.size xs.length (.slice base xs.length sCap)).run P w.drew = .ok olds.toArray w.drew) (hre : RE Γ xs (fun k => olds[k]?) 0 size)
    (hg : sCap < xs.length + ys.length) (hroom : (xs.length + ys.length) * ei.bytes ≤ 140737488355328) (h63 : xs.length + ys.length ≤ 9223372036854775807) :
    ∃ c cap, (Builtin.append_ #[ts, tx] rt #[.slice base xs.length sCap, xv]).run P w = .ok (.slice (some ⟨w.heap.size, 0, none⟩) (xs.length + ys.length) cap) (w.drew.alloc (.cells c e)) ∧
      c.size = cap * size ∧ xs.length + ys.length ≤ cap ∧ RE Γ (xs ++ ys) (fun k => c[k]?) 0 size := by
  subst hes
  have hrun := run_append_grow_src (P := P) w ts tx rt e ei ez hu hei hez base xs.length sCap olds hold xv ys.length news fed.src hg (by omega) (growslice_fits hg hroom)
  have hcap := grownCap_ge w (xs.length + ys.length) sCap e
  refine ⟨_, _, hrun, ?_, hcap, ?_⟩
  · rw [Array.size_append, List.size_toArray, List.length_append, hol, fed.src.newsLen, size_zeroCells, hzs, ← Nat.add_mul, ← Nat.add_mul]
    congr 1; omega
  · have main : RE Γ (xs ++ ys) (fun k => (olds ++ news)[k]?) 0 ei.size := by
      refine RE.append (hre.ext fun k v _ hk hv => ?_) ?_
      · show (olds ++ news)[k]? = some v
        rw [List.getElem?_append_left]
        · exact hv
        · exact (List.getElem?_eq_some_iff.1 hv).1
      · refine fed.els.shift (d := xs.length * ei.size) fun k v hv => ?_
        show (olds ++ news)[k + xs.length * ei.size]? = some v
        rw [List.getElem?_append_right (by omega), hol, Nat.add_sub_cancel]
        exact hv
    refine main.ext fun k v _ _ hv => ?_
    show ((olds ++ news).toArray ++ _)[k]? = some v
    rw [Array.getElem?_append_left]
    · rw [List.getElem?_toArray]; exact hv
    · rw [List.size_toArray]; exact (List.getElem?_eq_some_iff.1 hv).1

theorem drew_alloc_touch (w : World) (o : Obj) : Touch w (w.drew.alloc o) w.heap.size := (Touch.drawn w _ _).trans (Touch.alloc w.drew o)

/-- A new array under a token. -/
theorem newTok_does {B : Nat} {w0 w : World} {Γ : Ghost} {st : St} (hI : Inv B w0 Γ st w) {c : Array Value} {e : TypeId} {cap size : Nat} {xs : List AV} {n : Nat} (hn : n = xs.length) (hsz : 0 < size)
    (hc : c.size = cap * size) (hle : n ≤ cap) (hre : RE Γ xs (fun k => c[k]?) 0 size) :
    ∃ Γ', Out B w0 Γ st Γ' (st.newTok.ttag st.next e) (w.drew.alloc (.cells c e)) ∧ R Γ' (.vs size (.tok st.next) xs) (.slice (some ⟨w.heap.size, 0, none⟩) n cap) := by
  subst hn
  have hat : (w.drew.alloc (.cells c e)).heap[w.heap.size]? = some (.cells c e (0, 0)) := alloc_at w.drew (.cells c e)
  have out := hI.tokNew (drew_alloc_touch w _) hat (n := xs.length * size) (tot := cap * size) (by rw [hc]; exact Nat.le_refl _)
  have out2 := out.inv.ttag (i := st.next) (blk := w.heap.size) (T := e) (by simp [Ghost.addTk]; exact ⟨rfl, rfl⟩) ⟨_, _, hat⟩
  refine ⟨_, out.trans out2, R.mono out2.le _ _ ?_⟩
  simp only [R]
  refine ⟨w.heap.size, 0, cap, rfl, hle, hsz, .inr ⟨xs.length * size, cap * size, by simp [Ghost.addTk], by simp, by omega⟩, ?_⟩
  refine (RE.mono out.le xs _ _ 0 size (fun _ _ k => k) hre).ext fun k v _ hk hv => ?_
  simp only [Ghost.addTk, Ghost.addInert, if_pos]
  rw [if_pos (by omega)]; exact hv

/-- The new token bears the old one's type. -/
theorem tokOnA_out {B : Nat} {w0 w' : World} {Γ Γ' : Ghost} {st : St} {t : Nat} {e : TypeId} (out : Out B w0 Γ st Γ' (st.dropTok t).newTok w')
    (h : st.tty t = some e → ∃ blk e' tot, Γ'.tk st.next = some (blk, e', tot) ∧ TyAt w' blk e) : ∃ Γ2, Γ'.Le Γ2 ∧ Out B w0 Γ st Γ2 (tokOnA st t e) w' := by
  unfold tokOnA
  split
  · rename_i e2 he
    split
    · rename_i heq
      subst heq
      obtain ⟨blk, e', tot, h1, h2⟩ := h he
      have out2 := out.inv.ttag h1 h2
      exact ⟨_, out2.le, out.trans out2⟩
    · exact ⟨_, Ghost.Le.refl _, out⟩
  · exact ⟨_, Ghost.Le.refl _, out⟩

/-- A new array as a row. -/
theorem newRow_does {B : Nat} {w0 w : World} {Γ : Ghost} {st : St} (hI : Inv B w0 Γ st w) {c : Array Value} {e : TypeId} {cap size : Nat} {xs : List AV} {n : Nat} (hn : n = xs.length) (hsz : 0 < size)
    (hc : c.size = cap * size) (hle : n ≤ cap) (hre : RE Γ xs (fun k => c[k]?) 0 size) :
    ∃ Γ', Out B w0 Γ st Γ' (st.new (.row size xs)) (w.drew.alloc (.cells c e)) ∧ R Γ' (.sl size st.next 0 n) (.slice (some ⟨w.heap.size, 0, none⟩) n cap) := by
  subst hn
  have hat : (w.drew.alloc (.cells c e)).heap[w.heap.size]? = some (.cells c e (0, 0)) := alloc_at w.drew (.cells c e)
  have out := hI.rowNew (drew_alloc_touch w _) hat hsz hle (by rw [hc]; exact Nat.le_refl _) hre
  refine ⟨_, out, ?_⟩
  simp only [R]
  exact ⟨w.heap.size, 0, cap, 0, cap, by simp [Ghost.addObj], rfl, hle, .inr ⟨by simp, by omega⟩⟩

theorem append_none {ts tx e rt : TypeId} {ei : TypeInfo} {size : Nat} (hu : P.underlying ts = some (.slice e)) (hei : P.info? e = some ei) (hes : ei.size = size) {Γ : Ghost} {w : World} {xv : Value} {news : List Value}
    (fed : Fed P Γ size tx xv [] news w) (base : Option Addr) {n cap : Nat} (h : n ≤ cap) : (Builtin.append_ #[ts, tx] rt #[.slice base n cap, xv]).run P w = .ok (.slice base n cap) w := by
  subst hes
  have hn : news = [] := List.eq_nil_of_length_eq_zero (by have := fed.src.newsLen; simpa using this)
  subst hn
  exact run_append_nothing w ts tx rt e ei hu hei base n cap h xv fed.src

set_option maxHeartbeats 1000000 in
theorem append_sound {E : Env} (hE : ∀ t y, E.ty t = some y → TyOk P t y) {B : Nat} {w0 w : World} {Γ : Ghost} {st st' : St} (hI : Inv B w0 Γ st w) {obj : Bool} {ts tx e rt : TypeId} {tys et : Ty} {s r : AV} {sv xv : Value} {ys : List AV} {news : List Value}
    (hts : E.ty ts = some tys) (hd : tys.d = .slice e) (he : E.ty e = some et) (hsz : 0 < et.size) (fed : Fed P Γ et.size tx xv ys news w) (h : appendA obj e et st s ys = some (r, st')) (hs : R Γ s sv) :
    Does P B w0 (Builtin.append_ #[ts, tx] rt #[sv, xv]) w Γ st r st' := by
  obtain ⟨U, i', z', hu, _, _, g1, _⟩ := (hE ts tys hts).ex
  have gi := tdOf_inv g1
  rw [hd] at gi; simp only [TDIs] at gi; subst gi
  obtain ⟨ei, ez, hei, hez, hes, heb, hzs, hzo, hzr⟩ := (hE e et he).zero
  have refl0 : Out B w0 Γ st Γ st w := ⟨Ghost.Le.refl Γ, hI, Keep.refl Γ st⟩
  unfold appendA at h
  split at h
  · -- nil
    simp only [R] at hs; subst hs
    split at h
    · cases h
      exact ⟨_, w, Γ, append_none hu hei hes fed none (Nat.le_refl 0), refl0, by simp only [R]⟩
    · rename_i y ys
      split at h
      · rename_i hroom
        simp only [roomA, Bool.and_eq_true, decide_eq_true_eq] at hroom
        obtain ⟨c, cap, hrun, hc, hle, hre⟩ := grow_facts (xs := []) (olds := []) (base := none) (sCap := 0) (rt := rt) hu hei hez hes hzs fed (by simp) (by simpa using run_firstCells_none w.drew ei.size 0 0 0) (by simp only [RE]) (by simp) (by simp only [List.length_nil, Nat.zero_add, heb]; exact hroom.1) (by simp only [List.length_nil, Nat.zero_add]; exact hroom.2)
        simp only [List.length_nil, Nat.zero_add, List.nil_append] at hrun hle hre
        split at h
        · cases h
          obtain ⟨Γ', o1, o2⟩ := newRow_does hI (e := e) rfl hsz hc hle hre
          exact ⟨_, _, Γ', hrun, o1, o2⟩
        · cases h
          obtain ⟨Γ', o1, o2⟩ := newTok_does hI (e := e) rfl hsz hc hle hre
          exact ⟨_, _, Γ', hrun, o1, o2⟩
      · cases h
  · -- empty
    split at h
    · rename_i hy
      have hy' : ys = [] := by simpa using hy
      subst hy'
      cases h
      have hs' := hs
      simp only [R] at hs
      obtain ⟨a, cap, rfl⟩ := hs
      exact ⟨_, w, Γ, append_none (rt := rt) hu hei hes fed (some a) (Nat.zero_le cap), refl0, hs'⟩
    · cases h
  · -- full
    rename_i sz xs
    split at h
    · rename_i hcond
      obtain ⟨rfl, hroom⟩ := hcond
      simp only [roomA, Bool.and_eq_true, decide_eq_true_eq] at hroom
      simp only [R] at hs
      obtain ⟨blk, o, cap, rfl, k1, k2, k3, k4⟩ := hs
      have hcap : cap = xs.length := k3
      subst hcap
      obtain ⟨olds, q1, q2, q3, q4⟩ := RE.news xs o k4
      have hold : (Builtin.firstCells ei.size xs.length (.slice (some ⟨blk, o, none⟩) xs.length xs.length)).run P w.drew = .ok olds.toArray w.drew :=
        run_firstCells_some w.drew ei.size xs.length _ _ _ olds (by rw [hes]; exact q1) (fun j u hj => by rw [add_mk]; exact (hI.drawn _).inert _ _ _ (q2 j u hj))
      by_cases hy : ys = []
      · subst hy
        have hrun := append_none (rt := rt) hu hei hes fed (some ⟨blk, o, none⟩) (Nat.le_refl xs.length)
        split at h
        · split at h
          · cases h
            have out := hI.rowEmpty (sz := et.size) (blk := blk) (bs := o) hsz
            refine ⟨_, w, _, hrun, out, ?_⟩
            simp only [R]
            exact ⟨blk, o, 0, o, 0, by simp [Ghost.addObj], rfl, Nat.le_refl _, .inl rfl⟩
          · cases h
        · cases h
          refine ⟨_, w, Γ, hrun, refl0, ?_⟩
          simp only [R]
          exact ⟨blk, o, xs.length, rfl, Nat.le_refl _, k2, rfl, k4⟩
      · have hpos : 0 < ys.length := List.length_pos_iff.2 hy
        obtain ⟨c, cap, hrun, hc, hle, hre⟩ := grow_facts (xs := xs) (olds := olds) (rt := rt) hu hei hez hes hzs fed q1 hold q3 (by omega) (by rw [heb]; exact hroom.1) hroom.2
        split at h
        · split at h
          · cases h
            simp only [List.nil_append, List.length_nil, Nat.zero_add] at hre hle hrun
            obtain ⟨Γ', o1, o2⟩ := newRow_does hI (e := e) rfl hsz hc hle hre
            exact ⟨_, _, Γ', hrun, o1, o2⟩
          · cases h
        · split at h
          · exact absurd rfl hy
          · cases h
            obtain ⟨Γ', o1, o2⟩ := newTok_does hI (e := e) (by rw [List.length_append]) hsz hc hle hre
            exact ⟨_, _, Γ', hrun, o1, o2⟩
    · cases h
  · -- any
    rename_i sz xs
    split at h
    · rename_i hy
      have hy' : ys = [] := by simpa using hy
      subst hy'
      cases h
      have hs' := hs
      simp only [R] at hs
      obtain ⟨blk, o, cap, rfl, k1, k2, k3, k4⟩ := hs
      exact ⟨_, w, Γ, append_none (rt := rt) hu hei hes fed (some ⟨blk, o, none⟩) k1, refl0, hs'⟩
    · cases h
  · -- under a token
    rename_i sz t xs
    split at h
    · rename_i hcond
      obtain ⟨rfl, hal, hroom⟩ := hcond
      cases h
      simp only [roomA, Bool.and_eq_true, decide_eq_true_eq] at hroom
      simp only [R] at hs
      obtain ⟨blk, o, cap, rfl, k1, k2, k3, k4⟩ := hs
      by_cases hy : ys = []
      · subst hy
        have hrun := append_none (rt := rt) hu hei hes fed (some ⟨blk, o, none⟩) k1
        have out := hI.tokSame hal
        obtain ⟨Γ2, le2, out2⟩ := tokOnA_out (e := e) out fun hty => by
          obtain ⟨blk', e', tot, h1, h2⟩ := hI.ttys t e hty
          exact ⟨blk', e', tot, by simp [Ghost.addTk, h1], hI.ety _ _ h2⟩
        refine ⟨_, w, _, hrun, out2, R.mono le2 _ _ ?_⟩
        simp only [R, List.append_nil]
        refine ⟨blk, o, cap, rfl, k1, k2, ?_, RE.mono out.le xs _ _ _ _ (fun _ _ k => k) k4⟩
        rcases k3 with k3 | ⟨e', tot, a1, a2⟩
        · exact .inl k3
        · exact .inr ⟨e', tot, by simp [Ghost.addTk, a1], a2⟩
      · have hpos : 0 < ys.length := List.length_pos_iff.2 hy
        by_cases hfit : xs.length + ys.length ≤ cap
        · -- in place
          rcases k3 with k3 | ⟨e', tot, a1, a2, a3⟩
          · omega
          · obtain ⟨⟨c, T, hh, htot⟩, hno⟩ := hI.toks t blk e' tot hal a1
            have hnl := fed.src.newsLen
            have hmul : (xs.length + ys.length) * et.size ≤ cap * et.size := Nat.mul_le_mul_right _ hfit
            rw [Nat.add_mul] at hmul
            have hend : o + xs.length * et.size + news.length ≤ c.size := by omega
            have hcell : ∀ j, j < news.length → (w.cell? ⟨blk, o + xs.length * ei.size + j, none⟩).isSome = true := by
              intro j hj
              rw [cell_of_heap hh, hes]
              have : o + xs.length * et.size + j < c.size := by omega
              rw [Array.getElem?_eq_getElem this]; rfl
            have hfz : ∀ j, j < news.length → w.frozen? ⟨blk, o + xs.length * ei.size + j, none⟩ = false := by
              intro j _; simp [World.frozen?, hh]
            have hrun := run_append_room_src (P := P) w ts tx rt e ei hu hei blk o xs.length cap xv ys.length news (by rw [hes]; exact fed.src) hfit hcell hfz
            rw [hes] at hrun
            obtain ⟨tw, c', hc', hcs', hget⟩ := setCells_put news hh hend
            have hold : ∀ o' v, Γ.inert blk o' = some v → c'[o']? = some v := by
              intro o' v hv
              have hlt : o' < e' := by
                rcases Nat.lt_or_ge o' e' with k | k
                · exact k
                · rw [hno o' k] at hv; cases hv
              rw [hget, if_pos (by omega), ← cell_of_heap hh]
              exact hI.inert _ _ _ hv
            have out := hI.tokOn hal a1 tw hc' (by rw [hcs']; exact htot) (e' := e' + ys.length * et.size) (by omega) hold (TyAt.same hh hc')
            obtain ⟨Γ2, le2, out2⟩ := tokOnA_out (e := e) out fun hty => by
              obtain ⟨blk2, e2, tot2, h1, h2⟩ := hI.ttys t e hty
              rw [a1] at h1
              simp only [Option.some.injEq, Prod.mk.injEq] at h1
              obtain ⟨h1, _, _⟩ := h1
              rw [← h1] at h2
              exact ⟨blk, e' + ys.length * et.size, tot, by simp [Ghost.addTk], TyAt.same hh hc' e (hI.ety _ _ h2)⟩
            refine ⟨_, _, _, hrun, out2, R.mono le2 _ _ ?_⟩
            simp only [R]
            refine ⟨blk, o, cap, by rw [List.length_append], by rw [List.length_append]; exact hfit, k2, .inr ⟨e' + ys.length * et.size, tot, by simp [Ghost.addTk], ?_, a3⟩, ?_⟩
            · rw [List.length_append, Nat.add_mul, ← a2, Nat.add_assoc]
            · refine RE.append ?_ ?_
              · refine RE.mono out.le xs _ _ o et.size (fun k v hv => ?_) k4
                exact out.le.inert blk k v hv
              · have := RE.mono out.le ys _ (fun k => news[k]?) 0 et.size (fun _ _ k => k) fed.els
                have h2 := this.shift (g := ((Γ.addInert blk fun o' => if e' ≤ o' ∧ o' < e' + ys.length * et.size then c'[o']? else Γ.inert blk o').addTk st.next (some (blk, e' + ys.length * et.size, tot))).inert blk) (d := o + xs.length * et.size) (fun k v hv => by
                  have hk : k < news.length := (List.getElem?_eq_some_iff.1 hv).1
                  simp only [Ghost.addTk, Ghost.addInert, if_pos]
                  rw [if_pos (by omega), hget, if_neg (by omega), if_pos (by omega)]
                  have : k + (o + xs.length * et.size) - (o + xs.length * et.size) = k := by omega
                  rw [this]; exact hv)
                rw [Nat.zero_add] at h2
                exact h2
        · -- a new array
          obtain ⟨olds, q1, q2, q3, q4⟩ := RE.news xs o k4
          have hold : (Builtin.firstCells ei.size xs.length (.slice (some ⟨blk, o, none⟩) xs.length cap)).run P w.drew = .ok olds.toArray w.drew :=
            run_firstCells_some w.drew ei.size xs.length _ _ _ olds (by rw [hes]; exact q1) (fun j u hj => by rw [add_mk]; exact (hI.drawn _).inert _ _ _ (q2 j u hj))
          obtain ⟨c, cap', hrun, hc, hle, hre⟩ := grow_facts (xs := xs) (olds := olds) (rt := rt) hu hei hez hes hzs fed q1 hold q3 (by omega) (by rw [heb]; exact hroom.1) hroom.2
          have out1 := hI.dropTok t
          have hat : (w.drew.alloc (.cells c e)).heap[w.heap.size]? = some (.cells c e (0, 0)) := alloc_at w.drew (.cells c e)
          have out3 := out1.inv.tokNew (drew_alloc_touch w _) hat (n := (xs ++ ys).length * et.size) (tot := cap' * et.size) (by rw [hc]; exact Nat.le_refl _)
          obtain ⟨Γ2, le2, out2⟩ := tokOnA_out (e := e) (out1.trans out3) fun _ => ⟨w.heap.size, _, _, by simp [Ghost.addTk]; exact ⟨rfl, rfl⟩, ⟨_, _, hat⟩⟩
          refine ⟨_, _, Γ2, hrun, out2, R.mono le2 _ _ ?_⟩
          simp only [R]
          refine ⟨w.heap.size, 0, cap', by rw [List.length_append], by rw [List.length_append]; exact hle, hsz, .inr ⟨(xs ++ ys).length * et.size, cap' * et.size, by simp [Ghost.addTk], by simp, by omega⟩, ?_⟩
          refine (RE.mono out3.le (xs ++ ys) _ _ 0 et.size (fun _ _ k => k) hre).ext fun k v _ hk hv => ?_
          simp only [Ghost.addTk, Ghost.addInert, if_pos]
          rw [if_pos (by omega)]; exact hv
    · cases h
  · -- a slice of a row
    rename_i sz b off len
    split at h
    · rename_i sz' xs hg
      split at h
      · rename_i hcond
        obtain ⟨rfl, rfl, hlen, hroom⟩ := hcond
        cases h
        simp only [roomA, Bool.and_eq_true, decide_eq_true_eq] at hroom
        simp only [R] at hs
        obtain ⟨blk, base, tot, o, cap, ho, rfl, k1, k2⟩ := hs
        obtain ⟨_, _, hlt, hmem⟩ := hI.rows b _ xs blk base _ tot hg ho
        have hxl : ((xs.drop off).take len).length = len := by rw [List.length_take, List.length_drop]; omega
        -- in the same memory
        have inPlace : ∀ {w' : World} {c' : Array Value} {T : TypeId}, Touch w w' blk → w'.heap[blk]? = some (.cells c' T (0, 0)) → 0 < tot → o = base + off * et.size → off + cap ≤ tot → base + tot * et.size ≤ c'.size →
            len + ys.length ≤ cap → RE Γ ((xs.drop off).take len ++ ys) (fun k => c'[k]?) (base + off * et.size) et.size → (∀ T', TyAt w blk T' → TyAt w' blk T') →
            ∃ Γ', Out B w0 Γ st Γ' ((st.drop b).new (.row et.size ((xs.drop off).take len ++ ys))) w' ∧ R Γ' (.sl et.size st.next 0 (len + ys.length)) (.slice (some ⟨blk, o, none⟩) (len + ys.length) cap) := by
          intro w' c' T tw hc' h0 hoo hcap hcs hle hre hty
          have hmul : (off + cap) * et.size ≤ tot * et.size := Nat.mul_le_mul_right _ hcap
          rw [Nat.add_mul] at hmul
          have hsub : (tot - off) * et.size = tot * et.size - off * et.size := Nat.sub_mul _ _ _
          have out := hI.rowOn hg ho h0 tw hc' (bs' := base + off * et.size) (tot' := tot - off) (by omega) (by rw [List.length_append, hxl]; omega) hre hty
          refine ⟨_, out, ?_⟩
          simp only [R]
          exact ⟨blk, base + off * et.size, tot - off, o, cap, by simp [Ghost.addObj], rfl, hle, .inr ⟨by rw [hoo]; simp, by omega⟩⟩
        by_cases hy : ys = []
        · subst hy
          have hrun := append_none (rt := rt) hu hei hes fed (some ⟨blk, o, none⟩) k1
          simp only [List.append_nil, List.length_nil, Nat.add_zero] at inPlace ⊢
          by_cases hc0 : cap = 0
          · have hl0 : len = 0 := by omega
            subst hl0
            have out1 := hI.dropObj ho
            have out2 := out1.inv.rowEmpty (sz := et.size) (blk := blk) (bs := o) hsz
            refine ⟨_, w, Γ.addObj (st.drop b).next (blk, o, et.size, 0), hrun, ?_, ?_⟩
            · have : List.take 0 (List.drop off xs) = [] := rfl
              rw [this]
              exact out1.trans out2
            · simp only [R]
              exact ⟨blk, o, 0, o, cap, by simp [Ghost.addObj], rfl, k1, .inl hc0⟩
          · rcases k2 with k2 | ⟨k2, k3⟩
            · exact absurd k2 hc0
            · have h0 : 0 < tot := by omega
              obtain ⟨⟨c, T, hh, hcs, hre⟩, _⟩ := hmem h0
              obtain ⟨Γ', o1, o2⟩ := inPlace (Touch.refl w blk) hh h0 k2 k3 hcs k1 ((hre.drop off).take len) (fun _ k => k)
              exact ⟨_, w, Γ', hrun, o1, o2⟩
        · have hpos : 0 < ys.length := List.length_pos_iff.2 hy
          by_cases hfit : len + ys.length ≤ cap
          · rcases k2 with k2 | ⟨k2, k3⟩
            · omega
            · have h0 : 0 < tot := by omega
              obtain ⟨⟨c, T, hh, hcs, hre⟩, _⟩ := hmem h0
              have hnl := fed.src.newsLen
              have hmul : (len + ys.length) * et.size ≤ cap * et.size := Nat.mul_le_mul_right _ hfit
              rw [Nat.add_mul] at hmul
              have hmul2 : (off + cap) * et.size ≤ tot * et.size := Nat.mul_le_mul_right _ k3
              rw [Nat.add_mul] at hmul2
              have hend : o + len * et.size + news.length ≤ c.size := by omega
              have hcell : ∀ j, j < news.length → (w.cell? ⟨blk, o + len * ei.size + j, none⟩).isSome = true := by
                intro j hj
                rw [cell_of_heap hh, hes]
                have : o + len * et.size + j < c.size := by omega
                rw [Array.getElem?_eq_getElem this]; rfl
              have hfz : ∀ j, j < news.length → w.frozen? ⟨blk, o + len * ei.size + j, none⟩ = false := by
                intro j _; simp [World.frozen?, hh]
              have hrun := run_append_room_src (P := P) w ts tx rt e ei hu hei blk o len cap xv ys.length news (by rw [hes]; exact fed.src) hfit hcell hfz
              rw [hes] at hrun
              obtain ⟨tw, c', hc', hcs', hget⟩ := setCells_put news hh hend
              obtain ⟨Γ', o1, o2⟩ := inPlace tw hc' h0 k2 k3 (by rw [hcs']; exact hcs) hfit (by
                refine RE.append ?_ ?_
                · refine ((hre.drop off).take len).ext fun k v h1 h2 hv => ?_
                  show c'[k]? = some v
                  rw [hxl] at h2
                  rw [hget, if_pos (by omega)]; exact hv
                · rw [hxl]
                  have h2 := fed.els.shift (g := fun k => c'[k]?) (d := base + off * et.size + len * et.size) (fun k v hv => by
                    have hk : k < news.length := (List.getElem?_eq_some_iff.1 hv).1
                    show c'[k + (base + off * et.size + len * et.size)]? = some v
                    rw [hget, if_neg (by omega), if_pos (by omega)]
                    have : k + (base + off * et.size + len * et.size) - (o + len * et.size) = k := by omega
                    rw [this]; exact hv)
                  rw [Nat.zero_add] at h2
                  exact h2) (TyAt.same hh hc')
              exact ⟨_, _, Γ', hrun, o1, o2⟩
          · -- a new array
            have hgrow : ∃ olds : List Value, olds.length = len * et.size ∧ (Builtin.firstCells ei.size len (.slice (some ⟨blk, o, none⟩) len cap)).run P w.drew = .ok olds.toArray w.drew ∧ RE Γ ((xs.drop off).take len) (fun k => olds[k]?) 0 et.size := by
              by_cases hl0 : len = 0
              · subst hl0
                refine ⟨[], by simp, ?_, by simp only [List.take_zero, RE]⟩
                exact run_firstCells_some w.drew ei.size 0 _ _ _ [] (by simp) (fun j u hj => by simp at hj)
              · rcases k2 with k2 | ⟨k2, k3⟩
                · omega
                · obtain ⟨⟨c, T, hh, hcs, hre⟩, _⟩ := hmem (by omega)
                  obtain ⟨olds, q1, q2, q3, q4⟩ := RE.news _ _ ((hre.drop off).take len)
                  rw [hxl] at q1
                  refine ⟨olds, q1, ?_, q3⟩
                  refine run_firstCells_some w.drew ei.size len _ _ _ olds (by rw [hes]; exact q1) (fun j u hj => ?_)
                  rw [add_mk, k2, cell_of_heap (w := w.drew) hh]
                  exact q2 j u hj
            obtain ⟨olds, q1, q2, q3⟩ := hgrow
            obtain ⟨c, cap', hrun, hc, hle, hre⟩ := grow_facts (xs := (xs.drop off).take len) (olds := olds) (base := some ⟨blk, o, none⟩) (sCap := cap) (rt := rt) hu hei hez hes hzs fed (by rw [hxl]; exact q1) (by rw [hxl]; exact q2) q3 (by rw [hxl]; omega) (by rw [hxl, heb]; exact hroom.1) (by rw [hxl]; exact hroom.2)
            rw [hxl] at hrun hle
            have out1 := hI.dropObj ho
            obtain ⟨Γ', o1, o2⟩ := newRow_does out1.inv (e := e) (by rw [List.length_append, hxl]) hsz hc hle hre
            exact ⟨_, _, Γ', hrun, out1.trans o1, o2⟩
      · cases h
    · cases h
  · cases h
end
end Go.Abs

/- copy does what the interpreter says. -/
namespace Go.Abs
open Go.RowKit

section
variable {P : Program}

/-- What a slice's elements are, as cells that can be read. -/
theorem cells_read {B : Nat} {w0 w : World} {Γ : Ghost} {st : St} (hI : Inv B w0 Γ st w) {x : AV} {v : Value} {ys : List AV} {sz : Nat} (h : elemsA st x = some (sz, ys)) (hstr : isStrA x = false) (hne : ys ≠ []) (hx : R Γ x v) :
    ∃ (a : Addr) (cap : Nat) (news : List Value), v = .slice (some a) ys.length cap ∧ news.length = ys.length * sz ∧ (∀ (j : Nat) (u : Value), news[j]? = some u → w.cell? (a.add j) = some u) ∧ RE Γ ys (fun k => news[k]?) 0 sz ∧ ∀ u ∈ news, u.oneCell' = true := by
  unfold elemsA at h
  split at h
  · cases hstr
  · cases h; exact absurd rfl hne
  · cases h; exact absurd rfl hne
  · rename_i sz own xs
    cases h
    simp only [R] at hx
    obtain ⟨blk, o, cap, rfl, h1, h2, h3, h4⟩ := hx
    obtain ⟨news, k1, k2, k3, k4⟩ := RE.news ys o h4
    exact ⟨⟨blk, o, none⟩, cap, news, rfl, k1, fun j u hj => by rw [add_mk]; exact hI.inert _ _ _ (k2 j u hj), k3, k4⟩
  · rename_i sz b off len
    split at h
    · rename_i sz1 xs hg
      split at h
      · rename_i hle
        cases h
        simp only [R] at hx
        obtain ⟨blk, base, tot, o, cap, ho, rfl, h2, h3⟩ := hx
        obtain ⟨e1, hsz1, hlt, hmem⟩ := hI.rows b sz1 xs blk base _ tot hg ho
        subst e1
        have hyl : ((xs.drop off).take len).length = len := by rw [List.length_take, List.length_drop]; omega
        have hlen0 : 0 < len := by
          rcases Nat.eq_zero_or_pos len with h0 | h0
          · subst h0; exact absurd (by simp) hne
          · exact h0
        rcases h3 with h3 | ⟨h3, h4⟩
        · omega
        · subst h3
          obtain ⟨⟨c, T, hh, hcs, hre⟩, _⟩ := hmem (by omega)
          obtain ⟨news, k1, k2, k3, k4⟩ := RE.news _ _ ((hre.drop off).take len)
          refine ⟨_, cap, news, by rw [hyl], k1, fun j u hj => by rw [add_mk, cell_of_heap hh]; exact k2 j u hj, k3, k4⟩
      · cases h
    · cases h
  · cases h

theorem copy_sound {E : Env} (hE : ∀ t y, E.ty t = some y → TyOk P t y) {B : Nat} {w0 w : World} {Γ : Ghost} {st st' : St} (hI : Inv B w0 Γ st w) {td tx rt : TypeId} {d x r : AV} {dv xv : Value}
    (h : copyA E st td tx d x = some (r, st')) (hd : R Γ d dv) (hx : R Γ x xv) : Does P B w0 (Builtin.copy_ #[td, tx] rt #[dv, xv]) w Γ st r st' := by
  have refl0 : Out B w0 Γ st Γ st w := ⟨Ghost.Le.refl Γ, hI, Keep.refl Γ st⟩
  unfold copyA at h
  split at h
  · rename_i tyd tyx htd htx
    split at h
    · rename_i e e2 sz b off len hde hdx
      split at h
      · cases h
      · rename_i et he
        obtain ⟨U, i', z', hu, _, _, g1, _⟩ := (hE td tyd htd).ex
        have gi := tdOf_inv g1
        rw [hde] at gi; simp only [TDIs] at gi; subst gi
        obtain ⟨ei, ez, hei, hez, hes, heb, hzs, hzo, hzr⟩ := (hE e et he).zero
        split at h
        · rename_i sz' xs sz2 ys hg hel
          split at h
          · rename_i hc
            obtain ⟨c1, c2, c3, c4, c5, c6, c7⟩ := hc
            subst c2; subst c3
            have hsz : (P.info? e).map (·.size) = some 1 := by rw [hei, Option.map_some, hes, c1]
            simp only [R] at hd
            obtain ⟨blk, base, tot, o, cap, ho, rfl, h2, h3⟩ := hd
            by_cases hy : ys = []
            · subst hy
              simp only [List.length_nil, Nat.zero_min, if_true, Option.some.injEq, Prod.mk.injEq] at h
              obtain ⟨rfl, rfl⟩ := h
              -- nothing
              have hxv : ∃ a c, xv = .slice a 0 c := by
                unfold elemsA at hel
                split at hel
                · cases c7
                · simp only [R] at hx; exact ⟨_, _, hx⟩
                · simp only [R] at hx; obtain ⟨a, c, rfl⟩ := hx; exact ⟨_, _, rfl⟩
                · cases hel
                  simp only [R] at hx
                  obtain ⟨b1, o1, cp, rfl, _⟩ := hx
                  exact ⟨_, _, rfl⟩
                · rename_i s1 b1 of1 l1
                  split at hel
                  · rename_i z1 x1 g1
                    split at hel
                    · rename_i hle
                      simp only [Option.some.injEq, Prod.mk.injEq] at hel
                      have hl0 : l1 = 0 := by
                        have := congrArg List.length hel.2
                        rw [List.length_take, List.length_drop] at this
                        simp at this; omega
                      subst hl0
                      simp only [R] at hx
                      obtain ⟨k1, k2, k3, k4, k5, k6, rfl, _⟩ := hx
                      exact ⟨_, _, rfl⟩
                    · cases hel
                  · cases hel
                · cases hel
              obtain ⟨a, cp, rfl⟩ := hxv
              refine ⟨_, w, Γ, run_copy_none w td tx rt e _ a len cap 0 cp hu hsz (by simp), refl0, ?_⟩
              simp only [R]; rfl
            · obtain ⟨a, cp, news, rfl, k1, k2, k3, k4⟩ := cells_read hI hel c7 hy hx
              have hs2 : sz2 = 1 := by
                cases ys with
                | nil => exact absurd rfl hy
                | cons y ys => simpa using c6
              subst hs2
              rw [Nat.mul_one] at k1
              split at h
              · rename_i hm
                simp only [Option.some.injEq, Prod.mk.injEq] at h
                obtain ⟨rfl, rfl⟩ := h
                refine ⟨_, w, Γ, run_copy_none w td tx rt e _ _ len cap _ cp hu hsz hm, refl0, ?_⟩
                simp only [R]; rfl
              · rename_i hm
                simp only [Option.some.injEq, Prod.mk.injEq] at h
                obtain ⟨rfl, rfl⟩ := h
                generalize hn : min ys.length len = n at *
                have hnl : n ≤ len := by omega
                have hny : n ≤ ys.length := by omega
                have hcl : (news.take n).length = n := by rw [List.length_take]; omega
                rcases h3 with h3 | ⟨h3, h4⟩
                · omega
                · obtain ⟨e1, hsz1, hlt, hmem⟩ := hI.rows b 1 xs blk base _ tot hg ho
                  obtain ⟨⟨c, T, hh, hcs, hre⟩, hno⟩ := hmem (by omega)
                  rw [Nat.mul_one] at h3
                  subst h3
                  have hfit : base + off + (news.take n).length ≤ c.size := by rw [hcl]; omega
                  have hrun := run_copy_cells (P := P) w td tx rt e blk (base + off) len cap a ys.length cp (news.take n) hu hsz (by rw [hcl]; exact hn.symm)
                    (fun j u hj => k2 j u (by
                      rw [List.getElem?_take] at hj
                      split at hj
                      · exact hj
                      · cases hj))
                    (fun j hj => by rw [cell_of_heap hh, Array.getElem?_eq_getElem (by omega)]; rfl)
                    (fun j _ => by simp [World.frozen?, hh])
                    (fun u hu => k4 u (List.mem_of_mem_take hu))
                  obtain ⟨tw, c', hc', hcs', hget⟩ := setCells_put (news.take n) hh hfit
                  rw [hcl] at hrun hget
                  refine ⟨_, _, Γ, hrun, hI.rowPut hg ho (by omega) tw hc' (by rw [hcs']; exact hcs) ?_ (RE.mk fun i y hi => ?_) (TyAt.same hh hc'), by simp only [R]; rfl⟩
                  · simp only [List.length_append, List.length_take, List.length_drop]; omega
                  · have htl : (xs.take off).length = off := by rw [List.length_take]; omega
                    have hyl : (ys.take n).length = n := by rw [List.length_take]; omega
                    have one : ∀ {ev : Value}, ev.cells.size = 1 → ∀ {k : Nat} {u : Value}, ev.cells.toList[k]? = some u → k = 0 := by
                      intro ev h1 k u hk
                      have := (List.getElem?_eq_some_iff.1 hk).1
                      rw [Array.length_toList] at this; omega
                    rw [List.getElem?_append, List.length_append, htl, hyl] at hi
                    split at hi
                    · rename_i hi1
                      rw [List.getElem?_append, htl] at hi
                      split at hi
                      · rename_i hi2
                        rw [List.getElem?_take_of_lt hi2] at hi
                        obtain ⟨ev, p1, p2, p3, p4⟩ := hre.get i y hi
                        refine ⟨ev, p1, p2, p3, fun k u hk => ?_⟩
                        have hk0 := one p3 hk
                        subst hk0
                        show c'[base + i * 1 + 0]? = some u
                        rw [hget, if_pos (by omega)]
                        exact p4 0 u hk
                      · rename_i hi2
                        rw [List.getElem?_take_of_lt (by omega)] at hi
                        obtain ⟨ev, p1, p2, p3, p4⟩ := k3.get _ y hi
                        refine ⟨ev, p1, p2, p3, fun k u hk => ?_⟩
                        have hk0 := one p3 hk
                        subst hk0
                        show c'[base + i * 1 + 0]? = some u
                        rw [hget, if_neg (by omega), if_pos (by omega), List.getElem?_take_of_lt (by omega)]
                        have := p4 0 u hk
                        have e1 : base + i * 1 + 0 - (base + off) = 0 + (i - off) * 1 + 0 := by omega
                        rw [e1]; exact this
                    · rename_i hi1
                      rw [List.getElem?_drop] at hi
                      have e0 : off + n + (i - (off + n)) = i := by omega
                      rw [e0] at hi
                      obtain ⟨ev, p1, p2, p3, p4⟩ := hre.get i y hi
                      refine ⟨ev, p1, p2, p3, fun k u hk => ?_⟩
                      have hk0 := one p3 hk
                      subst hk0
                      show c'[base + i * 1 + 0]? = some u
                      rw [hget, if_neg (by omega), if_neg (by omega)]
                      exact p4 0 u hk
          · cases h
        · cases h
    · cases h
  · cases h
end
end Go.Abs

/- Rows that are never written again; each operation, as the walk has it. -/
namespace Go.Abs
open Go.RowKit

section
variable {P : Program}

theorem freezeC_sound {B : Nat} {w0 w : World} {Γ : Ghost} {st st' : St} (hI : Inv B w0 Γ st w) {x r : AV} {v : Value} (h : freezeC st x = some (r, st')) (hx : R Γ x v) :
    ∃ Γ', Out B w0 Γ st Γ' st' w ∧ R Γ' r v := by
  unfold freezeC at h
  split at h
  · rename_i sz b off len
    split at h
    · rename_i sz' xs hg
      split at h
      · rename_i hc
        obtain ⟨rfl, hle⟩ := hc
        simp only [R] at hx
        obtain ⟨blk, base, tot, o, cap, ho, rfl, k1, k2⟩ := hx
        obtain ⟨_, hsz, hlt, hmem⟩ := hI.rows b _ xs blk base _ tot hg ho
        have hxl : ((xs.drop off).take len).length = len := by rw [List.length_take, List.length_drop]; omega
        have key : ∀ own, (own = .any ∨ (off + len = xs.length ∧ own = .tok st.next)) → r = .vs sz' own ((xs.drop off).take len) → st' = (st.drop b).newTok → ∃ Γ', Out B w0 Γ st Γ' st' w ∧ R Γ' r (.slice (some ⟨blk, o, none⟩) len cap) := by
          intro own hown hr hst
          subst hr; subst hst
          by_cases h0 : 0 < tot
          · obtain ⟨⟨c, T, hh, hcs, hre⟩, _⟩ := hmem h0
            have out := hI.freezeTok hg ho h0 hh
            refine ⟨_, out, ?_⟩
            simp only [R]
            refine ⟨blk, o, cap, by rw [hxl], by rw [hxl]; exact k1, hsz, ?_, ?_⟩
            · rcases hown with rfl | ⟨hend, rfl⟩
              · trivial
              · rw [hxl]
                rcases k2 with k2 | ⟨k2, k3⟩
                · exact .inl (by omega)
                · refine .inr ⟨base + xs.length * sz', base + tot * sz', by simp [Ghost.addTk], ?_, ?_⟩
                  · rw [k2, ← hend, Nat.add_mul, Nat.add_assoc]
                  · have hmul : (off + cap) * sz' ≤ tot * sz' := Nat.mul_le_mul_right _ k3
                    rw [Nat.add_mul] at hmul
                    omega
            · by_cases hl0 : len = 0
              · subst hl0; simp only [List.take_zero, RE]
              · rcases k2 with k2 | ⟨k2, k3⟩
                · omega
                · subst k2
                  refine (RE.mono out.le _ _ _ _ _ (fun _ _ k => k) ((hre.drop off).take len)).ext fun k v h1 h2 hv => ?_
                  rw [hxl] at h2
                  have hmul : (off + len) * sz' ≤ xs.length * sz' := Nat.mul_le_mul_right _ hle
                  rw [Nat.add_mul] at hmul
                  simp only [Ghost.addTk, Ghost.addInert, if_pos]
                  rw [if_pos (by omega)]; exact hv
          · have hx0 : xs = [] := List.eq_nil_of_length_eq_zero (by omega)
            have out1 := hI.dropObj ho
            refine ⟨Γ, out1.trans out1.inv.tokFree, ?_⟩
            have hl0 : len = 0 := by rw [hx0] at hle; simp at hle; omega
            subst hl0
            have hc0 : cap = 0 := by
              rcases k2 with k2 | ⟨_, k3⟩
              · exact k2
              · omega
            simp only [R, List.take_zero, List.length_nil]
            refine ⟨blk, o, cap, rfl, Nat.zero_le _, hsz, ?_, by simp only [RE]⟩
            rcases hown with rfl | ⟨_, rfl⟩
            · trivial
            · exact .inl hc0
        split at h
        · rename_i hend
          cases h
          exact key _ (.inr ⟨hend, rfl⟩) rfl rfl
        · cases h
          exact key _ (.inl rfl) rfl rfl
      · cases h
    · cases h
  · cases h
    exact ⟨Γ, ⟨Ghost.Le.refl Γ, hI, Keep.refl Γ st⟩, hx⟩

theorem freezeL_sound {B : Nat} {w0 w : World} : ∀ (xs : List AV) {Γ : Ghost} {st st' : St} {rs : List AV} {vs : List Value}, Inv B w0 Γ st w → freezeL st xs = some (rs, st') → RL Γ xs vs →
    ∃ Γ', Out B w0 Γ st Γ' st' w ∧ RL Γ' rs vs
  | [], Γ, st, st', rs, vs, hI, h, hx => by
    simp only [freezeL, Option.some.injEq, Prod.mk.injEq] at h
    obtain ⟨rfl, rfl⟩ := h
    exact ⟨Γ, ⟨Ghost.Le.refl Γ, hI, Keep.refl Γ st⟩, hx⟩
  | x :: xs, Γ, st, st', rs, vs, hI, h, hx => by
    simp only [freezeL] at h
    obtain ⟨v, vr, rfl, h1, h2⟩ := hx.of_cons
    split at h
    · cases h
    · rename_i y st1 hy
      split at h
      · cases h
      · rename_i ys st2 hys
        cases h
        obtain ⟨Γ1, o1, r1⟩ := freezeC_sound hI hy h1
        obtain ⟨Γ2, o2, r2⟩ := freezeL_sound xs o1.inv hys (RL.mono o1.le xs _ h2)
        exact ⟨Γ2, o1.trans o2, RL.cons (r1.mono o2.le) r2⟩

theorem freeze_sound {B : Nat} {w0 w : World} {Γ : Ghost} {st st' : St} (hI : Inv B w0 Γ st w) {x r : AV} {v : Value} (h : freezeA st x = some (r, st')) (hx : R Γ x v) :
    ∃ Γ', Out B w0 Γ st Γ' st' w ∧ R Γ' r v := by
  unfold freezeA at h
  split at h
  · simp only [Option.map_eq_some_iff, Prod.exists] at h
    obtain ⟨ys, st1, h1, e⟩ := h
    cases e
    simp only [R] at hx
    obtain ⟨vs, rfl, h2⟩ := hx
    obtain ⟨Γ', o1, r1⟩ := freezeL_sound _ hI h1 h2
    exact ⟨Γ', o1, by simp only [R]; exact ⟨vs, rfl, r1⟩⟩
  · simp only [Option.map_eq_some_iff, Prod.exists] at h
    obtain ⟨ys, st1, h1, e⟩ := h
    cases e
    simp only [R] at hx
    obtain ⟨vs, rfl, h2⟩ := hx
    obtain ⟨Γ', o1, r1⟩ := freezeL_sound _ hI h1 h2
    exact ⟨Γ', o1, by simp only [R]; exact ⟨vs, rfl, r1⟩⟩
  · exact freezeC_sound hI h hx

/-- What is asked of the calls. -/
def CallsOk (P : Program) (B : Nat) (w0 : World) (call : Call1) : Prop :=
  ∀ f args st r st', call f args st = some (r, st') → (∀ (w : World) (vargs : Array Value), (callFunc f vargs).run P w = .ok (.enter f vargs) w) ∧
    ∀ Γ w (vargs : Array Value), Inv B w0 Γ st w → RL Γ args vargs.toList →
      Calls P f vargs w fun e w' => ∃ v Γ', e = .returned v ∧ Out B w0 Γ st Γ' st' w' ∧ R Γ' r v

set_option maxHeartbeats 1000000 in
theorem step_sound {E : Env} (hE : EnvOk P E) {B : Nat} {w0 w : World} {call : Call1} (hcall : CallsOk P B w0 call) {Γ : Ghost} {st st' : St} (hI : Inv B w0 Γ st w) {tm : TM} {a : Act} (hF : RT Γ tm a.tmps)
    {pol : Nat} {o : Oper} {r : AV} (h : stepOp E call pol tm st o = some (r, st')) {K : Act → World → Prop} {Q : Exit → Act → World → Prop}
    (hK : ∀ u w' Γ', Out B w0 Γ st Γ' st' w' → R Γ' r u → K (a.put o.dst u) w') : o.wp P a w K Q := by
  unfold stepOp at h
  split at h
  · rename_i hloud
    clear hloud
    split at h
    · rename_i v st1 hl
      -- all but a call: no freezing
      have plain : isFnCall o.op = false → v = r ∧ st1 = st' := by
        intro hf
        rw [hf] at h
        simp at h
        exact h
      have value : ∀ {s : Sem Value}, isFnCall o.op = false → Does P B w0 s w Γ st v st1 → (execOp a.eval o = do pure (Next.value (← s))) → o.wp P a w K Q := by
        intro s hf hs he
        obtain ⟨e1, e2⟩ := plain hf
        subst e1; subst e2
        obtain ⟨u, w', Γ', k1, k2, k3⟩ := hs
        unfold Oper.wp
        rw [he]
        simp only [Sem.run_bind, k1, Result.andThen_ok, Sem.run_pure]
        exact hK u w' Γ' k2 k3
      have unit : ∀ {s : Sem Unit}, isFnCall o.op = false → (∃ w' Γ', s.run P w = .ok () w' ∧ Out B w0 Γ st Γ' st1 w') → v = .junk → (execOp a.eval o = do s; pure Next.skip) → o.wp P a w K Q := by
        intro s hf hs hv he
        obtain ⟨e1, e2⟩ := plain hf
        subst e1; subst e2
        obtain ⟨w', Γ', k1, k2⟩ := hs
        unfold Oper.wp
        rw [he]
        simp only [Sem.run_bind, k1, Result.andThen_ok, Sem.run_pure]
        exact hK undef w' Γ' k2 (by rw [hv]; simp only [R])
      obtain ⟨dst, op, ty, pos, after, guard⟩ := o
      cases op <;> simp only [loud] at hl <;> (try (cases hl; done))
      case alloc t => exact value rfl (alloc_sound hE.ty hI hl) rfl
      case box t x => exact value rfl (box_sound hI hl (hF.eval x)) rfl
      case store t ad x =>
        split at hl
        · rename_i ty' ht
          split at hl
          · rename_i hlen
            simp only [Option.map_eq_some_iff] at hl
            obtain ⟨s1, hs, e⟩ := hl
            cases e
            exact unit rfl (store_sound hE.ty hI ht hlen hs (hF.eval ad) (hF.eval x)) rfl rfl
          · cases hl
        · cases hl
      case makeMap t k =>
        cases k with
        | none =>
          dsimp only at hl
          split at hl
          · rename_i ty' ht
            split at hl
            · rename_i kt et hd
              cases hl
              obtain ⟨U, _, _, hu, _, _, g1, _⟩ := (hE.ty t ty' ht).ex
              have gi := tdOf_inv g1
              rw [hd] at gi; simp only [TDIs] at gi; subst gi
              exact value rfl (makeMap_sound (k := none) hI hu) rfl
            · cases hl
          · cases hl
        | some x =>
          dsimp only at hl
          split at hl
          · rename_i ty' k n ht he
            split at hl
            · rename_i kt et hd
              cases hl
              obtain ⟨U, _, _, hu, _, _, g1, _⟩ := (hE.ty t ty' ht).ex
              have gi := tdOf_inv g1
              rw [hd] at gi; simp only [TDIs] at gi; subst gi
              have hx := hF.eval x
              rw [he] at hx; simp only [R] at hx
              exact value rfl (makeMap_sound (k := some (k, n)) hI hu) (by simp only [execOp, Option.map_some, hx])
            · cases hl
          · cases hl
      case makeSlice t l c => exact value rfl (makeSlice_sound hE.ty hI hl (hF.eval l) (hF.eval c)) rfl
      case mapUpdate t m k x =>
        obtain ⟨w', Γ', k1, k2, k3⟩ := mapPut_sound hE.ty hI hl (hF.eval m) (hF.eval k) (hF.eval x)
        exact unit rfl ⟨w', Γ', k1, k2⟩ k3 rfl
      case insert t m k x =>
        obtain ⟨w', Γ', k1, k2, k3⟩ := mapPut_sound hE.ty hI hl (hF.eval m) (hF.eval k) (hF.eval x)
        exact unit rfl ⟨w', Γ', k1, k2⟩ k3 rfl
      case call c =>
        obtain ⟨callee, args, argTypes⟩ := c
        cases callee with
        | invoke rv m => cases hl
        | builtin b =>
          cases b <;> (try (cases hl; done)) <;> dsimp only at hl
          · split at hl
            · rename_i s x ts tx hargs htys
              have ha : args = #[s, x] := by rw [← Array.toArray_toList (xs := args), hargs]
              have hb : argTypes = #[ts, tx] := by rw [← Array.toArray_toList (xs := argTypes), htys]
              subst ha; subst hb
              refine value (s := Builtin.append_ #[ts, tx] ty #[a.eval s, a.eval x]) rfl ?_ (by simp [execOp, resolve, invoke, builtin])
              unfold appendOpA at hl
              split at hl
              · rename_i tys tyx hts htx
                split at hl
                · rename_i e hd
                  split at hl
                  · cases hl
                  · rename_i et he
                    split at hl
                    · rename_i hsz
                      split at hl
                      · -- zeros
                        rename_i kn hdx
                        split at hl
                        · rename_i n hs0 hx0
                          split at hl
                          · rename_i hc
                            obtain ⟨hn, hroom⟩ := hc
                            cases hl
                            simp only [roomA, Bool.and_eq_true, decide_eq_true_eq] at hroom
                            obtain ⟨U, _, _, hu, _, _, g1, _⟩ := (hE.ty ts tys hts).ex
                            have gi := tdOf_inv g1
                            rw [hd] at gi; simp only [TDIs] at gi; subst gi
                            obtain ⟨U2, _, _, hu2, _, _, g2, _⟩ := (hE.ty tx tyx htx).ex
                            have gi2 := tdOf_inv g2
                            rw [hdx] at gi2; simp only [TDIs] at gi2; subst gi2
                            obtain ⟨ei, ez, hei, hez, hes, heb, hzs, hzo, hzr⟩ := (hE.ty e et he).zero
                            have hs := hF.eval s
                            have hx := hF.eval x
                            rw [hs0] at hs; rw [hx0] at hx
                            simp only [R] at hs hx
                            have hnn : (n.toNat : Int) = n := Int.toNat_of_nonneg (by omega)
                            have hrun := Lib.run_append_nil_zeros (P := P) w ts tx ty e ei ez .i64 kn hu hu2 hei hez n.toNat (by omega) (by omega) (by omega) (by rw [heb]; omega)
                            rw [hnn] at hrun
                            rw [hs, hx]
                            have hcap := grownCap_ge w n.toNat 0 e
                            obtain ⟨Γ', o1, o2⟩ := newRow_does hI (e := e) (c := Builtin.zeroCells ez.cells n.toNat ++ Builtin.zeroCells ez.cells (grownCap w n.toNat 0 e - n.toNat)) (cap := grownCap w n.toNat 0 e) (n := n.toNat) (xs := List.replicate n.toNat et.zeroV) (size := et.size) (by simp) hsz
                              (by rw [Array.size_append, size_zeroCells, size_zeroCells, hzs, ← Nat.add_mul]; congr 1; omega) hcap
                              (zeros_RE (hzr Γ) hzo hzs hsz (m := n.toNat) (Nat.le_refl _) (fun k hk => by
                                rw [Array.getElem?_append_left (by rw [size_zeroCells, hzs]; exact hk), zeroCells_get (by rw [hzs]; exact hk) (by omega), hzs]))
                            exact ⟨_, _, Γ', hrun, o1, o2⟩
                          · cases hl
                        · cases hl
                      · rename_i e2 hdx
                        split at hl
                        · rename_i sz' ys hel
                          split at hl
                          · rename_i hc
                            obtain ⟨c1, c2, c3⟩ := hc
                            obtain ⟨news, fed⟩ := elems_sound hE.ty hI htx (.inl ⟨e2, hdx⟩) (by simpa using c3) hsz hel c1 c2 (hF.eval x)
                            exact append_sound hE.ty hI hts hd he hsz fed hl (hF.eval s)
                          · cases hl
                        · cases hl
                      · rename_i hdx
                        split at hl
                        · rename_i sz' ys hel
                          split at hl
                          · rename_i hc
                            obtain ⟨c1, c2, c3⟩ := hc
                            obtain ⟨news, fed⟩ := elems_sound hE.ty hI htx (.inr hdx) (by simpa using c3) hsz hel c1 c2 (hF.eval x)
                            exact append_sound hE.ty hI hts hd he hsz fed hl (hF.eval s)
                          · cases hl
                        · cases hl
                      · cases hl
                    · cases hl
                · cases hl
              · cases hl
            · cases hl
          · split at hl
            · rename_i s x ts tx hargs htys
              have ha : args = #[s, x] := by rw [← Array.toArray_toList (xs := args), hargs]
              have hb : argTypes = #[ts, tx] := by rw [← Array.toArray_toList (xs := argTypes), htys]
              subst ha; subst hb
              refine value (s := Builtin.copy_ #[ts, tx] ty #[a.eval s, a.eval x]) rfl ?_ (by simp [execOp, resolve, invoke, builtin])
              exact copy_sound hE.ty hI hl (hF.eval s) (hF.eval x)
            · cases hl
        | value f =>
          dsimp only at hl
          split at hl
          · rename_i g first cap he
            obtain ⟨hent, hcl⟩ := hcall _ _ _ _ _ hl
            have hf := hF.eval f
            rw [he] at hf; simp only [R] at hf
            obtain ⟨vf, vc, hv, hr1, hr2⟩ := hf
            have hargs : RL Γ (first ++ args.toList.map (evalO tm) ++ cap) ((vf ++ args.map a.eval) ++ vc).toList := by
              rw [Array.toList_append, Array.toList_append, Array.toList_map]
              exact (hr1.append (hF.evals args.toList)).append hr2
            unfold Oper.wp
            simp only [execOp, resolve, Sem.run_bind, hv, Deferred.ofValue, Sem.run_pure, Result.andThen_ok, invoke, hent]
            show Calls P g _ w _
            refine (hcl Γ w _ hI hargs).mono ?_
            rintro e w' ⟨u, Γ', rfl, o1, r1⟩
            by_cases hp : pol = 2
            · subst hp
              simp only [isFnCall, decide_true, Bool.and_self, if_true] at h
              obtain ⟨Γ2, o2, r2⟩ := freeze_sound o1.inv h r1
              exact hK u w' Γ2 (o1.trans o2) r2
            · have e1 : v = r ∧ st1 = st' := by
                simp only [hp, decide_false, Bool.false_and, Bool.false_eq_true, if_false, Option.some.injEq, Prod.mk.injEq] at h
                exact h
              obtain ⟨rfl, rfl⟩ := e1
              exact hK u w' Γ' o1 r1
          · cases hl
    · cases h
  · simp only [Option.map_eq_some_iff] at h
    obtain ⟨v, hq, e⟩ := h
    cases e
    obtain ⟨u, w', Γ', k1, k2, k3⟩ := quiet_sound hE hI hF hq
    unfold Oper.wp
    rw [k1]
    exact hK u w' Γ' k2 k3
end
end Go.Abs

/- Regions in the order of the text; code; calls. -/
namespace Go.Abs
open Go.RowKit

section
variable {P : Program}

theorem wanted_sound {Γ : Ghost} {ops : Array Oper} {tm : TM} {a : Act} {o : Oper} {b : Bool} (hF : RT Γ tm a.tmps) (h : wantedA ops tm o = some b) :
    Region.wanted o (yielded ops a.tmps) = b := by
  unfold wantedA at h
  unfold Region.wanted
  split at h
  · rename_i hg; cases h; rw [hg]
  · rename_i j want hg
    rw [hg]
    simp only [yielded]
    split at h
    · rename_i hd; cases h; rw [hd]; simp
    · rename_i d hd
      rw [hd]
      simp only [Option.bind_some]
      have hg := hF.get d
      rw [Array.getD_eq_getD_getElem?] at hg
      split at h
      · rename_i b' ht
        cases h
        rw [ht] at hg; simp only [R] at hg
        cases hv : a.tmps[d]? with
        | none => rw [hv] at hg; cases hg
        | some v =>
          rw [hv] at hg
          simp only [Option.getD_some] at hg
          subst hg
          simp
      · cases h
      · rename_i y hb hj
        cases h
        cases hv : a.tmps[d]? with
        | none => simp
        | some v =>
          rw [hv] at hg
          simp only [Option.getD_some] at hg
          have htag := hg.tag (fun e => hj e)
          cases v <;> first | (simp; done) | skip
          generalize tm.get d = z at *
          cases z <;> simp [tagA, tagV] at htag
          exact absurd rfl (hb _)

theorem undef_R (Γ : Ghost) : R Γ (.tup []) undef := by
  simp only [R]; exact ⟨#[], rfl, RL.nil Γ⟩

theorem runOps_sound {E : Env} (hE : EnvOk P E) {B : Nat} {w0 : World} {call : Call1} (hcall : CallsOk P B w0 call) {pol : Nat → Nat} {ops : Array Oper} {Q : Exit → Act → World → Prop} :
    ∀ (l : List Oper) (i : Nat) {Γ : Ghost} {st st' : St} {w : World} {tm tm' : TM} {a : Act}, Inv B w0 Γ st w → RT Γ tm a.tmps → runOps E call none pol ops l i tm st = some (tm', st') →
      (∀ Γ' a' w', Out B w0 Γ st Γ' st' w' → RT Γ' tm' a'.tmps → a'.defers = a.defers → Q .normal a' w') → wpList P ops Q l a w
  | [], i, Γ, st, st', w, tm, tm', a, hI, hF, h, hQ => by
    simp only [runOps, Option.some.injEq, Prod.mk.injEq] at h
    obtain ⟨rfl, rfl⟩ := h
    exact hQ Γ a w ⟨Ghost.Le.refl Γ, hI, Keep.refl Γ st⟩ hF rfl
  | o :: l, i, Γ, st, st', w, tm, tm', a, hI, hF, h, hQ => by
    simp only [runOps] at h
    split at h
    · rename_i hw
      split at h
      · rename_i v st1 hs
        unfold wpList
        rw [wanted_sound hF hw, if_pos rfl]
        refine .inl (step_sound hE hcall hI hF hs fun u w1 Γ1 o1 r1 => ?_)
        exact runOps_sound hE hcall l (i + 1) o1.inv ((RT.mono o1.le hF).put o.dst r1) h fun Γ2 a2 w2 o2 f2 d2 => hQ Γ2 a2 w2 (o1.trans o2) f2 (by rw [d2, put_defers])
      · cases h
    · rename_i hw
      unfold wpList
      rw [wanted_sound hF hw]
      simp only [Bool.false_eq_true, if_false]
      exact runOps_sound hE hcall l (i + 1) hI (hF.put o.dst (undef_R Γ)) h fun Γ2 a2 w2 o2 f2 d2 => hQ Γ2 a2 w2 o2 f2 (by rw [d2, put_defers])
    · cases h
end
end Go.Abs

/- Regions that draw their order: what does not matter. -/
namespace Go.Abs
open Go.RowKit

/-! ### Tmps that an operation does not look at -/
theorem evalO_congr {tm tm' : TM} {x : Operand} (h : ∀ t, x = .tmp t → tm.get t = tm'.get t) : evalO tm x = evalO tm' x := by
  cases x with
  | tmp t => exact h t rfl
  | _ => rfl

theorem pairs_congr {f g : Operand → AV} {ps : Array (Nat × Operand)} (h : ∀ x ∈ (ps.toList.map (·.2)).toArray, f x = g x) :
    (ps.toList.map fun (p : Nat × Operand) => (p.1, f p.2)) = ps.toList.map fun (p : Nat × Operand) => (p.1, g p.2) :=
  List.map_congr_left fun p hp => by rw [h p.2 (by simpa using ⟨p.1, by simpa using hp⟩)]
theorem args_congr {f g : Operand → AV} {l : Array Operand} (h : ∀ x ∈ l, f x = g x) : l.toList.map f = l.toList.map g :=
  List.map_congr_left fun x hx => h x (by simpa using hx)

theorem quiet_congr {E : Env} {tm tm' : TM} {st : St} {o : Oper} (h : ∀ x ∈ o.op.operands, evalO tm x = evalO tm' x) : quiet E tm st o = quiet E tm' st o := by
  obtain ⟨dst, op, ty, pos, after, guard⟩ := o
  dsimp only at h
  cases op <;> simp only [Op.operands] at h <;> simp only [quiet]
  case build t ps => rw [pairs_congr h]
  case buildSlice t n ps => rw [pairs_congr h]
  case makeFunc fn first captured =>
    cases fn with
    | func f => dsimp only; rw [args_congr (l := first) fun x hx => h x (by simp [hx]), args_congr (l := captured) fun x hx => h x (by simp [hx])]
    | _ => rfl
  case slice t x lo hi mx => cases lo <;> cases hi <;> cases mx <;> simp_all
  case call c =>
    obtain ⟨callee, args, tys⟩ := c
    cases callee with
    | value f => rfl
    | invoke r m => rfl
    | builtin b =>
      have ha : args.toList.map (evalO tm) = args.toList.map (evalO tm') := args_congr fun x hx => h x (by simp [Call.operands, hx])
      have hb : ∀ x, args.toList = [x] → evalO tm x = evalO tm' x := fun x hx => h x (by
        have : x ∈ args.toList := by rw [hx]; simp
        simpa [Call.operands] using this)
      cases b <;> dsimp only <;> (try rfl) <;> (try rw [ha])
      all_goals (split <;> first | rfl | (rename_i hx _; rw [hb _ hx]))
  all_goals (first | rfl | (simp_all; done))

theorem loud_congr {E : Env} {call : Call1} {pol : Nat} {tm tm' : TM} {st : St} {o : Oper} (h : ∀ x ∈ o.op.operands, evalO tm x = evalO tm' x) : loud E call pol tm st o = loud E call pol tm' st o := by
  obtain ⟨dst, op, ty, pos, after, guard⟩ := o
  dsimp only at h
  cases op <;> simp only [Op.operands] at h <;> simp only [loud]
  case makeMap t x => cases x <;> simp_all
  case call c =>
    obtain ⟨callee, args, tys⟩ := c
    have ha : args.toList.map (evalO tm) = args.toList.map (evalO tm') := args_congr fun x hx => h x (by simp [Call.operands, hx])
    cases callee with
    | value f =>
      have hf := h f (by simp [Call.operands])
      simp only [hf, ha]
    | invoke r m => rfl
    | builtin b =>
      cases b <;> dsimp only <;> (try rfl)
      all_goals
        split
        · rename_i s x ts tx hx _
          have h1 := h s (by
            have : s ∈ args.toList := by rw [hx]; simp
            simpa [Call.operands] using this)
          have h2 := h x (by
            have : x ∈ args.toList := by rw [hx]; simp
            simpa [Call.operands] using this)
          rw [h1, h2]
        · rfl
  all_goals (first | rfl | (simp_all; done))

theorem stepOp_congr {E : Env} {call : Call1} {pol : Nat} {tm tm' : TM} {st : St} {o : Oper} (h : ∀ x ∈ o.op.operands, evalO tm x = evalO tm' x) : stepOp E call pol tm st o = stepOp E call pol tm' st o := by
  unfold stepOp
  rw [quiet_congr h, loud_congr h]

theorem wantedA_congr {ops : Array Oper} {tm tm' : TM} {o : Oper} (h : ∀ g w t, o.guard = some (g, w) → (ops[g]?).bind (·.dst) = some t → tm.get t = tm'.get t) : wantedA ops tm o = wantedA ops tm' o := by
  unfold wantedA
  split
  · rfl
  · rename_i j want hg
    split
    · rfl
    · rename_i d hd
      rw [h j want d hg hd]

/-- What does not read the state is the same in any. -/
theorem quiet_any {E : Env} {tm : TM} {st st' : St} {o : Oper} (h : readsSt o.op = false) : quiet E tm st o = quiet E tm st' o := by
  obtain ⟨dst, op, ty, pos, after, guard⟩ := o
  dsimp only at h
  cases op <;> (try (simp [readsSt] at h; done)) <;> (try rfl)
  case makeFunc fn first cap => cases fn <;> rfl
  case call c =>
    obtain ⟨callee, args, tys⟩ := c
    cases callee with
    | value f => rfl
    | invoke r m => rfl
    | builtin b => cases b <;> first | rfl | (simp [readsSt] at h; done)

theorem looks_of_mem {ops : Array Oper} {o : Oper} {t : Tmp} (h : Operand.tmp t ∈ o.op.operands) : t ∈ o.looksAt ops :=
  List.mem_append_left _ (List.mem_filterMap.2 ⟨.tmp t, by simpa using h, rfl⟩)
theorem step_looks {E : Env} {call : Call1} {ops : Array Oper} {pol : Nat} {tm tm' : TM} {st : St} {o : Oper} (h : ∀ t ∈ o.looksAt ops, tm.get t = tm'.get t) : stepOp E call pol tm st o = stepOp E call pol tm' st o :=
  stepOp_congr fun _ hx => evalO_congr fun t e => h t (looks_of_mem (e ▸ hx))
theorem quiet_looks {E : Env} {ops : Array Oper} {tm tm' : TM} {st : St} {o : Oper} (h : ∀ t ∈ o.looksAt ops, tm.get t = tm'.get t) : quiet E tm st o = quiet E tm' st o :=
  quiet_congr fun _ hx => evalO_congr fun t e => h t (looks_of_mem (e ▸ hx))
theorem wanted_looks {ops : Array Oper} {tm tm' : TM} {o : Oper} (h : ∀ t ∈ o.looksAt ops, tm.get t = tm'.get t) : wantedA ops tm o = wantedA ops tm' o :=
  wantedA_congr fun g w t hg hd => h t (by simp [Oper.looksAt, hg, hd])

/-! ### Before -/
theorem before_foldl (c : Edge → Bool) (acc : Array Nat) (es : List Edge) (s x : Nat) :
    (es.foldl (fun s e => if c e then s ||| 2 ^ e.on ||| acc.getD e.on 0 else s) s).testBit x = true ↔
      s.testBit x = true ∨ ∃ e ∈ es, c e = true ∧ (x = e.on ∨ (acc.getD e.on 0).testBit x = true) := by
  induction es generalizing s with
  | nil => simp
  | cons e es ih =>
    rw [List.foldl_cons, ih]
    by_cases hc : c e = true
    · simp only [hc, if_true, Nat.testBit_or, Nat.testBit_two_pow, Bool.or_eq_true, decide_eq_true_eq, List.mem_cons, exists_eq_or_imp, true_and]
      constructor
      · rintro ((h | h) | h) 
        · rcases h with h | h
          · exact .inl h
          · exact .inr (.inl (.inl h.symm))
        · exact .inr (.inl (.inr h))
        · exact .inr (.inr h)
      · rintro (h | (h | h) | h)
        · exact .inl (.inl (.inl h))
        · exact .inl (.inl (.inr h.symm))
        · exact .inl (.inr h)
        · exact .inr h
    · simp only [hc, Bool.false_eq_true, if_false, List.mem_cons, exists_eq_or_imp, false_and, false_or]

def beforeL (l : List Oper) (acc : Array Nat) : Array Nat :=
  l.foldl (init := acc) fun acc o => acc.push (o.after.foldl (fun s e => if Region.binds .any e then s ||| 2 ^ e.on ||| acc.getD e.on 0 else s) 0)

theorem beforeL_spec : ∀ (l : List Oper) (acc : Array Nat), (beforeL l acc).size = acc.size + l.length ∧ (∀ i, i < acc.size → (beforeL l acc).getD i 0 = acc.getD i 0)
  | [], acc => ⟨rfl, fun _ _ => rfl⟩
  | o :: l, acc => by
    let a2 := acc.push (o.after.foldl (fun s e => if Region.binds .any e then s ||| 2 ^ e.on ||| acc.getD e.on 0 else s) 0)
    obtain ⟨h1, h2⟩ := beforeL_spec l a2
    have hs : a2.size = acc.size + 1 := Array.size_push ..
    refine ⟨?_, fun i hi => ?_⟩
    · show (beforeL l a2).size = _
      rw [h1, hs, List.length_cons]; omega
    · show (beforeL l a2).getD i 0 = _
      rw [h2 i (by omega)]
      simp only [a2, Array.getD_eq_getD_getElem?]
      rw [Array.getElem?_push_lt hi, Array.getElem?_eq_getElem hi]

theorem isBefore_step : ∀ (l : List Oper) (acc : Array Nat) (j : Nat) (o : Oper), l[j]? = some o → (∀ e ∈ o.after, Region.binds .any e = true → e.on < acc.size + j) → ∀ i,
    isBefore (beforeL l acc) i (acc.size + j) = true → ∃ e ∈ o.after, Region.binds .any e = true ∧ (i = e.on ∨ isBefore (beforeL l acc) i e.on = true)
  | [], _, _, _, h, _, _, _ => by simp at h
  | p :: l, acc, j, o, h, hl, i, hb => by
    let a2 := acc.push (p.after.foldl (fun s e => if Region.binds .any e then s ||| 2 ^ e.on ||| acc.getD e.on 0 else s) 0)
    have hs : a2.size = acc.size + 1 := Array.size_push ..
    have hbl : beforeL (p :: l) acc = beforeL l a2 := rfl
    rw [hbl] at hb ⊢
    cases j with
    | zero =>
      simp only [List.getElem?_cons_zero, Option.some.injEq] at h
      subst h
      unfold isBefore at hb
      rw [(beforeL_spec l a2).2 _ (by omega)] at hb
      have hv : a2.getD (acc.size + 0) 0 = p.after.foldl (fun s e => if Region.binds .any e then s ||| 2 ^ e.on ||| acc.getD e.on 0 else s) 0 := by
        simp only [a2, Array.getD_eq_getD_getElem?, Nat.add_zero, Array.getElem?_push_size, Option.getD_some]
      rw [hv, ← Array.foldl_toList, before_foldl] at hb
      rcases hb with hb | ⟨e, he, hc, hb⟩
      · simp at hb
      · have hlt := hl e (by simpa using he) hc
        refine ⟨e, by simpa using he, hc, hb.imp id fun hb => ?_⟩
        unfold isBefore
        rw [(beforeL_spec l a2).2 _ (by omega)]
        simp only [a2, Array.getD_eq_getD_getElem?] at hb ⊢
        rw [Array.getElem?_push_lt (by omega), ← Array.getElem?_eq_getElem (by omega)]
        exact hb
    | succ j =>
      have hj : acc.size + (j + 1) = a2.size + j := by omega
      rw [hj] at hb hl
      exact isBefore_step l a2 j o (by simpa using h) hl i hb

theorem before_eq (ops : Array Oper) : Region.before ops = beforeL ops.toList #[] := by
  unfold Region.before beforeL
  rw [← Array.foldl_toList]

/-- Who is before an operation is one that it waits for, or before one. -/
theorem isBefore_edge {ops : Array Oper} {i j : Nat} {o : Oper} (hj : ops[j]? = some o) (hl : ∀ e ∈ o.after, Region.binds .any e = true → e.on < j)
    (h : isBefore (Region.before ops) i j = true) : ∃ e ∈ o.after, Region.binds .any e = true ∧ (i = e.on ∨ isBefore (Region.before ops) i e.on = true) := by
  rw [before_eq] at h ⊢
  have := isBefore_step ops.toList #[] j o (by simpa using hj) (by simpa using hl) i (by simpa using h)
  simpa using this

end Go.Abs
