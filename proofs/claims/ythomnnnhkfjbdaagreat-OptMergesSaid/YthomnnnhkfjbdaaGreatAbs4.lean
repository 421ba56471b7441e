/- Own text of this claim: part 4 of an interpreter that is proved sound against the model, and of what it shows of the law. -/
import Derived.Laws.IdiomCopy
import Derived.Tactics
import Derived.Orders
import Derived.Test.YthomnnnhkfjbdaaGreatAbs3
namespace Go.Abs
open Go.RowKit

section
variable {P : Program}

theorem grow_facts {Γ : Ghost} {w : World} {ts tx e rt : TypeId} {ei : TypeInfo} {ez : Value} {size : Nat} (hu : P.underlying ts = some (.slice e)) (hei : P.info? e = some ei) (hez : ei.zero = some ez)
    (hes : ei.size = size) (hzs : ez.cells.size = size) {xs ys : List AV} {news olds : List Value} {xv : Value} (fed : Fed P Γ size tx xv ys news w) {base : Option Addr} {sCap : Nat}
    (hol : olds.length = xs.length * size) (hold : (Builtin.firstCells ei.size xs.length (.slice base xs.length sCap)).run P w.drew = .ok olds.toArray w.drew) (hre : RE Γ xs (fun k => olds[k]?) 0 size)
    (hg : sCap < xs.length + ys.length) (hroom : (xs.length + ys.length) * ei.bytes ≤ 140737488355328) (h63 : xs.length + ys.length ≤ 9223372036854775807) :
    ∃ c cap, (Builtin.append_ #[ts, tx] rt #[.slice base xs.length sCap, xv]).run P w = .ok (.slice (some ⟨w.heap.size, 0, none⟩) (xs.length + ys.length) cap) (w.drew.alloc (.cells c e)) ∧
      c.size = cap * size ∧ xs.length + ys.length ≤ cap ∧ RE Γ (xs ++ ys) (fun k => c[k]?) 0 size := by
  subst hes
  have hrun := run_append_grow_src (P := P) w ts tx rt e ei ez hu hei hez base xs.length sCap olds hold xv ys.length news fed.src hg (by omega) (growslice_fits hg hroom)
  have hcap := grownCap_ge w (xs.length + ys.length) sCap e
  refine ⟨_, _, hrun, ?_, hcap, ?_⟩
  · rw [Array.size_append, List.size_toArray, List.length_append, hol, fed.src.newsLen, size_zeroCells, hzs, ← Nat.add_mul, ← Nat.add_mul]
    congr 1; omega
  · have main : RE Γ (xs ++ ys) (fun k => (olds ++ news)[k]?) 0 ei.size := by
      refine RE.append (hre.ext fun k v _ hk hv => ?_) ?_
      · show (olds ++ news)[k]? = some v
        rw [List.getElem?_append_left]
        · exact hv
        · exact (List.getElem?_eq_some_iff.1 hv).1
      · refine fed.els.shift (d := xs.length * ei.size) fun k v hv => ?_
        show (olds ++ news)[k + xs.length * ei.size]? = some v
        rw [List.getElem?_append_right (by omega), hol, Nat.add_sub_cancel]
        exact hv
    refine main.ext fun k v _ _ hv => ?_
    show ((olds ++ news).toArray ++ _)[k]? = some v
    rw [Array.getElem?_append_left]
    · rw [List.getElem?_toArray]; exact hv
    · rw [List.size_toArray]; exact (List.getElem?_eq_some_iff.1 hv).1

theorem drew_alloc_touch (w : World) (o : Obj) : Touch w (w.drew.alloc o) w.heap.size := (Touch.drawn w _ _).trans (Touch.alloc w.drew o)

theorem newTok_does {B : Nat} {w0 w : World} {Γ : Ghost} {st : St} (hI : Inv B w0 Γ st w) {c : Array Value} {e : TypeId} {cap size : Nat} {xs : List AV} {n : Nat} (hn : n = xs.length) (hsz : 0 < size)
    (hc : c.size = cap * size) (hle : n ≤ cap) (hre : RE Γ xs (fun k => c[k]?) 0 size) :
    ∃ Γ', Out B w0 Γ st Γ' (st.newTok.ttag st.next e) (w.drew.alloc (.cells c e)) ∧ R Γ' (.vs size (.tok st.next) xs) (.slice (some ⟨w.heap.size, 0, none⟩) n cap) := by
  subst hn
  have hat : (w.drew.alloc (.cells c e)).heap[w.heap.size]? = some (.cells c e (0, 0)) := alloc_at w.drew (.cells c e)
  have out := hI.tokNew (drew_alloc_touch w _) hat (n := xs.length * size) (tot := cap * size) (by rw [hc]; exact Nat.le_refl _)
  have out2 := out.inv.ttag (i := st.next) (blk := w.heap.size) (T := e) (by simp [Ghost.addTk]; exact ⟨rfl, rfl⟩) ⟨_, _, hat⟩
  refine ⟨_, out.trans out2, R.mono out2.le _ _ ?_⟩
  simp only [R]
  refine ⟨w.heap.size, 0, cap, rfl, hle, hsz, .inr ⟨xs.length * size, cap * size, by simp [Ghost.addTk], by simp, by omega⟩, ?_⟩
  refine (RE.mono out.le xs _ _ 0 size (fun _ _ k => k) hre).ext fun k v _ hk hv => ?_
  simp only [Ghost.addTk, Ghost.addInert, if_pos]
  rw [if_pos (by omega)]; exact hv

theorem tokOnA_out {B : Nat} {w0 w' : World} {Γ Γ' : Ghost} {st : St} {t : Nat} {e : TypeId} (out : Out B w0 Γ st Γ' (st.dropTok t).newTok w')
    (h : st.tty t = some e → ∃ blk e' tot, Γ'.tk st.next = some (blk, e', tot) ∧ TyAt w' blk e) : ∃ Γ2, Γ'.Le Γ2 ∧ Out B w0 Γ st Γ2 (tokOnA st t e) w' := by
  unfold tokOnA
  split
  · rename_i e2 he
    split
    · rename_i heq
      subst heq
      obtain ⟨blk, e', tot, h1, h2⟩ := h he
      have out2 := out.inv.ttag h1 h2
      exact ⟨_, out2.le, out.trans out2⟩
    · exact ⟨_, Ghost.Le.refl _, out⟩
  · exact ⟨_, Ghost.Le.refl _, out⟩

theorem newRow_does {B : Nat} {w0 w : World} {Γ : Ghost} {st : St} (hI : Inv B w0 Γ st w) {c : Array Value} {e : TypeId} {cap size : Nat} {xs : List AV} {n : Nat} (hn : n = xs.length) (hsz : 0 < size)
    (hc : c.size = cap * size) (hle : n ≤ cap) (hre : RE Γ xs (fun k => c[k]?) 0 size) :
    ∃ Γ', Out B w0 Γ st Γ' (st.new (.row size xs)) (w.drew.alloc (.cells c e)) ∧ R Γ' (.sl size st.next 0 n) (.slice (some ⟨w.heap.size, 0, none⟩) n cap) := by
  subst hn
  have hat : (w.drew.alloc (.cells c e)).heap[w.heap.size]? = some (.cells c e (0, 0)) := alloc_at w.drew (.cells c e)
  have out := hI.rowNew (drew_alloc_touch w _) hat hsz hle (by rw [hc]; exact Nat.le_refl _) hre
  refine ⟨_, out, ?_⟩
  simp only [R]
  exact ⟨w.heap.size, 0, cap, 0, cap, by simp [Ghost.addObj], rfl, hle, .inr ⟨by simp, by omega⟩⟩

theorem append_none {ts tx e rt : TypeId} {ei : TypeInfo} {size : Nat} (hu : P.underlying ts = some (.slice e)) (hei : P.info? e = some ei) (hes : ei.size = size) {Γ : Ghost} {w : World} {xv : Value} {news : List Value}
    (fed : Fed P Γ size tx xv [] news w) (base : Option Addr) {n cap : Nat} (h : n ≤ cap) : (Builtin.append_ #[ts, tx] rt #[.slice base n cap, xv]).run P w = .ok (.slice base n cap) w := by
  subst hes
  have hn : news = [] := List.eq_nil_of_length_eq_zero (by have := fed.src.newsLen; simpa using this)
  subst hn
  exact run_append_nothing w ts tx rt e ei hu hei base n cap h xv fed.src

set_option maxHeartbeats 1000000 in
theorem append_sound {E : Env} (hE : ∀ t y, E.ty t = some y → TyOk P t y) {B : Nat} {w0 w : World} {Γ : Ghost} {st st' : St} (hI : Inv B w0 Γ st w) {obj : Bool} {ts tx e rt : TypeId} {tys et : Ty} {s r : AV} {sv xv : Value} {ys : List AV} {news : List Value}
    (hts : E.ty ts = some tys) (hd : tys.d = .slice e) (he : E.ty e = some et) (hsz : 0 < et.size) (fed : Fed P Γ et.size tx xv ys news w) (h : appendA obj e et st s ys = some (r, st')) (hs : R Γ s sv) :
    Does P B w0 (Builtin.append_ #[ts, tx] rt #[sv, xv]) w Γ st r st' := by
  obtain ⟨U, i', z', hu, _, _, g1, _⟩ := (hE ts tys hts).ex
  have gi := tdOf_inv g1
  rw [hd] at gi; simp only [TDIs] at gi; subst gi
  obtain ⟨ei, ez, hei, hez, hes, heb, hzs, hzo, hzr⟩ := (hE e et he).zero
  have refl0 : Out B w0 Γ st Γ st w := ⟨Ghost.Le.refl Γ, hI, Keep.refl Γ st⟩
  unfold appendA at h
  split at h
  · -- nil
    simp only [R] at hs; subst hs
    split at h
    · cases h
      exact ⟨_, w, Γ, append_none hu hei hes fed none (Nat.le_refl 0), refl0, by simp only [R]⟩
    · rename_i y ys
      split at h
      · rename_i hroom
        simp only [roomA, Bool.and_eq_true, decide_eq_true_eq] at hroom
        obtain ⟨c, cap, hrun, hc, hle, hre⟩ := grow_facts (xs := []) (olds := []) (base := none) (sCap := 0) (rt := rt) hu hei hez hes hzs fed (by simp) (by simpa using run_firstCells_none w.drew ei.size 0 0 0) (by simp only [RE]) (by simp) (by simp only [List.length_nil, Nat.zero_add, heb]; exact hroom.1) (by simp only [List.length_nil, Nat.zero_add]; exact hroom.2)
        simp only [List.length_nil, Nat.zero_add, List.nil_append] at hrun hle hre
        split at h
        · cases h
          obtain ⟨Γ', o1, o2⟩ := newRow_does hI (e := e) rfl hsz hc hle hre
          exact ⟨_, _, Γ', hrun, o1, o2⟩
        · cases h
          obtain ⟨Γ', o1, o2⟩ := newTok_does hI (e := e) rfl hsz hc hle hre
          exact ⟨_, _, Γ', hrun, o1, o2⟩
      · cases h
  · -- empty
    split at h
    · rename_i hy
      have hy' : ys = [] := by simpa using hy
      subst hy'
      cases h
      have hs' := hs
      simp only [R] at hs
      obtain ⟨a, cap, rfl⟩ := hs
      exact ⟨_, w, Γ, append_none (rt := rt) hu hei hes fed (some a) (Nat.zero_le cap), refl0, hs'⟩
    · cases h
  · -- full
    rename_i sz xs
    split at h
    · rename_i hcond
      obtain ⟨rfl, hroom⟩ := hcond
      simp only [roomA, Bool.and_eq_true, decide_eq_true_eq] at hroom
      simp only [R] at hs
      obtain ⟨blk, o, cap, rfl, k1, k2, k3, k4⟩ := hs
      have hcap : cap = xs.length := k3
      subst hcap
      obtain ⟨olds, q1, q2, q3, q4⟩ := RE.news xs o k4
      have hold : (Builtin.firstCells ei.size xs.length (.slice (some ⟨blk, o, none⟩) xs.length xs.length)).run P w.drew = .ok olds.toArray w.drew :=
        run_firstCells_some w.drew ei.size xs.length _ _ _ olds (by rw [hes]; exact q1) (fun j u hj => by rw [add_mk]; exact (hI.drawn _).inert _ _ _ (q2 j u hj))
      by_cases hy : ys = []
      · subst hy
        have hrun := append_none (rt := rt) hu hei hes fed (some ⟨blk, o, none⟩) (Nat.le_refl xs.length)
        split at h
        · split at h
          · cases h
            have out := hI.rowEmpty (sz := et.size) (blk := blk) (bs := o) hsz
            refine ⟨_, w, _, hrun, out, ?_⟩
            simp only [R]
            exact ⟨blk, o, 0, o, 0, by simp [Ghost.addObj], rfl, Nat.le_refl _, .inl rfl⟩
          · cases h
          · rename_i hh; cases hh
        · cases h
          refine ⟨_, w, Γ, hrun, refl0, ?_⟩
          simp only [R]
          exact ⟨blk, o, xs.length, rfl, Nat.le_refl _, k2, rfl, k4⟩
      · have hpos : 0 < ys.length := List.length_pos_iff.2 hy
        obtain ⟨c, cap, hrun, hc, hle, hre⟩ := grow_facts (xs := xs) (olds := olds) (rt := rt) hu hei hez hes hzs fed q1 hold q3 (by omega) (by rw [heb]; exact hroom.1) hroom.2
        split at h
        · split at h
          · cases h
            simp only [List.nil_append, List.length_nil, Nat.zero_add] at hre hle hrun
            obtain ⟨Γ', o1, o2⟩ := newRow_does hI (e := e) rfl hsz hc hle hre
            exact ⟨_, _, Γ', hrun, o1, o2⟩
          · exact absurd rfl hy
          · cases h
            obtain ⟨Γ', o1, o2⟩ := newRow_does hI (e := e) (by rw [List.length_append]) hsz hc hle hre
            exact ⟨_, _, Γ', hrun, o1, o2⟩
        · split at h
          · exact absurd rfl hy
          · cases h
            obtain ⟨Γ', o1, o2⟩ := newTok_does hI (e := e) (by rw [List.length_append]) hsz hc hle hre
            exact ⟨_, _, Γ', hrun, o1, o2⟩
    · cases h
  · -- any
    rename_i sz xs
    split at h
    · rename_i hy
      have hy' : ys = [] := by simpa using hy
      subst hy'
      cases h
      have hs' := hs
      simp only [R] at hs
      obtain ⟨blk, o, cap, rfl, k1, k2, k3, k4⟩ := hs
      exact ⟨_, w, Γ, append_none (rt := rt) hu hei hes fed (some ⟨blk, o, none⟩) k1, refl0, hs'⟩
    · cases h
  · -- under a token
    rename_i sz t xs
    split at h
    · rename_i hcond
      obtain ⟨rfl, hal, hroom⟩ := hcond
      cases h
      simp only [roomA, Bool.and_eq_true, decide_eq_true_eq] at hroom
      simp only [R] at hs
      obtain ⟨blk, o, cap, rfl, k1, k2, k3, k4⟩ := hs
      by_cases hy : ys = []
      · subst hy
        have hrun := append_none (rt := rt) hu hei hes fed (some ⟨blk, o, none⟩) k1
        have out := hI.tokSame hal
        obtain ⟨Γ2, le2, out2⟩ := tokOnA_out (e := e) out fun hty => by
          obtain ⟨blk', e', tot, h1, h2⟩ := hI.ttys t e hty
          exact ⟨blk', e', tot, by simp [Ghost.addTk, h1], hI.ety _ _ h2⟩
        refine ⟨_, w, _, hrun, out2, R.mono le2 _ _ ?_⟩
        simp only [R, List.append_nil]
        refine ⟨blk, o, cap, rfl, k1, k2, ?_, RE.mono out.le xs _ _ _ _ (fun _ _ k => k) k4⟩
        rcases k3 with k3 | ⟨e', tot, a1, a2⟩
        · exact .inl k3
        · exact .inr ⟨e', tot, by simp [Ghost.addTk, a1], a2⟩
      · have hpos : 0 < ys.length := List.length_pos_iff.2 hy
        by_cases hfit : xs.length + ys.length ≤ cap
        · -- in place
          rcases k3 with k3 | ⟨e', tot, a1, a2, a3⟩
          · omega
          · obtain ⟨⟨c, T, hh, htot⟩, hno⟩ := hI.toks t blk e' tot hal a1
            have hnl := fed.src.newsLen
            have hmul : (xs.length + ys.length) * et.size ≤ cap * et.size := Nat.mul_le_mul_right _ hfit
            rw [Nat.add_mul] at hmul
            have hend : o + xs.length * et.size + news.length ≤ c.size := by omega
            have hcell : ∀ j, j < news.length → (w.cell? ⟨blk, o + xs.length * ei.size + j, none⟩).isSome = true := by
              intro j hj
              rw [cell_of_heap hh, hes]
              have : o + xs.length * et.size + j < c.size := by omega
              rw [Array.getElem?_eq_getElem this]; rfl
            have hfz : ∀ j, j < news.length → w.frozen? ⟨blk, o + xs.length * ei.size + j, none⟩ = false := by
              intro j _; simp [World.frozen?, hh]
            have hrun := run_append_room_src (P := P) w ts tx rt e ei hu hei blk o xs.length cap xv ys.length news (by rw [hes]; exact fed.src) hfit hcell hfz
            rw [hes] at hrun
            obtain ⟨tw, c', hc', hcs', hget⟩ := setCells_put news hh hend
            have hold : ∀ o' v, Γ.inert blk o' = some v → c'[o']? = some v := by
              intro o' v hv
              have hlt : o' < e' := by
                rcases Nat.lt_or_ge o' e' with k | k
                · exact k
                · rw [hno o' k] at hv; cases hv
              rw [hget, if_pos (by omega), ← cell_of_heap hh]
              exact hI.inert _ _ _ hv
            have out := hI.tokOn hal a1 tw hc' (by rw [hcs']; exact htot) (e' := e' + ys.length * et.size) (by omega) hold (TyAt.same hh hc')
            obtain ⟨Γ2, le2, out2⟩ := tokOnA_out (e := e) out fun hty => by
              obtain ⟨blk2, e2, tot2, h1, h2⟩ := hI.ttys t e hty
              rw [a1] at h1
              simp only [Option.some.injEq, Prod.mk.injEq] at h1
              obtain ⟨h1, _, _⟩ := h1
              rw [← h1] at h2
              exact ⟨blk, e' + ys.length * et.size, tot, by simp [Ghost.addTk], TyAt.same hh hc' e (hI.ety _ _ h2)⟩
            refine ⟨_, _, _, hrun, out2, R.mono le2 _ _ ?_⟩
            simp only [R]
            refine ⟨blk, o, cap, by rw [List.length_append], by rw [List.length_append]; exact hfit, k2, .inr ⟨e' + ys.length * et.size, tot, by simp [Ghost.addTk], ?_, a3⟩, ?_⟩
            · rw [List.length_append, Nat.add_mul, ← a2, Nat.add_assoc]
            · refine RE.append ?_ ?_
              · refine RE.mono out.le xs _ _ o et.size (fun k v hv => ?_) k4
                exact out.le.inert blk k v hv
              · have := RE.mono out.le ys _ (fun k => news[k]?) 0 et.size (fun _ _ k => k) fed.els
                have h2 := this.shift (g := ((Γ.addInert blk fun o' => if e' ≤ o' ∧ o' < e' + ys.length * et.size then c'[o']? else Γ.inert blk o').addTk st.next (some (blk, e' + ys.length * et.size, tot))).inert blk) (d := o + xs.length * et.size) (fun k v hv => by
                  have hk : k < news.length := (List.getElem?_eq_some_iff.1 hv).1
                  simp only [Ghost.addTk, Ghost.addInert, if_pos]
                  rw [if_pos (by omega), hget, if_neg (by omega), if_pos (by omega)]
                  have : k + (o + xs.length * et.size) - (o + xs.length * et.size) = k := by omega
                  rw [this]; exact hv)
                rw [Nat.zero_add] at h2
                exact h2
        · -- a new array
          obtain ⟨olds, q1, q2, q3, q4⟩ := RE.news xs o k4
          have hold : (Builtin.firstCells ei.size xs.length (.slice (some ⟨blk, o, none⟩) xs.length cap)).run P w.drew = .ok olds.toArray w.drew :=
            run_firstCells_some w.drew ei.size xs.length _ _ _ olds (by rw [hes]; exact q1) (fun j u hj => by rw [add_mk]; exact (hI.drawn _).inert _ _ _ (q2 j u hj))
          obtain ⟨c, cap', hrun, hc, hle, hre⟩ := grow_facts (xs := xs) (olds := olds) (rt := rt) hu hei hez hes hzs fed q1 hold q3 (by omega) (by rw [heb]; exact hroom.1) hroom.2
          have out1 := hI.dropTok t
          have hat : (w.drew.alloc (.cells c e)).heap[w.heap.size]? = some (.cells c e (0, 0)) := alloc_at w.drew (.cells c e)
          have out3 := out1.inv.tokNew (drew_alloc_touch w _) hat (n := (xs ++ ys).length * et.size) (tot := cap' * et.size) (by rw [hc]; exact Nat.le_refl _)
          obtain ⟨Γ2, le2, out2⟩ := tokOnA_out (e := e) (out1.trans out3) fun _ => ⟨w.heap.size, _, _, by simp [Ghost.addTk]; exact ⟨rfl, rfl⟩, ⟨_, _, hat⟩⟩
          refine ⟨_, _, Γ2, hrun, out2, R.mono le2 _ _ ?_⟩
          simp only [R]
          refine ⟨w.heap.size, 0, cap', by rw [List.length_append], by rw [List.length_append]; exact hle, hsz, .inr ⟨(xs ++ ys).length * et.size, cap' * et.size, by simp [Ghost.addTk], by simp, by omega⟩, ?_⟩
          refine (RE.mono out3.le (xs ++ ys) _ _ 0 et.size (fun _ _ k => k) hre).ext fun k v _ hk hv => ?_
          simp only [Ghost.addTk, Ghost.addInert, if_pos]
          rw [if_pos (by omega)]; exact hv
    · cases h
  · -- a slice of a row
    rename_i sz b off len
    split at h
    · rename_i sz' xs hg
      split at h
      · rename_i hcond
        obtain ⟨rfl, rfl, hlen, hroom⟩ := hcond
        cases h
        simp only [roomA, Bool.and_eq_true, decide_eq_true_eq] at hroom
        simp only [R] at hs
        obtain ⟨blk, base, tot, o, cap, ho, rfl, k1, k2⟩ := hs
        obtain ⟨_, _, hlt, hmem⟩ := hI.rows b _ xs blk base _ tot hg ho
        have hxl : ((xs.drop off).take len).length = len := by rw [List.length_take, List.length_drop]; omega
        -- in the same memory
        have inPlace : ∀ {w' : World} {c' : Array Value} {T : TypeId}, Touch w w' blk → w'.heap[blk]? = some (.cells c' T (0, 0)) → 0 < tot → o = base + off * et.size → off + cap ≤ tot → base + tot * et.size ≤ c'.size →
            len + ys.length ≤ cap → RE Γ ((xs.drop off).take len ++ ys) (fun k => c'[k]?) (base + off * et.size) et.size → (∀ T', TyAt w blk T' → TyAt w' blk T') →
            ∃ Γ', Out B w0 Γ st Γ' ((st.drop b).new (.row et.size ((xs.drop off).take len ++ ys))) w' ∧ R Γ' (.sl et.size st.next 0 (len + ys.length)) (.slice (some ⟨blk, o, none⟩) (len + ys.length) cap) := by
          intro w' c' T tw hc' h0 hoo hcap hcs hle hre hty
          have hmul : (off + cap) * et.size ≤ tot * et.size := Nat.mul_le_mul_right _ hcap
          rw [Nat.add_mul] at hmul
          have hsub : (tot - off) * et.size = tot * et.size - off * et.size := Nat.sub_mul _ _ _
          have out := hI.rowOn hg ho h0 tw hc' (bs' := base + off * et.size) (tot' := tot - off) (by omega) (by rw [List.length_append, hxl]; omega) hre hty
          refine ⟨_, out, ?_⟩
          simp only [R]
          exact ⟨blk, base + off * et.size, tot - off, o, cap, by simp [Ghost.addObj], rfl, hle, .inr ⟨by rw [hoo]; simp, by omega⟩⟩
        by_cases hy : ys = []
        · subst hy
          have hrun := append_none (rt := rt) hu hei hes fed (some ⟨blk, o, none⟩) k1
          simp only [List.append_nil, List.length_nil, Nat.add_zero] at inPlace ⊢
          by_cases hc0 : cap = 0
          · have hl0 : len = 0 := by omega
            subst hl0
            have out1 := hI.dropObj ho
            have out2 := out1.inv.rowEmpty (sz := et.size) (blk := blk) (bs := o) hsz
            refine ⟨_, w, Γ.addObj (st.drop b).next (blk, o, et.size, 0), hrun, ?_, ?_⟩
            · have : List.take 0 (List.drop off xs) = [] := rfl
              rw [this]
              exact out1.trans out2
            · simp only [R]
              exact ⟨blk, o, 0, o, cap, by simp [Ghost.addObj], rfl, k1, .inl hc0⟩
          · rcases k2 with k2 | ⟨k2, k3⟩
            · exact absurd k2 hc0
            · have h0 : 0 < tot := by omega
              obtain ⟨⟨c, T, hh, hcs, hre⟩, _⟩ := hmem h0
              obtain ⟨Γ', o1, o2⟩ := inPlace (Touch.refl w blk) hh h0 k2 k3 hcs k1 ((hre.drop off).take len) (fun _ k => k)
              exact ⟨_, w, Γ', hrun, o1, o2⟩
        · have hpos : 0 < ys.length := List.length_pos_iff.2 hy
          by_cases hfit : len + ys.length ≤ cap
          · rcases k2 with k2 | ⟨k2, k3⟩
            · omega
            · have h0 : 0 < tot := by omega
              obtain ⟨⟨c, T, hh, hcs, hre⟩, _⟩ := hmem h0
              have hnl := fed.src.newsLen
              have hmul : (len + ys.length) * et.size ≤ cap * et.size := Nat.mul_le_mul_right _ hfit
              rw [Nat.add_mul] at hmul
              have hmul2 : (off + cap) * et.size ≤ tot * et.size := Nat.mul_le_mul_right _ k3
              rw [Nat.add_mul] at hmul2
              have hend : o + len * et.size + news.length ≤ c.size := by omega
              have hcell : ∀ j, j < news.length → (w.cell? ⟨blk, o + len * ei.size + j, none⟩).isSome = true := by
                intro j hj
                rw [cell_of_heap hh, hes]
                have : o + len * et.size + j < c.size := by omega
                rw [Array.getElem?_eq_getElem this]; rfl
              have hfz : ∀ j, j < news.length → w.frozen? ⟨blk, o + len * ei.size + j, none⟩ = false := by
                intro j _; simp [World.frozen?, hh]
              have hrun := run_append_room_src (P := P) w ts tx rt e ei hu hei blk o len cap xv ys.length news (by rw [hes]; exact fed.src) hfit hcell hfz
              rw [hes] at hrun
              obtain ⟨tw, c', hc', hcs', hget⟩ := setCells_put news hh hend
              obtain ⟨Γ', o1, o2⟩ := inPlace tw hc' h0 k2 k3 (by rw [hcs']; exact hcs) hfit (by
                refine RE.append ?_ ?_
                · refine ((hre.drop off).take len).ext fun k v h1 h2 hv => ?_
                  show c'[k]? = some v
                  rw [hxl] at h2
                  rw [hget, if_pos (by omega)]; exact hv
                · rw [hxl]
                  have h2 := fed.els.shift (g := fun k => c'[k]?) (d := base + off * et.size + len * et.size) (fun k v hv => by
                    have hk : k < news.length := (List.getElem?_eq_some_iff.1 hv).1
                    show c'[k + (base + off * et.size + len * et.size)]? = some v
                    rw [hget, if_neg (by omega), if_pos (by omega)]
                    have : k + (base + off * et.size + len * et.size) - (o + len * et.size) = k := by omega
                    rw [this]; exact hv)
                  rw [Nat.zero_add] at h2
                  exact h2) (TyAt.same hh hc')
              exact ⟨_, _, Γ', hrun, o1, o2⟩
          · -- a new array
            have hgrow : ∃ olds : List Value, olds.length = len * et.size ∧ (Builtin.firstCells ei.size len (.slice (some ⟨blk, o, none⟩) len cap)).run P w.drew = .ok olds.toArray w.drew ∧ RE Γ ((xs.drop off).take len) (fun k => olds[k]?) 0 et.size := by
              by_cases hl0 : len = 0
              · subst hl0
                refine ⟨[], by simp, ?_, by simp only [List.take_zero, RE]⟩
                exact run_firstCells_some w.drew ei.size 0 _ _ _ [] (by simp) (fun j u hj => by simp at hj)
              · rcases k2 with k2 | ⟨k2, k3⟩
                · omega
                · obtain ⟨⟨c, T, hh, hcs, hre⟩, _⟩ := hmem (by omega)
                  obtain ⟨olds, q1, q2, q3, q4⟩ := RE.news _ _ ((hre.drop off).take len)
                  rw [hxl] at q1
                  refine ⟨olds, q1, ?_, q3⟩
                  refine run_firstCells_some w.drew ei.size len _ _ _ olds (by rw [hes]; exact q1) (fun j u hj => ?_)
                  rw [add_mk, k2, cell_of_heap (w := w.drew) hh]
                  exact q2 j u hj
            obtain ⟨olds, q1, q2, q3⟩ := hgrow
            obtain ⟨c, cap', hrun, hc, hle, hre⟩ := grow_facts (xs := (xs.drop off).take len) (olds := olds) (base := some ⟨blk, o, none⟩) (sCap := cap) (rt := rt) hu hei hez hes hzs fed (by rw [hxl]; exact q1) (by rw [hxl]; exact q2) q3 (by rw [hxl]; omega) (by rw [hxl, heb]; exact hroom.1) (by rw [hxl]; exact hroom.2)
            rw [hxl] at hrun hle
            have out1 := hI.dropObj ho
            obtain ⟨Γ', o1, o2⟩ := newRow_does out1.inv (e := e) (by rw [List.length_append, hxl]) hsz hc hle hre
            exact ⟨_, _, Γ', hrun, out1.trans o1, o2⟩
      · cases h
    · cases h
  · cases h
end
end Go.Abs

namespace Go.Abs
open Go.RowKit

section
variable {P : Program}

theorem cells_read {B : Nat} {w0 w : World} {Γ : Ghost} {st : St} (hI : Inv B w0 Γ st w) {x : AV} {v : Value} {ys : List AV} {sz : Nat} (h : elemsA st x = some (sz, ys)) (hstr : isStrA x = false) (hne : ys ≠ []) (hx : R Γ x v) :
    ∃ (a : Addr) (cap : Nat) (news : List Value), v = .slice (some a) ys.length cap ∧ news.length = ys.length * sz ∧ (∀ (j : Nat) (u : Value), news[j]? = some u → w.cell? (a.add j) = some u) ∧ RE Γ ys (fun k => news[k]?) 0 sz ∧ ∀ u ∈ news, u.oneCell' = true := by
  unfold elemsA at h
  split at h
  · cases hstr
  · cases h; exact absurd rfl hne
  · cases h; exact absurd rfl hne
  · rename_i sz own xs
    cases h
    simp only [R] at hx
    obtain ⟨blk, o, cap, rfl, h1, h2, h3, h4⟩ := hx
    obtain ⟨news, k1, k2, k3, k4⟩ := RE.news ys o h4
    exact ⟨⟨blk, o, none⟩, cap, news, rfl, k1, fun j u hj => by rw [add_mk]; exact hI.inert _ _ _ (k2 j u hj), k3, k4⟩
  · rename_i sz b off len
    split at h
    · rename_i sz1 xs hg
      split at h
      · rename_i hle
        cases h
        simp only [R] at hx
        obtain ⟨blk, base, tot, o, cap, ho, rfl, h2, h3⟩ := hx
        obtain ⟨e1, hsz1, hlt, hmem⟩ := hI.rows b sz1 xs blk base _ tot hg ho
        subst e1
        have hyl : ((xs.drop off).take len).length = len := by rw [List.length_take, List.length_drop]; omega
        have hlen0 : 0 < len := by
          rcases Nat.eq_zero_or_pos len with h0 | h0
          · subst h0; exact absurd (by simp) hne
          · exact h0
        rcases h3 with h3 | ⟨h3, h4⟩
        · omega
        · subst h3
          obtain ⟨⟨c, T, hh, hcs, hre⟩, _⟩ := hmem (by omega)
          obtain ⟨news, k1, k2, k3, k4⟩ := RE.news _ _ ((hre.drop off).take len)
          refine ⟨_, cap, news, by rw [hyl], k1, fun j u hj => by rw [add_mk, cell_of_heap hh]; exact k2 j u hj, k3, k4⟩
      · cases h
    · cases h
  · cases h

theorem copy_sound {E : Env} (hE : ∀ t y, E.ty t = some y → TyOk P t y) {B : Nat} {w0 w : World} {Γ : Ghost} {st st' : St} (hI : Inv B w0 Γ st w) {td tx rt : TypeId} {d x r : AV} {dv xv : Value}
    (h : copyA E st td tx d x = some (r, st')) (hd : R Γ d dv) (hx : R Γ x xv) : Does P B w0 (Builtin.copy_ #[td, tx] rt #[dv, xv]) w Γ st r st' := by
  have refl0 : Out B w0 Γ st Γ st w := ⟨Ghost.Le.refl Γ, hI, Keep.refl Γ st⟩
  unfold copyA at h
  split at h
  · rename_i tyd tyx htd htx
    split at h
    · rename_i e e2 sz b off len hde hdx
      split at h
      · cases h
      · rename_i et he
        obtain ⟨U, i', z', hu, _, _, g1, _⟩ := (hE td tyd htd).ex
        have gi := tdOf_inv g1
        rw [hde] at gi; simp only [TDIs] at gi; subst gi
        obtain ⟨ei, ez, hei, hez, hes, heb, hzs, hzo, hzr⟩ := (hE e et he).zero
        split at h
        · rename_i sz' xs sz2 ys hg hel
          split at h
          · rename_i hc
            obtain ⟨c1, c2, c3, c4, c5, c6, c7⟩ := hc
            subst c2; subst c3
            have hsz : (P.info? e).map (·.size) = some 1 := by rw [hei, Option.map_some, hes, c1]
            simp only [R] at hd
            obtain ⟨blk, base, tot, o, cap, ho, rfl, h2, h3⟩ := hd
            by_cases hy : ys = []
            · subst hy
              simp only [List.length_nil, Nat.zero_min, if_true, Option.some.injEq, Prod.mk.injEq] at h
              obtain ⟨rfl, rfl⟩ := h
              -- nothing
              have hxv : ∃ a c, xv = .slice a 0 c := by
                unfold elemsA at hel
                split at hel
                · cases c7
                · simp only [R] at hx; exact ⟨_, _, hx⟩
                · simp only [R] at hx; obtain ⟨a, c, rfl⟩ := hx; exact ⟨_, _, rfl⟩
                · cases hel
                  simp only [R] at hx
                  obtain ⟨b1, o1, cp, rfl, _⟩ := hx
                  exact ⟨_, _, rfl⟩
                · rename_i s1 b1 of1 l1
                  split at hel
                  · rename_i z1 x1 g1
                    split at hel
                    · rename_i hle
                      simp only [Option.some.injEq, Prod.mk.injEq] at hel
                      have hl0 : l1 = 0 := by
                        have := congrArg List.length hel.2
                        rw [List.length_take, List.length_drop] at this
                        simp at this; omega
                      subst hl0
                      simp only [R] at hx
                      obtain ⟨k1, k2, k3, k4, k5, k6, rfl, _⟩ := hx
                      exact ⟨_, _, rfl⟩
                    · cases hel
                  · cases hel
                · cases hel
              obtain ⟨a, cp, rfl⟩ := hxv
              refine ⟨_, w, Γ, run_copy_none w td tx rt e _ a len cap 0 cp hu hsz (by simp), refl0, ?_⟩
              simp only [R]; rfl
            · obtain ⟨a, cp, news, rfl, k1, k2, k3, k4⟩ := cells_read hI hel c7 hy hx
              have hs2 : sz2 = 1 := by
                cases ys with
                | nil => exact absurd rfl hy
                | cons y ys => simpa using c6
              subst hs2
              rw [Nat.mul_one] at k1
              split at h
              · rename_i hm
                simp only [Option.some.injEq, Prod.mk.injEq] at h
                obtain ⟨rfl, rfl⟩ := h
                refine ⟨_, w, Γ, run_copy_none w td tx rt e _ _ len cap _ cp hu hsz hm, refl0, ?_⟩
                simp only [R]; rfl
              · rename_i hm
                simp only [Option.some.injEq, Prod.mk.injEq] at h
                obtain ⟨rfl, rfl⟩ := h
                generalize hn : min ys.length len = n at *
                have hnl : n ≤ len := by omega
                have hny : n ≤ ys.length := by omega
                have hcl : (news.take n).length = n := by rw [List.length_take]; omega
                rcases h3 with h3 | ⟨h3, h4⟩
                · omega
                · obtain ⟨e1, hsz1, hlt, hmem⟩ := hI.rows b 1 xs blk base _ tot hg ho
                  obtain ⟨⟨c, T, hh, hcs, hre⟩, hno⟩ := hmem (by omega)
                  rw [Nat.mul_one] at h3
                  subst h3
                  have hfit : base + off + (news.take n).length ≤ c.size := by rw [hcl]; omega
                  have hrun := run_copy_cells (P := P) w td tx rt e blk (base + off) len cap a ys.length cp (news.take n) hu hsz (by rw [hcl]; exact hn.symm)
                    (fun j u hj => k2 j u (by
                      rw [List.getElem?_take] at hj
                      split at hj
                      · exact hj
                      · cases hj))
                    (fun j hj => by rw [cell_of_heap hh, Array.getElem?_eq_getElem (by omega)]; rfl)
                    (fun j _ => by simp [World.frozen?, hh])
                    (fun u hu => k4 u (List.mem_of_mem_take hu))
                  obtain ⟨tw, c', hc', hcs', hget⟩ := setCells_put (news.take n) hh hfit
                  rw [hcl] at hrun hget
                  refine ⟨_, _, Γ, hrun, hI.rowPut hg ho (by omega) tw hc' (by rw [hcs']; exact hcs) ?_ (RE.mk fun i y hi => ?_) (TyAt.same hh hc'), by simp only [R]; rfl⟩
                  · simp only [List.length_append, List.length_take, List.length_drop]; omega
                  · have htl : (xs.take off).length = off := by rw [List.length_take]; omega
                    have hyl : (ys.take n).length = n := by rw [List.length_take]; omega
                    have one : ∀ {ev : Value}, ev.cells.size = 1 → ∀ {k : Nat} {u : Value}, ev.cells.toList[k]? = some u → k = 0 := by
                      intro ev h1 k u hk
                      have := (List.getElem?_eq_some_iff.1 hk).1
                      rw [Array.length_toList] at this; omega
                    rw [List.getElem?_append, List.length_append, htl, hyl] at hi
                    split at hi
                    · rename_i hi1
                      rw [List.getElem?_append, htl] at hi
                      split at hi
                      · rename_i hi2
                        rw [List.getElem?_take_of_lt hi2] at hi
                        obtain ⟨ev, p1, p2, p3, p4⟩ := hre.get i y hi
                        refine ⟨ev, p1, p2, p3, fun k u hk => ?_⟩
                        have hk0 := one p3 hk
                        subst hk0
                        show c'[base + i * 1 + 0]? = some u
                        rw [hget, if_pos (by omega)]
                        exact p4 0 u hk
                      · rename_i hi2
                        rw [List.getElem?_take_of_lt (by omega)] at hi
                        obtain ⟨ev, p1, p2, p3, p4⟩ := k3.get _ y hi
                        refine ⟨ev, p1, p2, p3, fun k u hk => ?_⟩
                        have hk0 := one p3 hk
                        subst hk0
                        show c'[base + i * 1 + 0]? = some u
                        rw [hget, if_neg (by omega), if_pos (by omega), List.getElem?_take_of_lt (by omega)]
                        have := p4 0 u hk
                        have e1 : base + i * 1 + 0 - (base + off) = 0 + (i - off) * 1 + 0 := by omega
                        rw [e1]; exact this
                    · rename_i hi1
                      rw [List.getElem?_drop] at hi
                      have e0 : off + n + (i - (off + n)) = i := by omega
                      rw [e0] at hi
                      obtain ⟨ev, p1, p2, p3, p4⟩ := hre.get i y hi
                      refine ⟨ev, p1, p2, p3, fun k u hk => ?_⟩
                      have hk0 := one p3 hk
                      subst hk0
                      show c'[base + i * 1 + 0]? = some u
                      rw [hget, if_neg (by omega), if_neg (by omega)]
                      exact p4 0 u hk
          · cases h
        · cases h
    · cases h
  · cases h
end
end Go.Abs

namespace Go.Abs
open Go.RowKit

section
variable {P : Program}

theorem freezeC_sound {B : Nat} {w0 w : World} {Γ : Ghost} {st st' : St} (hI : Inv B w0 Γ st w) {x r : AV} {v : Value} (h : freezeC st x = some (r, st')) (hx : R Γ x v) :
    ∃ Γ', Out B w0 Γ st Γ' st' w ∧ R Γ' r v := by
  unfold freezeC at h
  split at h
  · rename_i sz b off len
    split at h
    · rename_i sz' xs hg
      split at h
      · rename_i hc
        obtain ⟨rfl, hle⟩ := hc
        simp only [R] at hx
        obtain ⟨blk, base, tot, o, cap, ho, rfl, k1, k2⟩ := hx
        obtain ⟨_, hsz, hlt, hmem⟩ := hI.rows b _ xs blk base _ tot hg ho
        have hxl : ((xs.drop off).take len).length = len := by rw [List.length_take, List.length_drop]; omega
        have key : ∀ own, (own = .any ∨ (off + len = xs.length ∧ own = .tok st.next)) → r = .vs sz' own ((xs.drop off).take len) → st' = (st.drop b).newTok → ∃ Γ', Out B w0 Γ st Γ' st' w ∧ R Γ' r (.slice (some ⟨blk, o, none⟩) len cap) := by
          intro own hown hr hst
          subst hr; subst hst
          by_cases h0 : 0 < tot
          · obtain ⟨⟨c, T, hh, hcs, hre⟩, _⟩ := hmem h0
            have out := hI.freezeTok hg ho h0 hh
            refine ⟨_, out, ?_⟩
            simp only [R]
            refine ⟨blk, o, cap, by rw [hxl], by rw [hxl]; exact k1, hsz, ?_, ?_⟩
            · rcases hown with rfl | ⟨hend, rfl⟩
              · trivial
              · rw [hxl]
                rcases k2 with k2 | ⟨k2, k3⟩
                · exact .inl (by omega)
                · refine .inr ⟨base + xs.length * sz', base + tot * sz', by simp [Ghost.addTk], ?_, ?_⟩
                  · rw [k2, ← hend, Nat.add_mul, Nat.add_assoc]
                  · have hmul : (off + cap) * sz' ≤ tot * sz' := Nat.mul_le_mul_right _ k3
                    rw [Nat.add_mul] at hmul
                    omega
            · by_cases hl0 : len = 0
              · subst hl0; simp only [List.take_zero, RE]
              · rcases k2 with k2 | ⟨k2, k3⟩
                · omega
                · subst k2
                  refine (RE.mono out.le _ _ _ _ _ (fun _ _ k => k) ((hre.drop off).take len)).ext fun k v h1 h2 hv => ?_
                  rw [hxl] at h2
                  have hmul : (off + len) * sz' ≤ xs.length * sz' := Nat.mul_le_mul_right _ hle
                  rw [Nat.add_mul] at hmul
                  simp only [Ghost.addTk, Ghost.addInert, if_pos]
                  rw [if_pos (by omega)]; exact hv
          · have hx0 : xs = [] := List.eq_nil_of_length_eq_zero (by omega)
            have out1 := hI.dropObj ho
            refine ⟨Γ, out1.trans out1.inv.tokFree, ?_⟩
            have hl0 : len = 0 := by rw [hx0] at hle; simp at hle; omega
            subst hl0
            have hc0 : cap = 0 := by
              rcases k2 with k2 | ⟨_, k3⟩
              · exact k2
              · omega
            simp only [R, List.take_zero, List.length_nil]
            refine ⟨blk, o, cap, rfl, Nat.zero_le _, hsz, ?_, by simp only [RE]⟩
            rcases hown with rfl | ⟨_, rfl⟩
            · trivial
            · exact .inl hc0
        split at h
        · rename_i hend
          cases h
          exact key _ (.inr ⟨hend, rfl⟩) rfl rfl
        · cases h
          exact key _ (.inl rfl) rfl rfl
      · cases h
    · cases h
  · cases h
    exact ⟨Γ, ⟨Ghost.Le.refl Γ, hI, Keep.refl Γ st⟩, hx⟩

theorem freezeL_sound {B : Nat} {w0 w : World} : ∀ (xs : List AV) {Γ : Ghost} {st st' : St} {rs : List AV} {vs : List Value}, Inv B w0 Γ st w → freezeL st xs = some (rs, st') → RL Γ xs vs →
    ∃ Γ', Out B w0 Γ st Γ' st' w ∧ RL Γ' rs vs
  | [], Γ, st, st', rs, vs, hI, h, hx => by
    simp only [freezeL, Option.some.injEq, Prod.mk.injEq] at h
    obtain ⟨rfl, rfl⟩ := h
    exact ⟨Γ, ⟨Ghost.Le.refl Γ, hI, Keep.refl Γ st⟩, hx⟩
  | x :: xs, Γ, st, st', rs, vs, hI, h, hx => by
    simp only [freezeL] at h
    obtain ⟨v, vr, rfl, h1, h2⟩ := hx.of_cons
    split at h
    · cases h
    · rename_i y st1 hy
      split at h
      · cases h
      · rename_i ys st2 hys
        cases h
        obtain ⟨Γ1, o1, r1⟩ := freezeC_sound hI hy h1
        obtain ⟨Γ2, o2, r2⟩ := freezeL_sound xs o1.inv hys (RL.mono o1.le xs _ h2)
        exact ⟨Γ2, o1.trans o2, RL.cons (r1.mono o2.le) r2⟩

theorem freezeB_sound {B : Nat} {w0 w : World} {Γ : Ghost} {st st' : St} (hI : Inv B w0 Γ st w) {x r : AV} {v : Value} (h : freezeB st x = some (r, st')) (hx : R Γ x v) :
    ∃ Γ', Out B w0 Γ st Γ' st' w ∧ R Γ' r v := by
  unfold freezeB at h
  split at h
  · simp only [Option.map_eq_some_iff, Prod.exists] at h
    obtain ⟨ys, st1, h1, e⟩ := h
    cases e
    simp only [R] at hx
    obtain ⟨vs, rfl, h2⟩ := hx
    obtain ⟨Γ', o1, r1⟩ := freezeL_sound _ hI h1 h2
    exact ⟨Γ', o1, by simp only [R]; exact ⟨vs, rfl, r1⟩⟩
  · exact freezeC_sound hI h hx
theorem freezeM_sound {B : Nat} {w0 w : World} : ∀ (xs : List AV) {Γ : Ghost} {st st' : St} {rs : List AV} {vs : List Value}, Inv B w0 Γ st w → freezeM st xs = some (rs, st') → RL Γ xs vs →
    ∃ Γ', Out B w0 Γ st Γ' st' w ∧ RL Γ' rs vs
  | [], Γ, st, st', rs, vs, hI, h, hx => by
    simp only [freezeM, Option.some.injEq, Prod.mk.injEq] at h
    obtain ⟨rfl, rfl⟩ := h
    exact ⟨Γ, ⟨Ghost.Le.refl Γ, hI, Keep.refl Γ st⟩, hx⟩
  | x :: xs, Γ, st, st', rs, vs, hI, h, hx => by
    simp only [freezeM] at h
    obtain ⟨v, vr, rfl, h1, h2⟩ := hx.of_cons
    split at h
    · cases h
    · rename_i y st1 hy
      split at h
      · cases h
      · rename_i ys st2 hys
        cases h
        obtain ⟨Γ1, o1, r1⟩ := freezeB_sound hI hy h1
        obtain ⟨Γ2, o2, r2⟩ := freezeM_sound xs o1.inv hys (RL.mono o1.le xs _ h2)
        exact ⟨Γ2, o1.trans o2, RL.cons (r1.mono o2.le) r2⟩
theorem freeze_sound {B : Nat} {w0 w : World} {Γ : Ghost} {st st' : St} (hI : Inv B w0 Γ st w) {x r : AV} {v : Value} (h : freezeA st x = some (r, st')) (hx : R Γ x v) :
    ∃ Γ', Out B w0 Γ st Γ' st' w ∧ R Γ' r v := by
  unfold freezeA at h
  split at h
  · simp only [Option.map_eq_some_iff, Prod.exists] at h
    obtain ⟨ys, st1, h1, e⟩ := h
    cases e
    simp only [R] at hx
    obtain ⟨vs, rfl, h2⟩ := hx
    obtain ⟨Γ', o1, r1⟩ := freezeM_sound _ hI h1 h2
    exact ⟨Γ', o1, by simp only [R]; exact ⟨vs, rfl, r1⟩⟩
  · simp only [Option.map_eq_some_iff, Prod.exists] at h
    obtain ⟨ys, st1, h1, e⟩ := h
    cases e
    simp only [R] at hx
    obtain ⟨vs, rfl, h2⟩ := hx
    obtain ⟨Γ', o1, r1⟩ := freezeL_sound _ hI h1 h2
    exact ⟨Γ', o1, by simp only [R]; exact ⟨vs, rfl, r1⟩⟩
  · exact freezeC_sound hI h hx

def CallsOk (P : Program) (B : Nat) (w0 : World) (call : Call1) : Prop :=
  ∀ f args st r st', call f args st = some (r, st') → (∀ (w : World) (vargs : Array Value), (callFunc f vargs).run P w = .ok (.enter f vargs) w) ∧
    ∀ Γ w (vargs : Array Value), Inv B w0 Γ st w → RL Γ args vargs.toList →
      Calls P f vargs w fun e w' => ∃ v Γ', e = .returned v ∧ Out B w0 Γ st Γ' st' w' ∧ R Γ' r v

set_option maxHeartbeats 1000000 in
theorem step_sound {E : Env} (hE : EnvOk P E) {B : Nat} {w0 w : World} {call : Call1} (hcall : CallsOk P B w0 call) {Γ : Ghost} {st st' : St} (hI : Inv B w0 Γ st w) {tm : TM} {a : Act} (hF : RT Γ tm a.tmps)
    {pol : Nat} {o : Oper} {r : AV} (h : stepOp E call pol tm st o = some (r, st')) {K : Act → World → Prop} {Q : Exit → Act → World → Prop}
    (hK : ∀ u w' Γ', Out B w0 Γ st Γ' st' w' → R Γ' r u → K (a.put o.dst u) w') : o.wp P a w K Q := by
  unfold stepOp at h
  split at h
  · rename_i hloud
    clear hloud
    split at h
    · rename_i v st1 hl
      -- all but a call: no freezing
      have plain : isFnCall o.op = false → v = r ∧ st1 = st' := by
        intro hf
        rw [hf] at h
        simp at h
        exact h
      have value : ∀ {s : Sem Value}, isFnCall o.op = false → Does P B w0 s w Γ st v st1 → (execOp a.eval o = do pure (Next.value (← s))) → o.wp P a w K Q := by
        intro s hf hs he
        obtain ⟨e1, e2⟩ := plain hf
        subst e1; subst e2
        obtain ⟨u, w', Γ', k1, k2, k3⟩ := hs
        unfold Oper.wp
        rw [he]
        simp only [Sem.run_bind, k1, Result.andThen_ok, Sem.run_pure]
        exact hK u w' Γ' k2 k3
      have unit : ∀ {s : Sem Unit}, isFnCall o.op = false → (∃ w' Γ', s.run P w = .ok () w' ∧ Out B w0 Γ st Γ' st1 w') → v = .junk → (execOp a.eval o = do s; pure Next.skip) → o.wp P a w K Q := by
        intro s hf hs hv he
        obtain ⟨e1, e2⟩ := plain hf
        subst e1; subst e2
        obtain ⟨w', Γ', k1, k2⟩ := hs
        unfold Oper.wp
        rw [he]
        simp only [Sem.run_bind, k1, Result.andThen_ok, Sem.run_pure]
        exact hK undef w' Γ' k2 (by rw [hv]; simp only [R])
      obtain ⟨dst, op, ty, pos, after, guard⟩ := o
      cases op <;> simp only [loud] at hl <;> (try (cases hl; done))
      case alloc t => exact value rfl (alloc_sound hE.ty hI hl) rfl
      case box t x => exact value rfl (box_sound hI hl (hF.eval x)) rfl
      case store t ad x =>
        split at hl
        · rename_i ty' ht
          split at hl
          · rename_i hlen
            simp only [Option.map_eq_some_iff] at hl
            obtain ⟨s1, hs, e⟩ := hl
            cases e
            exact unit rfl (store_sound hE.ty hI ht hlen hs (hF.eval ad) (hF.eval x)) rfl rfl
          · cases hl
        · cases hl
      case makeMap t k =>
        cases k with
        | none =>
          dsimp only at hl
          split at hl
          · rename_i ty' ht
            split at hl
            · rename_i kt et hd
              cases hl
              obtain ⟨U, _, _, hu, _, _, g1, _⟩ := (hE.ty t ty' ht).ex
              have gi := tdOf_inv g1
              rw [hd] at gi; simp only [TDIs] at gi; subst gi
              exact value rfl (makeMap_sound (k := none) hI hu) rfl
            · cases hl
          · cases hl
        | some x =>
          dsimp only at hl
          split at hl
          · rename_i ty' k n ht he
            split at hl
            · rename_i kt et hd
              cases hl
              obtain ⟨U, _, _, hu, _, _, g1, _⟩ := (hE.ty t ty' ht).ex
              have gi := tdOf_inv g1
              rw [hd] at gi; simp only [TDIs] at gi; subst gi
              have hx := hF.eval x
              rw [he] at hx; simp only [R] at hx
              exact value rfl (makeMap_sound (k := some (k, n)) hI hu) (by simp only [execOp, Option.map_some, hx])
            · cases hl
          · cases hl
      case makeSlice t l c => exact value rfl (makeSlice_sound hE.ty hI hl (hF.eval l) (hF.eval c)) rfl
      case mapUpdate t m k x =>
        obtain ⟨w', Γ', k1, k2, k3⟩ := mapPut_sound hE.ty hI hl (hF.eval m) (hF.eval k) (hF.eval x)
        exact unit rfl ⟨w', Γ', k1, k2⟩ k3 rfl
      case insert t m k x =>
        obtain ⟨w', Γ', k1, k2, k3⟩ := mapPut_sound hE.ty hI hl (hF.eval m) (hF.eval k) (hF.eval x)
        exact unit rfl ⟨w', Γ', k1, k2⟩ k3 rfl
      case mapEntry t m k => exact value rfl (mapEntry_sound hE.ty hI hl (hF.eval m) (hF.eval k)) rfl
      case entryStore t m s x =>
        obtain ⟨w', Γ', k1, k2, k3⟩ := entryStore_sound (t := t) hI hl (hF.eval m) (hF.eval s) (hF.eval x)
        exact unit rfl ⟨w', Γ', k1, k2⟩ k3 rfl
      case call c =>
        obtain ⟨callee, args, argTypes⟩ := c
        cases callee with
        | invoke rv m => cases hl
        | builtin b =>
          cases b <;> (try (cases hl; done)) <;> dsimp only at hl
          · split at hl
            · rename_i s x ts tx hargs htys
              have ha : args = #[s, x] := by rw [← Array.toArray_toList (xs := args), hargs]
              have hb : argTypes = #[ts, tx] := by rw [← Array.toArray_toList (xs := argTypes), htys]
              subst ha; subst hb
              refine value (s := Builtin.append_ #[ts, tx] ty #[a.eval s, a.eval x]) rfl ?_ (by simp [execOp, resolve, invoke, builtin])
              unfold appendOpA at hl
              split at hl
              · rename_i tys tyx hts htx
                split at hl
                · rename_i e hd
                  split at hl
                  · cases hl
                  · rename_i et he
                    split at hl
                    · rename_i hsz
                      split at hl
                      · -- zeros
                        rename_i kn hdx
                        split at hl
                        · rename_i n hs0 hx0
                          split at hl
                          · rename_i hc
                            obtain ⟨hn, hroom⟩ := hc
                            cases hl
                            simp only [roomA, Bool.and_eq_true, decide_eq_true_eq] at hroom
                            obtain ⟨U, _, _, hu, _, _, g1, _⟩ := (hE.ty ts tys hts).ex
                            have gi := tdOf_inv g1
                            rw [hd] at gi; simp only [TDIs] at gi; subst gi
                            obtain ⟨U2, _, _, hu2, _, _, g2, _⟩ := (hE.ty tx tyx htx).ex
                            have gi2 := tdOf_inv g2
                            rw [hdx] at gi2; simp only [TDIs] at gi2; subst gi2
                            obtain ⟨ei, ez, hei, hez, hes, heb, hzs, hzo, hzr⟩ := (hE.ty e et he).zero
                            have hs := hF.eval s
                            have hx := hF.eval x
                            rw [hs0] at hs; rw [hx0] at hx
                            simp only [R] at hs hx
                            have hnn : (n.toNat : Int) = n := Int.toNat_of_nonneg (by omega)
                            have hrun := Lib.run_append_nil_zeros (P := P) w ts tx ty e ei ez .i64 kn hu hu2 hei hez n.toNat (by omega) (by omega) (by omega) (by rw [heb]; omega)
                            rw [hnn] at hrun
                            rw [hs, hx]
                            have hcap := grownCap_ge w n.toNat 0 e
                            obtain ⟨Γ', o1, o2⟩ := newRow_does hI (e := e) (c := Builtin.zeroCells ez.cells n.toNat ++ Builtin.zeroCells ez.cells (grownCap w n.toNat 0 e - n.toNat)) (cap := grownCap w n.toNat 0 e) (n := n.toNat) (xs := List.replicate n.toNat et.zeroV) (size := et.size) (by simp) hsz
                              (by rw [Array.size_append, size_zeroCells, size_zeroCells, hzs, ← Nat.add_mul]; congr 1; omega) hcap
                              (zeros_RE (hzr Γ) hzo hzs hsz (m := n.toNat) (Nat.le_refl _) (fun k hk => by
                                rw [Array.getElem?_append_left (by rw [size_zeroCells, hzs]; exact hk), zeroCells_get (by rw [hzs]; exact hk) (by omega), hzs]))
                            exact ⟨_, _, Γ', hrun, o1, o2⟩
                          · cases hl
                        · cases hl
                      · rename_i e2 hdx
                        split at hl
                        · rename_i sz' ys hel
                          split at hl
                          · rename_i hc
                            obtain ⟨c1, c2, c3⟩ := hc
                            obtain ⟨news, fed⟩ := elems_sound hE.ty hI htx (.inl ⟨e2, hdx⟩) (by simpa using c3) hsz hel c1 c2 (hF.eval x)
                            exact append_sound hE.ty hI hts hd he hsz fed hl (hF.eval s)
                          · cases hl
                        · cases hl
                      · rename_i hdx
                        split at hl
                        · rename_i sz' ys hel
                          split at hl
                          · rename_i hc
                            obtain ⟨c1, c2, c3⟩ := hc
                            obtain ⟨news, fed⟩ := elems_sound hE.ty hI htx (.inr hdx) (by simpa using c3) hsz hel c1 c2 (hF.eval x)
                            exact append_sound hE.ty hI hts hd he hsz fed hl (hF.eval s)
                          · cases hl
                        · cases hl
                      · cases hl
                    · cases hl
                · cases hl
              · cases hl
            · cases hl
          · split at hl
            · rename_i s x ts tx hargs htys
              have ha : args = #[s, x] := by rw [← Array.toArray_toList (xs := args), hargs]
              have hb : argTypes = #[ts, tx] := by rw [← Array.toArray_toList (xs := argTypes), htys]
              subst ha; subst hb
              refine value (s := Builtin.copy_ #[ts, tx] ty #[a.eval s, a.eval x]) rfl ?_ (by simp [execOp, resolve, invoke, builtin])
              exact copy_sound hE.ty hI hl (hF.eval s) (hF.eval x)
            · cases hl
        | value f =>
          dsimp only at hl
          split at hl
          · rename_i g first cap he
            obtain ⟨hent, hcl⟩ := hcall _ _ _ _ _ hl
            have hf := hF.eval f
            rw [he] at hf; simp only [R] at hf
            obtain ⟨vf, vc, hv, hr1, hr2⟩ := hf
            have hargs : RL Γ (first ++ args.toList.map (evalO tm) ++ cap) ((vf ++ args.map a.eval) ++ vc).toList := by
              rw [Array.toList_append, Array.toList_append, Array.toList_map]
              exact (hr1.append (hF.evals args.toList)).append hr2
            unfold Oper.wp
            simp only [execOp, resolve, Sem.run_bind, hv, Deferred.ofValue, Sem.run_pure, Result.andThen_ok, invoke, hent]
            show Calls P g _ w _
            refine (hcl Γ w _ hI hargs).mono ?_
            rintro e w' ⟨u, Γ', rfl, o1, r1⟩
            by_cases hp : pol = 2
            · subst hp
              simp only [isFnCall, decide_true, Bool.and_self, if_true] at h
              obtain ⟨Γ2, o2, r2⟩ := freeze_sound o1.inv h r1
              exact hK u w' Γ2 (o1.trans o2) r2
            · have e1 : v = r ∧ st1 = st' := by
                simp only [hp, decide_false, Bool.false_and, Bool.false_eq_true, if_false, Option.some.injEq, Prod.mk.injEq] at h
                exact h
              obtain ⟨rfl, rfl⟩ := e1
              exact hK u w' Γ' o1 r1
          · cases hl
    · cases h
  · simp only [Option.map_eq_some_iff] at h
    obtain ⟨v, hq, e⟩ := h
    cases e
    obtain ⟨u, w', Γ', k1, k2, k3⟩ := quiet_sound hE hI hF hq
    unfold Oper.wp
    rw [k1]
    exact hK u w' Γ' k2 k3
end
end Go.Abs

namespace Go.Abs
open Go.RowKit

section
variable {P : Program}

theorem wanted_sound {Γ : Ghost} {ops : Array Oper} {tm : TM} {a : Act} {o : Oper} {b : Bool} (hF : RT Γ tm a.tmps) (h : wantedA ops tm o = some b) :
    Region.wanted o (yielded ops a.tmps) = b := by
  unfold wantedA at h
  unfold Region.wanted
  split at h
  · rename_i hg; cases h; rw [hg]
  · rename_i j want hg
    rw [hg]
    simp only [yielded]
    split at h
    · rename_i hd; cases h; rw [hd]; simp
    · rename_i d hd
      rw [hd]
      simp only [Option.bind_some]
      have hg := hF.get d
      rw [Array.getD_eq_getD_getElem?] at hg
      split at h
      · rename_i b' ht
        cases h
        rw [ht] at hg; simp only [R] at hg
        cases hv : a.tmps[d]? with
        | none => rw [hv] at hg; cases hg
        | some v =>
          rw [hv] at hg
          simp only [Option.getD_some] at hg
          subst hg
          simp
      · cases h
      · rename_i y hb hj
        cases h
        cases hv : a.tmps[d]? with
        | none => simp
        | some v =>
          rw [hv] at hg
          simp only [Option.getD_some] at hg
          have htag := hg.tag (fun e => hj e)
          cases v <;> first | (simp; done) | skip
          generalize tm.get d = z at *
          cases z <;> simp [tagA, tagV] at htag
          exact absurd rfl (hb _)

theorem undef_R (Γ : Ghost) : R Γ (.tup []) undef := by
  simp only [R]; exact ⟨#[], rfl, RL.nil Γ⟩

theorem runOps_sound {E : Env} (hE : EnvOk P E) {B : Nat} {w0 : World} {call : Call1} (hcall : CallsOk P B w0 call) {pol : Nat → Nat} {ops : Array Oper} {Q : Exit → Act → World → Prop} :
    ∀ (l : List Oper) (i : Nat) {Γ : Ghost} {st st' : St} {w : World} {tm tm' : TM} {a : Act}, Inv B w0 Γ st w → RT Γ tm a.tmps → runOps E call none pol ops l i tm st = some (tm', st') →
      (∀ Γ' a' w', Out B w0 Γ st Γ' st' w' → RT Γ' tm' a'.tmps → a'.defers = a.defers → Q .normal a' w') → wpList P ops Q l a w
  | [], i, Γ, st, st', w, tm, tm', a, hI, hF, h, hQ => by
    simp only [runOps, Option.some.injEq, Prod.mk.injEq] at h
    obtain ⟨rfl, rfl⟩ := h
    exact hQ Γ a w ⟨Ghost.Le.refl Γ, hI, Keep.refl Γ st⟩ hF rfl
  | o :: l, i, Γ, st, st', w, tm, tm', a, hI, hF, h, hQ => by
    simp only [runOps] at h
    split at h
    · rename_i hw
      split at h
      · rename_i v st1 hs
        unfold wpList
        rw [wanted_sound hF hw, if_pos rfl]
        refine .inl (step_sound hE hcall hI hF hs fun u w1 Γ1 o1 r1 => ?_)
        exact runOps_sound hE hcall l (i + 1) o1.inv ((RT.mono o1.le hF).put o.dst r1) h fun Γ2 a2 w2 o2 f2 d2 => hQ Γ2 a2 w2 (o1.trans o2) f2 (by rw [d2, put_defers])
      · cases h
    · rename_i hw
      unfold wpList
      rw [wanted_sound hF hw]
      simp only [Bool.false_eq_true, if_false]
      exact runOps_sound hE hcall l (i + 1) hI (hF.put o.dst (undef_R Γ)) h fun Γ2 a2 w2 o2 f2 d2 => hQ Γ2 a2 w2 o2 f2 (by rw [d2, put_defers])
    · cases h
end
end Go.Abs

namespace Go.Abs
open Go.RowKit

theorem evalO_congr {tm tm' : TM} {x : Operand} (h : ∀ t, x = .tmp t → tm.get t = tm'.get t) : evalO tm x = evalO tm' x := by
  cases x with
  | tmp t => exact h t rfl
  | _ => rfl

theorem pairs_congr {f g : Operand → AV} {ps : Array (Nat × Operand)} (h : ∀ x ∈ (ps.toList.map (·.2)).toArray, f x = g x) :
    (ps.toList.map fun (p : Nat × Operand) => (p.1, f p.2)) = ps.toList.map fun (p : Nat × Operand) => (p.1, g p.2) :=
  List.map_congr_left fun p hp => by rw [h p.2 (by simpa using ⟨p.1, by simpa using hp⟩)]
theorem args_congr {f g : Operand → AV} {l : Array Operand} (h : ∀ x ∈ l, f x = g x) : l.toList.map f = l.toList.map g :=
  List.map_congr_left fun x hx => h x (by simpa using hx)

theorem quiet_congr {E : Env} {tm tm' : TM} {st : St} {o : Oper} (h : ∀ x ∈ o.op.operands, evalO tm x = evalO tm' x) : quiet E tm st o = quiet E tm' st o := by
  obtain ⟨dst, op, ty, pos, after, guard⟩ := o
  dsimp only at h
  cases op <;> simp only [Op.operands] at h <;> simp only [quiet]
  case build t ps => rw [pairs_congr h]
  case buildSlice t n ps => rw [pairs_congr h]
  case makeFunc fn first captured =>
    cases fn with
    | func f => dsimp only; rw [args_congr (l := first) fun x hx => h x (by simp [hx]), args_congr (l := captured) fun x hx => h x (by simp [hx])]
    | _ => rfl
  case slice t x lo hi mx => cases lo <;> cases hi <;> cases mx <;> simp_all
  case call c =>
    obtain ⟨callee, args, tys⟩ := c
    cases callee with
    | value f => rfl
    | invoke r m => rfl
    | builtin b =>
      have ha : args.toList.map (evalO tm) = args.toList.map (evalO tm') := args_congr fun x hx => h x (by simp [Call.operands, hx])
      have hb : ∀ x, args.toList = [x] → evalO tm x = evalO tm' x := fun x hx => h x (by
        have : x ∈ args.toList := by rw [hx]; simp
        simpa [Call.operands] using this)
      cases b <;> dsimp only <;> (try rfl) <;> (try rw [ha])
      all_goals (split <;> first | rfl | (rename_i hx _; rw [hb _ hx]))
  all_goals (first | rfl | (simp_all; done))

theorem loud_congr {E : Env} {call : Call1} {pol : Nat} {tm tm' : TM} {st : St} {o : Oper} (h : ∀ x ∈ o.op.operands, evalO tm x = evalO tm' x) : loud E call pol tm st o = loud E call pol tm' st o := by
  obtain ⟨dst, op, ty, pos, after, guard⟩ := o
  dsimp only at h
  cases op <;> simp only [Op.operands] at h <;> simp only [loud]
  case makeMap t x => cases x <;> simp_all
  case call c =>
    obtain ⟨callee, args, tys⟩ := c
    have ha : args.toList.map (evalO tm) = args.toList.map (evalO tm') := args_congr fun x hx => h x (by simp [Call.operands, hx])
    cases callee with
    | value f =>
      have hf := h f (by simp [Call.operands])
      simp only [hf, ha]
    | invoke r m => rfl
    | builtin b =>
      cases b <;> dsimp only <;> (try rfl)
      all_goals
        split
        · rename_i s x ts tx hx _
          have h1 := h s (by
            have : s ∈ args.toList := by rw [hx]; simp
            simpa [Call.operands] using this)
          have h2 := h x (by
            have : x ∈ args.toList := by rw [hx]; simp
            simpa [Call.operands] using this)
          rw [h1, h2]
        · rfl
  all_goals (first | rfl | (simp_all; done))

theorem stepOp_congr {E : Env} {call : Call1} {pol : Nat} {tm tm' : TM} {st : St} {o : Oper} (h : ∀ x ∈ o.op.operands, evalO tm x = evalO tm' x) : stepOp E call pol tm st o = stepOp E call pol tm' st o := by
  unfold stepOp
  rw [quiet_congr h, loud_congr h]

theorem wantedA_congr {ops : Array Oper} {tm tm' : TM} {o : Oper} (h : ∀ g w t, o.guard = some (g, w) → (ops[g]?).bind (·.dst) = some t → tm.get t = tm'.get t) : wantedA ops tm o = wantedA ops tm' o := by
  unfold wantedA
  split
  · rfl
  · rename_i j want hg
    split
    · rfl
    · rename_i d hd
      rw [h j want d hg hd]

theorem quiet_any {E : Env} {tm : TM} {st st' : St} {o : Oper} (h : readsSt o.op = false) : quiet E tm st o = quiet E tm st' o := by
  obtain ⟨dst, op, ty, pos, after, guard⟩ := o
  dsimp only at h
  cases op <;> (try (simp [readsSt] at h; done)) <;> (try rfl)
  case makeFunc fn first cap => cases fn <;> rfl
  case call c =>
    obtain ⟨callee, args, tys⟩ := c
    cases callee with
    | value f => rfl
    | invoke r m => rfl
    | builtin b => cases b <;> first | rfl | (simp [readsSt] at h; done)

theorem looks_of_mem {ops : Array Oper} {o : Oper} {t : Tmp} (h : Operand.tmp t ∈ o.op.operands) : t ∈ o.looksAt ops :=
  List.mem_append_left _ (List.mem_filterMap.2 ⟨.tmp t, by simpa using h, rfl⟩)
theorem step_looks {E : Env} {call : Call1} {ops : Array Oper} {pol : Nat} {tm tm' : TM} {st : St} {o : Oper} (h : ∀ t ∈ o.looksAt ops, tm.get t = tm'.get t) : stepOp E call pol tm st o = stepOp E call pol tm' st o :=
  stepOp_congr fun _ hx => evalO_congr fun t e => h t (looks_of_mem (e ▸ hx))
theorem quiet_looks {E : Env} {ops : Array Oper} {tm tm' : TM} {st : St} {o : Oper} (h : ∀ t ∈ o.looksAt ops, tm.get t = tm'.get t) : quiet E tm st o = quiet E tm' st o :=
  quiet_congr fun _ hx => evalO_congr fun t e => h t (looks_of_mem (e ▸ hx))
theorem wanted_looks {ops : Array Oper} {tm tm' : TM} {o : Oper} (h : ∀ t ∈ o.looksAt ops, tm.get t = tm'.get t) : wantedA ops tm o = wantedA ops tm' o :=
  wantedA_congr fun g w t hg hd => h t (by simp [Oper.looksAt, hg, hd])

theorem before_foldl (c : Edge → Bool) (acc : Array Nat) (es : List Edge) (s x : Nat) :
    (es.foldl (fun s e => if c e then s ||| 2 ^ e.on ||| acc.getD e.on 0 else s) s).testBit x = true ↔
      s.testBit x = true ∨ ∃ e ∈ es, c e = true ∧ (x = e.on ∨ (acc.getD e.on 0).testBit x = true) := by
  induction es generalizing s with
  | nil => simp
  | cons e es ih =>
    rw [List.foldl_cons, ih]
    by_cases hc : c e = true
    · simp only [hc, if_true, Nat.testBit_or, Nat.testBit_two_pow, Bool.or_eq_true, decide_eq_true_eq, List.mem_cons, exists_eq_or_imp, true_and]
      constructor
      · rintro ((h | h) | h) 
        · rcases h with h | h
          · exact .inl h
          · exact .inr (.inl (.inl h.symm))
        · exact .inr (.inl (.inr h))
        · exact .inr (.inr h)
      · rintro (h | (h | h) | h)
        · exact .inl (.inl (.inl h))
        · exact .inl (.inl (.inr h.symm))
        · exact .inl (.inr h)
        · exact .inr h
    · simp only [hc, Bool.false_eq_true, if_false, List.mem_cons, exists_eq_or_imp, false_and, false_or]

def beforeL (l : List Oper) (acc : Array Nat) : Array Nat :=
  l.foldl (init := acc) fun acc o => acc.push (o.after.foldl (fun s e => if Region.binds .any e then s ||| 2 ^ e.on ||| acc.getD e.on 0 else s) 0)

theorem beforeL_spec : ∀ (l : List Oper) (acc : Array Nat), (beforeL l acc).size = acc.size + l.length ∧ (∀ i, i < acc.size → (beforeL l acc).getD i 0 = acc.getD i 0)
  | [], acc => ⟨rfl, fun _ _ => rfl⟩
  | o :: l, acc => by
    let a2 := acc.push (o.after.foldl (fun s e => if Region.binds .any e then s ||| 2 ^ e.on ||| acc.getD e.on 0 else s) 0)
    obtain ⟨h1, h2⟩ := beforeL_spec l a2
    have hs : a2.size = acc.size + 1 := Array.size_push ..
    refine ⟨?_, fun i hi => ?_⟩
    · show (beforeL l a2).size = _
      rw [h1, hs, List.length_cons]; omega
    · show (beforeL l a2).getD i 0 = _
      rw [h2 i (by omega)]
      simp only [a2, Array.getD_eq_getD_getElem?]
      rw [Array.getElem?_push_lt hi, Array.getElem?_eq_getElem hi]

theorem isBefore_step : ∀ (l : List Oper) (acc : Array Nat) (j : Nat) (o : Oper), l[j]? = some o → (∀ e ∈ o.after, Region.binds .any e = true → e.on < acc.size + j) → ∀ i,
    isBefore (beforeL l acc) i (acc.size + j) = true → ∃ e ∈ o.after, Region.binds .any e = true ∧ (i = e.on ∨ isBefore (beforeL l acc) i e.on = true)
  | [], _, _, _, h, _, _, _ => by simp at h
  | p :: l, acc, j, o, h, hl, i, hb => by
    let a2 := acc.push (p.after.foldl (fun s e => if Region.binds .any e then s ||| 2 ^ e.on ||| acc.getD e.on 0 else s) 0)
    have hs : a2.size = acc.size + 1 := Array.size_push ..
    have hbl : beforeL (p :: l) acc = beforeL l a2 := rfl
    rw [hbl] at hb ⊢
    cases j with
    | zero =>
      simp only [List.getElem?_cons_zero, Option.some.injEq] at h
      subst h
      unfold isBefore at hb
      rw [(beforeL_spec l a2).2 _ (by omega)] at hb
      have hv : a2.getD (acc.size + 0) 0 = p.after.foldl (fun s e => if Region.binds .any e then s ||| 2 ^ e.on ||| acc.getD e.on 0 else s) 0 := by
        simp only [a2, Array.getD_eq_getD_getElem?, Nat.add_zero, Array.getElem?_push_size, Option.getD_some]
      rw [hv, ← Array.foldl_toList, before_foldl] at hb
      rcases hb with hb | ⟨e, he, hc, hb⟩
      · simp at hb
      · have hlt := hl e (by simpa using he) hc
        refine ⟨e, by simpa using he, hc, hb.imp id fun hb => ?_⟩
        unfold isBefore
        rw [(beforeL_spec l a2).2 _ (by omega)]
        simp only [a2, Array.getD_eq_getD_getElem?] at hb ⊢
        rw [Array.getElem?_push_lt (by omega), ← Array.getElem?_eq_getElem (by omega)]
        exact hb
    | succ j =>
      have hj : acc.size + (j + 1) = a2.size + j := by omega
      rw [hj] at hb hl
      exact isBefore_step l a2 j o (by simpa using h) hl i hb

theorem before_eq (ops : Array Oper) : Region.before ops = beforeL ops.toList #[] := by
  unfold Region.before beforeL
  rw [← Array.foldl_toList]

theorem isBefore_edge {ops : Array Oper} {i j : Nat} {o : Oper} (hj : ops[j]? = some o) (hl : ∀ e ∈ o.after, Region.binds .any e = true → e.on < j)
    (h : isBefore (Region.before ops) i j = true) : ∃ e ∈ o.after, Region.binds .any e = true ∧ (i = e.on ∨ isBefore (Region.before ops) i e.on = true) := by
  rw [before_eq] at h ⊢
  have := isBefore_step ops.toList #[] j o (by simpa using hj) (by simpa using hl) i (by simpa using h)
  simpa using this

end Go.Abs

namespace Go.Abs
open Go.RowKit

def tmS (S : Nat → Bool) : List (Option Tmp × AV) → Nat → TM → TM
  | [], _, tm => tm
  | p :: r, i, tm => tmS S r (i + 1) (if S i then putO tm p.1 p.2 else tm)
def dsOf (r : List Oper) (l : List Tr) : List (Option Tmp × AV) := List.zipWith (fun o e => (o.dst, e.v)) r l
def stA (st : St) : List Tr → Nat → St
  | [], _ => st
  | _ :: _, 0 => st
  | e :: l, k + 1 => stA e.now l k

theorem stA_zero (st : St) (l : List Tr) : stA st l 0 = st := by cases l <;> rfl

theorem tmS_congr {S S' : Nat → Bool} : ∀ (ds : List (Option Tmp × AV)) (i : Nat) (tm : TM), (∀ m, i ≤ m → S m = S' m) → tmS S ds i tm = tmS S' ds i tm
  | [], _, _, _ => rfl
  | p :: r, i, tm, h => by
    simp only [tmS]
    rw [h i (Nat.le_refl _)]
    exact tmS_congr r (i + 1) _ fun m hm => h m (by omega)
theorem tmS_none {S : Nat → Bool} : ∀ (ds : List (Option Tmp × AV)) (i : Nat) (tm : TM), (∀ m, i ≤ m → S m = false) → tmS S ds i tm = tm
  | [], _, _, _ => rfl
  | p :: r, i, tm, h => by
    simp only [tmS]
    rw [h i (Nat.le_refl _)]
    exact tmS_none r (i + 1) _ fun m hm => h m (by omega)

theorem putO_get (tm : TM) (d : Option Tmp) (v : AV) (t : Nat) : (putO tm d v).get t = if d = some t ∧ t < tm.n then v else tm.get t := by
  cases d with
  | none => simp [putO]
  | some d =>
    simp only [putO, TM.get_put]
    by_cases h : t = d
    · subst h; simp
    · rw [if_neg (fun k => h k.1), if_neg (fun k => h (Option.some.inj k.1).symm)]

def Same (a b : TM) : Prop := a.n = b.n ∧ ∀ t, a.get t = b.get t
theorem Same.refl (a : TM) : Same a a := ⟨rfl, fun _ => rfl⟩
theorem Same.trans {a b c : TM} (h : Same a b) (k : Same b c) : Same a c := ⟨h.1.trans k.1, fun t => (h.2 t).trans (k.2 t)⟩
theorem Same.symm {a b : TM} (h : Same a b) : Same b a := ⟨h.1.symm, fun t => (h.2 t).symm⟩
theorem Same.put {a b : TM} (h : Same a b) (d : Option Tmp) (v : AV) : Same (putO a d v) (putO b d v) :=
  ⟨by simp [h.1], fun t => by rw [putO_get, putO_get, h.1, h.2 t]⟩
theorem RT.same {Γ : Ghost} {a b : TM} {vs : Array Value} (h : Same a b) (k : RT Γ a vs) : RT Γ b vs :=
  ⟨k.size.trans h.1, fun t => (h.2 t) ▸ k.get t⟩

theorem tmS_n {S : Nat → Bool} : ∀ (ds : List (Option Tmp × AV)) (i : Nat) (tm : TM), (tmS S ds i tm).n = tm.n
  | [], _, _ => rfl
  | p :: r, i, tm => by
    simp only [tmS]
    rw [tmS_n r (i + 1)]
    split
    · exact putO_n _ _ _
    · rfl
theorem tmS_same {S : Nat → Bool} : ∀ (ds : List (Option Tmp × AV)) (i : Nat) {a b : TM}, Same a b → Same (tmS S ds i a) (tmS S ds i b)
  | [], _, _, _, h => h
  | p :: r, i, a, b, h => by
    simp only [tmS]
    refine tmS_same r (i + 1) ?_
    split
    · exact h.put _ _
    · exact h

theorem tmS_at {S S' : Nat → Bool} {t : Nat} : ∀ (ds : List (Option Tmp × AV)) (i : Nat) (tm tm' : TM), tm.n = tm'.n → tm.get t = tm'.get t →
    (∀ k v, ds[k]? = some (some t, v) → S (i + k) = S' (i + k)) → (tmS S ds i tm).get t = (tmS S' ds i tm').get t
  | [], _, _, _, _, h, _ => h
  | (d, v) :: r, i, tm, tm', hn, h, hk => by
    simp only [tmS]
    refine tmS_at r (i + 1) _ _ ?_ ?_ fun k v hv => by
      have := hk (k + 1) v (by simpa using hv)
      have e1 : i + 1 + k = i + (k + 1) := by omega
      rw [e1]; exact this
    · split <;> split <;> simp [hn]
    · by_cases hd : d = some t
      · have := hk 0 v (by simp [hd])
        rw [Nat.add_zero] at this
        rw [this]
        split
        · rw [putO_get, putO_get, h, hn]
        · exact h
      · have hf : ∀ x : TM, (putO x d v).get t = x.get t := fun x => by rw [putO_get, if_neg (fun k => hd k.1)]
        split <;> split <;> (try rw [hf]) <;> (try rw [hf]) <;> exact h

theorem putO_comm (tm : TM) {d e : Option Tmp} (v u : AV) (h : ∀ t, d = some t → e ≠ some t) : Same (putO (putO tm d v) e u) (putO (putO tm e u) d v) := by
  refine ⟨by simp, fun t => ?_⟩
  rw [putO_get, putO_get, putO_get, putO_get]
  simp only [putO_n]
  by_cases h1 : d = some t
  · have h2 := h t h1
    rw [if_neg (fun k => h2 k.1)]
    by_cases h3 : t < tm.n
    · rw [if_pos ⟨h1, h3⟩, if_pos ⟨h1, h3⟩]
    · rw [if_neg (fun k => h3 k.2), if_neg (fun k => h3 k.2), if_neg (fun k => h3 k.2)]
  · have e1 : ∀ x y : AV, (if d = some t ∧ t < tm.n then x else y) = y := fun x y => if_neg (fun k => h1 k.1)
    rw [e1, e1]
theorem tmS_comm {S : Nat → Bool} {d : Option Tmp} {v : AV} : ∀ (ds : List (Option Tmp × AV)) (i : Nat) (tm : TM),
    (∀ m p, ds[m]? = some p → S (i + m) = true → ∀ t, d = some t → p.1 ≠ some t) → Same (tmS S ds i (putO tm d v)) (putO (tmS S ds i tm) d v)
  | [], _, _, _ => Same.refl _
  | p :: r, i, tm, h => by
    simp only [tmS]
    have hr : ∀ tm, Same (tmS S r (i + 1) (putO tm d v)) (putO (tmS S r (i + 1) tm) d v) := fun tm =>
      tmS_comm r (i + 1) tm fun m q hq hs => h (m + 1) q (by simpa using hq) (by rw [Nat.add_right_comm] at hs; exact hs)
    split
    · rename_i hs
      exact (tmS_same r (i + 1) (putO_comm tm v p.2 (h 0 p rfl (by simpa using hs)))).trans (hr _)
    · exact hr tm
theorem tmS_put {S : Nat → Bool} {j : Nat} {d : Option Tmp} {v : AV} (hj : S j = false) : ∀ (ds : List (Option Tmp × AV)) (i k : Nat) (tm : TM), i + k = j → ds[k]? = some (d, v) →
    (∀ m p, k < m → ds[m]? = some p → S (i + m) = true → ∀ t, d = some t → p.1 ≠ some t) → Same (tmS (fun m => m == j || S m) ds i tm) (putO (tmS S ds i tm) d v)
  | [], _, _, _, _, h, _ => by simp at h
  | p :: r, i, 0, tm, hi, h, hd => by
    simp only [List.getElem?_cons_zero, Option.some.injEq] at h
    subst h
    have hij : i = j := by omega
    subst hij
    simp only [tmS, BEq.rfl, Bool.true_or, if_true, hj, Bool.false_eq_true, if_false]
    rw [tmS_congr (S' := S) r (i + 1) _ fun m hm => by
      have : (m == i) = false := by simp; omega
      simp [this]]
    exact tmS_comm r (i + 1) tm fun m q hq hs => hd (m + 1) q (by omega) (by simpa using hq) (by rw [Nat.add_right_comm] at hs; exact hs)
  | p :: r, i, k + 1, tm, hi, h, hd => by
    simp only [tmS]
    have : (i == j) = false := by simp; omega
    simp only [this, Bool.false_or]
    exact tmS_put hj r (i + 1) k _ (by omega) (by simpa using h) fun m q hm hq hs => hd (m + 1) q (by omega) (by simpa using hq) (by rw [Nat.add_right_comm] at hs; exact hs)

theorem runOps_trace {E : Env} {call : Call1} {pre : Pre} {pol : Nat → Nat} {ops : Array Oper} : ∀ (r : List Oper) (i : Nat) (tm : TM) (st : St) {q : TM × St},
    runOps E call pre pol ops r i tm st = some q → ∃ l, runOpsT E call pre pol ops r i tm st = some (l, q)
  | [], _, _, _, _, h => by
    simp only [runOps, Option.some.injEq] at h
    subst h
    exact ⟨[], rfl⟩
  | o :: r, i, tm, st, q, h => by
    simp only [runOps] at h
    simp only [runOpsT]
    split at h
    · rename_i hw
      split at h
      · rename_i v st' hs
        obtain ⟨l, hl⟩ := runOps_trace r (i + 1) _ _ h
        simp only [hl]
        exact ⟨_, rfl⟩
      · cases h
    · rename_i hw
      obtain ⟨l, hl⟩ := runOps_trace r (i + 1) _ _ h
      simp only [hl]
      exact ⟨_, rfl⟩
    · cases h

structure TrOk (E : Env) (call : Call1) (pre : Pre) (pol : Nat → Nat) (ops : Array Oper) (ds : List (Option Tmp × AV)) (i : Nat) (tm : TM) (st : St) (l : List Tr) (k : Nat) (o : Oper) (e : Tr) : Prop where
  at_ : l[k]? = some e
  tm : e.tm = tmS (fun m => decide (m < i + k)) ds i tm
  was : e.was = stA st l k
  now : e.now = stA st l (k + 1)
  did : wantedA ops e.tm o = some e.did
  done : e.did = true → stepPre E call pre (pol (i + k)) (i + k) e.tm e.was o = some (e.v, e.now)
  not : e.did = false → e.v = .tup [] ∧ e.now = e.was

theorem TrOk.shift {E : Env} {call : Call1} {pre : Pre} {pol : Nat → Nat} {ops : Array Oper} {r : List Oper} {i : Nat} {tm : TM} {st : St} {l : List Tr} {o : Oper} {e : Tr}
    (h : ∀ k p, r[k]? = some p → ∃ q, TrOk E call pre pol ops (dsOf r l) (i + 1) (putO tm o.dst e.v) e.now l k p q) {k : Nat} {p : Oper} (hk : r[k]? = some p) :
    ∃ q, TrOk E call pre pol ops (dsOf (o :: r) (e :: l)) i tm st (e :: l) (k + 1) p q := by
  obtain ⟨q, h1, h2, h3, h4, h5, h6, h7⟩ := h k p hk
  have hik : i + 1 + k = i + (k + 1) := by omega
  refine ⟨q, by simpa using h1, ?_, h3, h4, h5, ?_, h7⟩
  · rw [h2, hik]
    show _ = tmS _ ((o.dst, e.v) :: dsOf r l) i tm
    simp only [tmS]
    have : decide (i < i + (k + 1)) = true := by simp
    rw [this]; rfl
  · rw [← hik]; exact h6

theorem runOpsT_ok {E : Env} {call : Call1} {pre : Pre} {pol : Nat → Nat} {ops : Array Oper} : ∀ (r : List Oper) (i : Nat) (tm : TM) (st : St) {l : List Tr} {q : TM × St},
    runOpsT E call pre pol ops r i tm st = some (l, q) →
      l.length = r.length ∧ q.1 = tmS (fun _ => true) (dsOf r l) i tm ∧ q.2 = stA st l l.length ∧ ∀ k o, r[k]? = some o → ∃ e, TrOk E call pre pol ops (dsOf r l) i tm st l k o e
  | [], i, tm, st, l, q, h => by
    simp only [runOpsT, Option.some.injEq, Prod.mk.injEq] at h
    obtain ⟨rfl, rfl⟩ := h
    exact ⟨rfl, rfl, rfl, fun k o hk => by simp at hk⟩
  | o :: r, i, tm, st, l, q, h => by
    have first : ∀ (e : Tr) (l : List Tr), e.tm = tm → e.tm = tmS (fun m => decide (m < i + 0)) (dsOf (o :: r) (e :: l)) i tm := fun e l he => by
      rw [he, tmS_none]
      intro m hm; simp; omega
    simp only [runOpsT] at h
    split at h
    · rename_i hw
      split at h
      · rename_i v st' hs
        split at h
        · rename_i l' q' hl
          simp only [Option.some.injEq, Prod.mk.injEq] at h
          obtain ⟨rfl, rfl⟩ := h
          obtain ⟨h1, h2, h3, h4⟩ := runOpsT_ok r (i + 1) _ _ hl
          refine ⟨by simp [h1], h2, h3, fun k p hk => ?_⟩
          cases k with
          | zero =>
            simp only [List.getElem?_cons_zero, Option.some.injEq] at hk
            subst hk
            exact ⟨⟨tm, st, st', v, true⟩, ⟨rfl, first _ _ rfl, rfl, (stA_zero _ _).symm, hw, fun _ => hs, fun hd => by cases hd⟩⟩
          | succ k => exact TrOk.shift (e := ⟨tm, st, st', v, true⟩) h4 (by simpa using hk)
        · cases h
      · cases h
    · rename_i hw
      split at h
      · rename_i l' q' hl
        simp only [Option.some.injEq, Prod.mk.injEq] at h
        obtain ⟨rfl, rfl⟩ := h
        obtain ⟨h1, h2, h3, h4⟩ := runOpsT_ok r (i + 1) _ _ hl
        refine ⟨by simp [h1], h2, h3, fun k p hk => ?_⟩
        cases k with
        | zero =>
          simp only [List.getElem?_cons_zero, Option.some.injEq] at hk
          subst hk
          exact ⟨⟨tm, st, st, .tup [], false⟩, ⟨rfl, first _ _ rfl, rfl, (stA_zero _ _).symm, hw, fun hd => (by cases hd), fun _ => ⟨rfl, rfl⟩⟩⟩
        | succ k => exact TrOk.shift (e := ⟨tm, st, st, .tup [], false⟩) h4 (by simpa using hk)
      · cases h
    · cases h

structure Facts (E : Env) (call : Call1) (base : Nat) (fl : Bool) (pol : Nat → Nat) (ops : Array Oper) (l : List Tr) (tm : TM) (st : St) : Prop where
  edges : ∀ (j : Nat) (o : Oper), ops[j]? = some o → ∀ e ∈ o.after, Region.binds .any e = true → e.on < j
  pairs : ∀ (i j : Nat) (p o : Oper), i < j → ops[i]? = some p → ops[j]? = some o → isBefore (Region.before ops) i j = true ∨
    ((∀ d, p.dst = some d → d ∉ namesOf ops o) ∧ (∀ d, o.dst = some d → d ∉ namesOf ops p) ∧ ¬ (turns fl o.op = true ∧ turns fl p.op = true))
  len : l.length = ops.size
  tr : ∀ (k : Nat) (o : Oper), ops[k]? = some o → ∃ e, TrOk E call (some (base, fl)) pol ops (dsOf ops.toList l) 0 tm st l k o e
  dyn : ∀ (i j : Nat) (o p : Oper) (e q : Tr), ops[i]? = some o → ops[j]? = some p → turns fl o.op = true → readsSt p.op = true → i ≠ j →
    ¬ (i < j ∧ isBefore (Region.before ops) i j = true) → ¬ (j < i ∧ isBefore (Region.before ops) j i = true) → l[i]? = some e → l[j]? = some q → e.did = true → q.did = true →
    quiet E q.tm e.was p = some q.v ∧ quiet E q.tm e.now p = some q.v

theorem drawStatic_spec {fl : Bool} {ops : Array Oper} (h : drawStatic fl ops = true) :
    (∀ (j : Nat) (o : Oper), ops[j]? = some o → ∀ e ∈ o.after, Region.binds .any e = true → e.on < j) ∧
    (∀ (i j : Nat) (p o : Oper), i < j → ops[i]? = some p → ops[j]? = some o → isBefore (Region.before ops) i j = true ∨
      ((∀ d, p.dst = some d → d ∉ namesOf ops o) ∧ (∀ d, o.dst = some d → d ∉ namesOf ops p) ∧ ¬ (turns fl o.op = true ∧ turns fl p.op = true))) := by
  have mem : ∀ (j : Nat) (o : Oper), ops[j]? = some o → (o, j) ∈ ops.toList.zipIdx := fun j o h => by
    rw [List.mem_zipIdx_iff_getElem?]; simpa using h
  simp only [drawStatic, Bool.and_eq_true, List.all_eq_true] at h
  obtain ⟨h1, h2⟩ := h
  refine ⟨fun j o hj e he hb => ?_, fun i j p o hij hi hj => ?_⟩
  · have := h1 (o, j) (mem j o hj)
    simp only [Array.all_eq_true_iff_forall_mem] at this
    have := this e he
    simpa [hb] using this
  · have := h2 (o, j) (mem j o hj) (p, i) (mem i p hi)
    simp only [Bool.or_eq_true, decide_eq_true_eq, Bool.and_eq_true, Bool.not_eq_true', Bool.and_eq_false_imp] at this
    rcases this with (h | h) | ⟨⟨h3, h4⟩, h5⟩
    · omega
    · exact .inl h
    · refine .inr ⟨fun d hd => ?_, fun d hd => ?_, fun ⟨x, y⟩ => ?_⟩
      · rw [hd] at h3
        simpa using h3
      · rw [hd] at h4
        simpa using h4
      · rw [h5 x] at y; cases y

theorem Facts.mk' {E : Env} {call : Call1} {base : Nat} {fl : Bool} {pol : Nat → Nat} {ops : Array Oper} {l : List Tr} {tm : TM} {st : St} {q : TM × St}
    (hs : drawStatic fl ops = true) (hr : runOpsT E call (some (base, fl)) pol ops ops.toList 0 tm st = some (l, q)) (hd : (dynPairs fl ops).all (dynOk E ops l) = true) : Facts E call base fl pol ops l tm st := by
  obtain ⟨h1, h2⟩ := drawStatic_spec hs
  obtain ⟨h3, _, _, h4⟩ := runOpsT_ok _ _ _ _ hr
  refine ⟨h1, h2, by simpa using h3, fun k o hk => h4 k o (by simpa using hk), ?_⟩
  intro i j o p e q hi hj ht hre hne hn1 hn2 he hq hed hqd
  have mem : ∀ (j : Nat) (o : Oper), ops[j]? = some o → (o, j) ∈ ops.toList.zipIdx := fun j o h => by
    rw [List.mem_zipIdx_iff_getElem?]; simpa using h
  have hm : (i, j) ∈ dynPairs fl ops := by
    simp only [dynPairs, List.mem_flatMap]
    refine ⟨(o, i), mem i o hi, ?_⟩
    simp only [ht, if_true, List.mem_filterMap]
    refine ⟨(p, j), mem j p hj, ?_⟩
    have c1 : (decide (i < j) && isBefore (Region.before ops) i j) = false := by
      rw [Bool.eq_false_iff]; intro h
      simp only [Bool.and_eq_true, decide_eq_true_eq] at h
      exact hn1 h
    have c2 : (decide (j < i) && isBefore (Region.before ops) j i) = false := by
      rw [Bool.eq_false_iff]; intro h
      simp only [Bool.and_eq_true, decide_eq_true_eq] at h
      exact hn2 h
    have c3 : (i != j) = true := by simpa using hne
    simp only [hre, c1, c2, c3]
    rfl
  have := List.all_eq_true.1 hd _ hm
  simp only [dynOk, he, hq, hj, hed, hqd, Bool.not_true, Bool.false_or] at this
  split at this
  · rename_i a b ha hb
    simp only [Bool.and_eq_true] at this
    rw [ha, hb, AV.eq_of_beq _ _ this.1, AV.eq_of_beq _ _ this.2]
    exact ⟨rfl, rfl⟩
  · cases this

def Made (E : Env) (b : Nat) (tm : TM) (o : Oper) (v : AV) : Prop :=
  match o.op with
  | .makeSlice t l c => makePre E b (isConstO l) t (evalO tm l) (evalO tm c) = some v
  | .makeMap t none => mapPre E b t = some v
  | _ => False
theorem stepPre_cases {E : Env} {call : Call1} {base : Nat} {fl : Bool} {pol i : Nat} {tm : TM} {st : St} {o : Oper} {r : AV × St} (h : stepPre E call (some (base, fl)) pol i tm st o = some r) :
    (∃ t, o.op = .alloc t ∧ r = (.ptr (base + i) 0 0, st)) ∨ (fl = true ∧ isMake o.op = true ∧ ∃ v, r = (v, st) ∧ Made E (base + i) tm o v) ∨
    ((∀ t, o.op ≠ .alloc t) ∧ ¬ (fl = true ∧ isMake o.op = true) ∧ stepOp E call pol tm st o = some r) := by
  unfold stepPre at h
  split at h
  · rename_i b f t h1 h2
    cases h1
    exact .inl ⟨t, h2, (Option.some.inj h).symm⟩
  · rename_i b t l c h1 h2
    cases h1
    obtain ⟨v, h3, h4⟩ := Option.map_eq_some_iff.1 h
    refine .inr (.inl ⟨rfl, by rw [h2]; rfl, v, h4.symm, ?_⟩)
    unfold Made
    rw [h2]; exact h3
  · rename_i b t h1 h2
    cases h1
    obtain ⟨v, h3, h4⟩ := Option.map_eq_some_iff.1 h
    refine .inr (.inl ⟨rfl, by rw [h2]; rfl, v, h4.symm, ?_⟩)
    unfold Made
    rw [h2]; exact h3
  · rename_i n1 n2 n3
    refine .inr (.inr ⟨fun t ht => n1 base fl t rfl ht, fun ⟨hf, hm⟩ => ?_, h⟩)
    subst hf
    unfold isMake at hm
    split at hm
    · rename_i t l c ht; exact n2 base t l c rfl ht
    · rename_i t ht; exact n3 base t rfl ht
    · cases hm
theorem turns_quiet {fl : Bool} {op : Op} (h : turns fl op = false) (h1 : ∀ t, op ≠ .alloc t) (h2 : ¬ (fl = true ∧ isMake op = true)) : isLoud op = false := by
  unfold turns at h
  split at h
  · exact absurd rfl (h1 _)
  · cases hl : isLoud op with
    | false => rfl
    | true =>
      rw [hl] at h
      simp only [Bool.true_and, Bool.not_eq_false', Bool.and_eq_true] at h
      exact absurd h h2
end Go.Abs

namespace Go.Abs
open Go.RowKit

section
variable {P : Program} {E : Env} {call : Call1} {base : Nat} {fl : Bool} {pol : Nat → Nat} {ops : Array Oper} {l : List Tr} {tm : TM} {st : St}

def Closed (ops : Array Oper) (S : Nat → Bool) : Prop := ∀ i j, S j = true → isBefore (Region.before ops) i j = true → S i = true

theorem ds_get {k : Nat} {p : Option Tmp × AV} (h : (dsOf ops.toList l)[k]? = some p) : ∃ o e, ops[k]? = some o ∧ l[k]? = some e ∧ p = (o.dst, e.v) := by
  unfold dsOf at h
  rw [List.getElem?_zipWith] at h
  cases h1 : ops.toList[k]? with
  | none => rw [h1] at h; simp at h
  | some o =>
    cases h2 : l[k]? with
    | none => rw [h1, h2] at h; simp at h
    | some e =>
      rw [h1, h2] at h
      simp only [Option.some.injEq] at h
      exact ⟨o, e, by simpa using h1, rfl, h.symm⟩
theorem ds_of {k : Nat} {o : Oper} {e : Tr} (h1 : ops[k]? = some o) (h2 : l[k]? = some e) : (dsOf ops.toList l)[k]? = some (o.dst, e.v) := by
  unfold dsOf
  rw [List.getElem?_zipWith]
  have : ops.toList[k]? = some o := by simpa using h1
  rw [this, h2]

theorem before_in {S : Nat → Bool} (F : Facts E call base fl pol ops l tm st) (hc : Closed ops S) {j : Nat} {o : Oper} (hj : ops[j]? = some o) (hr : ∀ e ∈ o.after, Region.binds .any e = true → S e.on = true) :
    ∀ i, isBefore (Region.before ops) i j = true → S i = true := by
  intro i hi
  obtain ⟨e, he, hb, h⟩ := isBefore_edge hj (F.edges j o hj) hi
  have := hr e he hb
  rcases h with rfl | h
  · exact this
  · exact hc i e.on this h

theorem Closed.add {S : Nat → Bool} (F : Facts E call base fl pol ops l tm st) (hc : Closed ops S) {j : Nat} {o : Oper} (hj : ops[j]? = some o) (hr : ∀ e ∈ o.after, Region.binds .any e = true → S e.on = true) :
    Closed ops (fun m => m == j || S m) := by
  intro i k hk hb
  simp only [Bool.or_eq_true, beq_iff_eq] at hk ⊢
  rcases hk with rfl | hk
  · exact .inr (before_in F hc hj hr i hb)
  · exact .inr (hc i k hk hb)

theorem names_same {S : Nat → Bool} (F : Facts E call base fl pol ops l tm st) (hc : Closed ops S) {j : Nat} {o : Oper} {e : Tr} (hj : ops[j]? = some o) (hSj : S j = false)
    (hr : ∀ e ∈ o.after, Region.binds .any e = true → S e.on = true) (he : TrOk E call (some (base, fl)) pol ops (dsOf ops.toList l) 0 tm st l j o e) :
    ∀ t ∈ namesOf ops o, (tmS S (dsOf ops.toList l) 0 tm).get t = e.tm.get t := by
  intro t ht
  rw [he.tm]
  refine tmS_at _ 0 tm tm rfl rfl fun k v hk => ?_
  obtain ⟨p, q, hp, hq, heq⟩ := ds_get hk
  have hd : p.dst = some t := (congrArg Prod.fst heq).symm
  rw [Nat.zero_add, Nat.zero_add]
  rcases Nat.lt_trichotomy k j with h | h | h
  · rcases F.pairs k j p o h hp hj with hb | ⟨hb, _, _⟩
    · rw [before_in F hc hj hr k hb]; simp [h]
    · exact absurd ht (hb t hd)
  · subst h; rw [hSj]; simp
  · have hS : S k = false := by
      rcases F.pairs j k o p h hj hp with hb | ⟨_, hb, _⟩
      · cases hk : S k with
        | false => rfl
        | true => rw [hc j k hk hb] at hSj; cases hSj
      · exact absurd ht (hb t hd)
    rw [hS]
    have : ¬ k < j := by omega
    simp [this]

theorem put_same {S : Nat → Bool} (F : Facts E call base fl pol ops l tm st) (hc : Closed ops S) {j : Nat} {o : Oper} {e : Tr} (hj : ops[j]? = some o) (hSj : S j = false) (he : l[j]? = some e) :
    Same (tmS (fun m => m == j || S m) (dsOf ops.toList l) 0 tm) (putO (tmS S (dsOf ops.toList l) 0 tm) o.dst e.v) := by
  refine tmS_put hSj _ 0 j tm (Nat.zero_add j) (ds_of hj he) ?_
  intro m p hm hp hS t hd hpd
  obtain ⟨o', e', h1, h2, rfl⟩ := ds_get hp
  dsimp only at hpd
  rw [Nat.zero_add] at hS
  rcases F.pairs j m o o' hm hj h1 with hb | ⟨hb, _, _⟩
  · rw [hc j m hS hb] at hSj; cases hSj
  · exact absurd (by rw [namesOf, hpd]; simp) (hb t hd)

theorem quiet_state {k : Nat} {o : Oper} {e : Tr} (he : TrOk E call (some (base, fl)) pol ops (dsOf ops.toList l) 0 tm st l k o e) (ht : turns fl o.op = false ∨ e.did = false) : e.now = e.was := by
  cases hd : e.did with
  | false => exact (he.not hd).2
  | true =>
    rcases ht with ht | ht
    · rcases stepPre_cases (he.done hd) with ⟨t, _, h⟩ | ⟨_, _, v, h, _⟩ | ⟨n1, n2, h⟩
      · exact congrArg Prod.snd h
      · exact congrArg Prod.snd h
      · have hl := turns_quiet ht n1 n2
        unfold stepOp at h
        rw [hl] at h
        simp only [Bool.false_eq_true, if_false, Option.map_eq_some_iff, Prod.mk.injEq] at h
        obtain ⟨_, _, _, h⟩ := h
        exact h.symm
    · rw [hd] at ht; cases ht

theorem state_step (F : Facts E call base fl pol ops l tm st) {k : Nat} {o : Oper} (hk : ops[k]? = some o) (ht : turns fl o.op = false) : stA st l (k + 1) = stA st l k := by
  obtain ⟨e, he⟩ := F.tr k o hk
  rw [← he.now, ← he.was]
  exact quiet_state he (.inl ht)
theorem state_same (F : Facts E call base fl pol ops l tm st) {a : Nat} : ∀ (n : Nat), a + n ≤ ops.size → (∀ i o, a ≤ i → i < a + n → ops[i]? = some o → turns fl o.op = false) → stA st l (a + n) = stA st l a
  | 0, _, _ => rfl
  | n + 1, hn, h => by
    rw [← Nat.add_assoc, state_step F (Array.getElem?_eq_getElem (by omega : a + n < ops.size)) (h (a + n) _ (by omega) (by omega) (Array.getElem?_eq_getElem (by omega)))]
    exact state_same F n (by omega) fun i o h1 h2 => h i o h1 (by omega)

def UpTo (fl : Bool) (ops : Array Oper) (S : Nat → Bool) (k : Nat) : Prop := k ≤ ops.size ∧ ∀ i o, ops[i]? = some o → turns fl o.op = true → (S i = true ↔ i < k)

theorem turn_state {S : Nat → Bool} (F : Facts E call base fl pol ops l tm st) (hc : Closed ops S) {k : Nat} (hk : UpTo fl ops S k) {j : Nat} {o : Oper} (hj : ops[j]? = some o) (hSj : S j = false)
    (hr : ∀ e ∈ o.after, Region.binds .any e = true → S e.on = true) (ht : turns fl o.op = true) : stA st l k = stA st l j ∧ UpTo fl ops (fun m => m == j || S m) (j + 1) := by
  have hlt : j < ops.size := (Array.getElem?_eq_some_iff.1 hj).1
  have hkj : k ≤ j := by
    have := (hk.2 j o hj ht)
    rcases Nat.lt_or_ge j k with h | h
    · rw [this.2 h] at hSj; cases hSj
    · exact h
  have hno : ∀ i p, k ≤ i → i < j → ops[i]? = some p → turns fl p.op = false := by
    intro i p h1 h2 hp
    cases htp : turns fl p.op with
    | false => rfl
    | true =>
      have hS : S i = true := by
        rcases F.pairs i j p o h2 hp hj with hb | ⟨_, _, hb⟩
        · exact before_in F hc hj hr i hb
        · exact absurd ⟨ht, htp⟩ hb
      have := (hk.2 i p hp htp).1 hS
      omega
  refine ⟨?_, by omega, fun i p hp htp => ?_⟩
  · have := state_same F (a := k) (j - k) (by omega) fun i p h1 h2 hp => hno i p h1 (by omega) hp
    rw [Nat.add_sub_cancel' hkj] at this
    exact this.symm
  · simp only [Bool.or_eq_true, beq_iff_eq]
    rcases Nat.lt_trichotomy i j with h | h | h
    · have : i < k := by
        rcases Nat.lt_or_ge i k with h' | h'
        · exact h'
        · rw [hno i p h' h hp] at htp; cases htp
      constructor
      · intro _; omega
      · intro _; exact .inr ((hk.2 i p hp htp).2 this)
    · subst h; simp
    · have hS := hk.2 i p hp htp
      constructor
      · rintro (h' | h')
        · omega
        · have := hS.1 h'; omega
      · intro h'; omega

theorem UpTo.add {S : Nat → Bool} {k j : Nat} (hk : UpTo fl ops S k) {o : Oper} (hj : ops[j]? = some o) (ht : turns fl o.op = false) : UpTo fl ops (fun m => m == j || S m) k := by
  refine ⟨hk.1, fun i p hp htp => ?_⟩
  simp only [Bool.or_eq_true, beq_iff_eq]
  have := hk.2 i p hp htp
  constructor
  · rintro (rfl | h)
    · rw [hj] at hp; cases hp; rw [ht] at htp; cases htp
    · exact this.1 h
  · exact fun h => .inr (this.2 h)

theorem quiet_same {S : Nat → Bool} (F : Facts E call base fl pol ops l tm st) (hc : Closed ops S) {k : Nat} (hk : UpTo fl ops S k) {j : Nat} {o : Oper} {q : Tr} (hj : ops[j]? = some o) (hSj : S j = false)
    (hr : ∀ e ∈ o.after, Region.binds .any e = true → S e.on = true) (hl : isLoud o.op = false) (he : TrOk E call (some (base, fl)) pol ops (dsOf ops.toList l) 0 tm st l j o q) (hd : q.did = true) :
    quiet E q.tm (stA st l k) o = some q.v := by
  have hlt : j < ops.size := (Array.getElem?_eq_some_iff.1 hj).1
  have hown : quiet E q.tm (stA st l j) o = some q.v := by
    rcases stepPre_cases (he.done hd) with ⟨t, h2, _⟩ | ⟨_, h2, _⟩ | ⟨_, _, h⟩
    · rw [h2] at hl; simp [isLoud] at hl
    · cases hop : o.op <;> rw [hop] at hl h2 <;> first | (simp [isLoud] at hl; done) | (simp [isMake] at h2; done)
    · unfold stepOp at h
      rw [hl] at h
      simp only [Bool.false_eq_true, if_false, Option.map_eq_some_iff, Prod.mk.injEq] at h
      obtain ⟨v, h1, rfl, _⟩ := h
      rw [← he.was]; exact h1
  cases hre : readsSt o.op with
  | false => rw [quiet_any hre]; exact hown
  | true =>
    have hjt : turns fl o.op = false := by
      unfold turns
      split
      · rfl
      · rw [hl]; rfl
    -- downwards from j
    have down : ∀ (n : Nat) (a : Nat), a + n = j → k ≤ a → quiet E q.tm (stA st l a) o = some q.v := by
      intro n
      induction n with
      | zero => intro a ha _; rw [show a = j by omega]; exact hown
      | succ n ih =>
        intro a ha hka
        have hal : a < ops.size := by omega
        obtain ⟨p, hp⟩ : ∃ p, ops[a]? = some p := ⟨_, Array.getElem?_eq_getElem hal⟩
        obtain ⟨e, hte⟩ := F.tr a p hp
        have hnext := ih (a + 1) (by omega) (by omega)
        cases htp : turns fl p.op with
        | false => rw [← state_step F hp htp]; exact hnext
        | true =>
          cases hed : e.did with
          | false =>
            have := quiet_state hte (.inr hed)
            rw [hte.now, hte.was] at this
            rw [← this]; exact hnext
          | true =>
            have := (F.dyn a j p o e q hp hj htp hre (by omega) (fun ⟨_, hb⟩ => by
              have := before_in F hc hj hr a hb
              have := (hk.2 a p hp htp).1 this
              omega) (fun ⟨h, _⟩ => by omega) hte.at_ he.at_ hed hd).1
            rw [hte.was] at this; exact this
    have up : ∀ (n : Nat), j + n ≤ k → quiet E q.tm (stA st l (j + n)) o = some q.v := by
      intro n
      induction n with
      | zero => intro _; exact hown
      | succ n ih =>
        intro hn
        have hal : j + n < ops.size := by have := hk.1; omega
        obtain ⟨p, hp⟩ : ∃ p, ops[j + n]? = some p := ⟨_, Array.getElem?_eq_getElem hal⟩
        obtain ⟨e, hte⟩ := F.tr (j + n) p hp
        have hprev := ih (by omega)
        rw [← Nat.add_assoc]
        cases htp : turns fl p.op with
        | false => rw [state_step F hp htp]; exact hprev
        | true =>
          cases hed : e.did with
          | false =>
            have := quiet_state hte (.inr hed)
            rw [hte.now, hte.was] at this
            rw [this]; exact hprev
          | true =>
            have hnj : j + n ≠ j := by
              intro h
              rw [h] at hp; rw [hj] at hp; cases hp
              rw [hjt] at htp; cases htp
            have hS := (hk.2 _ p hp htp).2 (by omega)
            have := (F.dyn (j + n) j p o e q hp hj htp hre hnj (fun ⟨h, _⟩ => by omega) (fun ⟨_, hb⟩ => by
              have := hc j (j + n) hS hb
              rw [hSj] at this; cases this) hte.at_ he.at_ hed hd).2
            rw [hte.now] at this; exact this
    rcases Nat.le_total k j with h | h
    · exact down (j - k) k (by omega) (Nat.le_refl _)
    · have := up (k - j) (by omega)
      rw [Nat.add_sub_cancel' h] at this; exact this
end
end Go.Abs
