/- Own text of this claim: part 2 of an interpreter that is proved sound against the model, and of what it shows of the law. -/
import Derived.Laws.Tables
import Derived.Laws.Append
import Derived.Laws.MakeOwn
import Derived.Laws.StructEq
import Derived.Laws.Slices
import Derived.Test.YthomnnnhkfjbdaaGreatAbs1
namespace Go.Abs
open Go.RowKit
section
variable {B : Nat} {w0 w w' : World} {Γ : Ghost} {st : St}
theorem Inv.dropObj (h : Inv B w0 Γ st w) {b : Nat} {x : Nat × Nat × Nat × Nat} (hb : Γ.obj b = some x) : Out B w0 Γ st Γ (st.drop b) w := by
 have hlt : b < st.next := by
  rcases Nat.lt_or_ge b st.next with k | k
  ·exact k
  ·rw [(h.fresh b k).1] at hb; cases hb
 have hsub : ∀ j blk, OwnB Γ (st.drop b) j blk -> OwnB Γ st j blk := by
  intro j blk ho
  rcases ho with ⟨sz, xs, bs, sz', tot1, k1, k2⟩ | ⟨kt, et, es, k1, k2⟩ | ⟨k1, k2⟩
  ·rw [St.get_drop] at k1; split at k1
   ·cases k1
   ·exact .inl ⟨sz, xs, bs, sz', tot1, k1, k2⟩
  ·rw [St.get_drop] at k1; split at k1
   ·cases k1
   ·exact .inr (.inl ⟨kt, et, es, k1, k2⟩)
  ·exact .inr (.inr ⟨k1, k2⟩)
 refine ⟨Ghost.Le.refl Γ, ⟨h.below, h.base, h.inert, fun j hj => ?_, ?_, ?_, h.toks, fun i j blk o1 o2 => h.uniq i j blk (hsub i blk o1) (hsub j blk o2), fun i blk o => h.above i blk (hsub i blk o), ?_, h.ety, h.tys, h.ttys, h.old⟩, Nat.le_refl _, fun j hj h1 h2 => ⟨h1, h2, ?_⟩⟩
 ·obtain ⟨h1, h2, h3, h4, h5⟩ := h.fresh j hj
  refine ⟨h1, h2, h3, ?_, h5⟩
  rw [St.get_drop]; split
  ·rfl
  ·exact h4
 ·intro j sz xs blk bs sz' tot k1 k2
  rw [St.get_drop] at k1; split at k1
  ·cases k1
  ·exact h.rows j sz xs blk bs sz' tot k1 k2
 ·intro j kt et es blk k1 k2
  rw [St.get_drop] at k1; split at k1
  ·cases k1
  ·exact h.maps j kt et es blk k1 k2
 ·intro j k
  rw [St.get_drop]; split
  ·rfl
  ·exact h.disj j k
 ·rw [St.get_drop, if_neg]
  rintro rfl; rw [hb] at h1; cases h1
theorem Inv.dropTok (h : Inv B w0 Γ st w) (t : Nat) : Out B w0 Γ st Γ (st.dropTok t) w := by
 have ha : ∀ j, (st.dropTok t).alive j = true -> st.alive j = true := by
  intro j k; rw [St.alive_dropTok] at k; split at k
  ·cases k
  ·exact k
 have hsub : ∀ j blk, OwnB Γ (st.dropTok t) j blk -> OwnB Γ st j blk := by
  intro j blk ho
  rcases ho with ho | ho | ⟨k1, k2⟩
  ·exact .inl ho
  ·exact .inr (.inl ho)
  ·exact .inr (.inr ⟨ha j k1, k2⟩)
 refine ⟨Ghost.Le.refl Γ, ⟨h.below, h.base, h.inert, fun j hj => ?_, h.rows, h.maps, fun j blk e tot k1 k2 => h.toks j blk e tot (ha j k1) k2, fun i j blk o1 o2 => h.uniq i j blk (hsub i blk o1) (hsub j blk o2), fun i blk o => h.above i blk (hsub i blk o), fun j k => h.disj j (ha j k), h.ety, h.tys, h.ttys, h.old⟩, Nat.le_refl _, fun j hj h1 h2 => ⟨h1, h2, rfl⟩⟩
 obtain ⟨h1, h2, h3, h4, h5⟩ := h.fresh j hj
 refine ⟨h1, h2, h3, h4, ?_⟩
 rw [St.alive_dropTok]; split
 ·rfl
 ·exact h5
theorem Inv.tokSame (h : Inv B w0 Γ st w) {t : Nat} (ha : st.alive t = true) :
  Out B w0 Γ st (Γ.addTk st.next (Γ.tk t)) (st.dropTok t).newTok w := by
 have hne : t ≠ st.next := by rintro rfl; rw [h.noAlive] at ha; cases ha
 have hle : Γ.Le (Γ.addTk st.next (Γ.tk t)) := Ghost.le_addTk h.noTk
 have hal : ∀ j, ((st.dropTok t).newTok).alive j = (decide (st.next = j) || (if t = j then false else st.alive j)) := by
  intro j; rw [St.alive_newTok, St.alive_dropTok]; rfl
 -- j's share is that of its elder
 have hsub : ∀ j blk, OwnB (Γ.addTk st.next (Γ.tk t)) (st.dropTok t).newTok j blk -> OwnB Γ st (if j = st.next then t else j) blk /\ (j ≠ st.next -> (st.get j ≠ none \/ j ≠ t)) := by
  intro j blk ho
  rcases ho with ⟨sz, xs, bs, sz', tot1, k1, k2⟩ | ⟨kt, et, es, k1, k2⟩ | ⟨k1, k2⟩
  ·have hj : j ≠ st.next := by rintro rfl; rw [St.get_newTok, St.get_dropTok, h.noGet] at k1; cases k1
   rw [if_neg hj]
   exact ⟨.inl ⟨sz, xs, bs, sz', tot1, k1, k2⟩, fun _ => .inl (by intro e; rw [St.get_newTok, St.get_dropTok, e] at k1; cases k1)⟩
  ·have hj : j ≠ st.next := by rintro rfl; rw [St.get_newTok, St.get_dropTok, h.noGet] at k1; cases k1
   rw [if_neg hj]
   exact ⟨.inr (.inl ⟨kt, et, es, k1, k2⟩), fun _ => .inl (by intro e; rw [St.get_newTok, St.get_dropTok, e] at k1; cases k1)⟩
  ·by_cases hj : j = st.next
   ·rw [if_pos hj]
    refine ⟨.inr (.inr ⟨ha, ?_⟩), fun k => absurd hj k⟩
    simpa only [Ghost.addTk, hj, if_pos] using k2
   ·rw [if_neg hj]
    rw [hal] at k1
    have hjt : t ≠ j := by rintro rfl; simp [Ne.symm hj] at k1
    simp [Ne.symm hj, hjt] at k1
    refine ⟨.inr (.inr ⟨k1, ?_⟩), fun _ => .inr hjt.symm⟩
    simpa only [Ghost.addTk, hj, if_false] using k2
 refine ⟨hle, ⟨h.below, h.base, h.inert, fun j hj => ?_, ?_, ?_, ?_, ?_, ?_, ?_, h.ety, fun j T k => (h.tys j T k).mono hle, fun j T k => (h.ttys j T k).mono hle, h.old⟩, by simp, fun j hj h1 h2 => ⟨h1, h2, rfl⟩⟩
 ·simp only [St.next_newTok, St.next_dropTok] at hj
  obtain ⟨h1, h2, h3, h4, h5⟩ := h.fresh j (by omega)
  refine ⟨h1, h2, ?_, h4, ?_⟩
  ·simp only [Ghost.addTk]; rw [if_neg (by omega)]; exact h3
  ·rw [hal, h5]
   have : ¬ st.next = j := by omega
   simp [this]
 ·intro j sz xs blk bs sz' tot k1 k2
  obtain ⟨r1, r2, r3, r4⟩ := h.rows j sz xs blk bs sz' tot k1 k2
  refine ⟨r1, r2, r3, fun ht => ?_⟩
  obtain ⟨⟨c, T, hc, hs, hre⟩, hno⟩ := r4 ht
  exact ⟨⟨c, T, hc, hs, RE.mono hle xs _ _ _ _ (fun _ _ x => x) hre⟩, hno⟩
 ·intro j kt et es blk k1 hb
  obtain ⟨en, clock, hc, hs, hre⟩ := h.maps j kt et es blk k1 hb
  refine ⟨en, clock, hc, hs, fun i' k v hi' => ?_⟩
  obtain ⟨e, he, r1, r2, r3⟩ := hre i' k v hi'
  exact ⟨e, he, r1.mono hle, r2.mono hle, r3⟩
 ·intro j blk e tot k1 k2
  by_cases hj : j = st.next
  ·have k2' : Γ.tk t = some (blk, e, tot) := by simpa only [Ghost.addTk, hj, if_pos] using k2
   exact h.toks t blk e tot ha k2'
  ·rw [hal] at k1
   have hjt : t ≠ j := by rintro rfl; simp [Ne.symm hj] at k1
   simp [Ne.symm hj, hjt] at k1
   have k2' : Γ.tk j = some (blk, e, tot) := by simpa only [Ghost.addTk, hj, if_false] using k2
   exact h.toks j blk e tot k1 k2'
 ·intro i j blk o1 o2
  obtain ⟨p1, q1⟩ := hsub i blk o1
  obtain ⟨p2, q2⟩ := hsub j blk o2
  have := h.uniq _ _ blk p1 p2
  by_cases hi : i = st.next <;> by_cases hj : j = st.next
  ·rw [hi, hj]
  ·rw [if_pos hi, if_neg hj] at this
   subst this
   rcases q2 hj with q | q
   ·rw [h.disj _ ha] at q; exact absurd rfl q
   ·exact absurd rfl q
  ·rw [if_neg hi, if_pos hj] at this
   subst this
   rcases q1 hi with q | q
   ·rw [h.disj _ ha] at q; exact absurd rfl q
   ·exact absurd rfl q
  ·rw [if_neg hi, if_neg hj] at this; exact this
 ·intro i blk o
  exact h.above _ blk (hsub i blk o).1
 ·intro j k
  rw [St.get_newTok, St.get_dropTok]
  rw [hal] at k
  by_cases hj : st.next = j
  ·subst hj; exact h.noGet
  ·by_cases hjt : t = j
   ·subst hjt; simp [hj] at k
   ·simp [hj, hjt] at k; exact h.disj j k
theorem Inv.rowPut (h : Inv B w0 Γ st w) {b sz blk bs tot : Nat} {xs xs' : List AV} (hg : st.get b = some (.row sz xs)) (hb : Γ.obj b = some (blk, bs, sz, tot)) (ht : 0 < tot)
  (tw : Touch w w' blk) {c : Array Value} {T : TypeId} (hc : w'.heap[blk]? = some (.cells c T (0, 0))) (hs : bs + tot * sz <= c.size) (hlen : xs'.length <= tot)
  (hre : RE Γ xs' (fun k => c[k]?) bs sz) (hty : ∀ T', TyAt w blk T' -> TyAt w' blk T') : Out B w0 Γ st Γ (st.put b (.row sz xs')) w' := by
 obtain ⟨_, hsz, _, hmem⟩ := h.rows b sz xs blk bs sz tot hg hb
 have hno := (hmem ht).2
 have hne : b ≠ st.next := by rintro rfl; rw [h.noGet] at hg; cases hg
 have hna : st.alive b = false := by
  cases ha : st.alive b with
  | false => rfl
  | true => rw [h.disj b ha] at hg; cases hg
 refine ⟨Ghost.Le.refl Γ, ?_, Nat.le_refl _, fun j hj h1 h2 => ⟨h1, h2, ?_⟩⟩
 ·refine h.change b blk (Ghost.Le.refl Γ) (.inr (.inl ⟨sz, xs, bs, sz, tot, hg, hb, ht⟩)) tw.other tw.size tw.os tw.tape tw.out ?_ ?_ ?_ ?_ ?_ ?_ ?_ ?_ (.inl hne) (.inr hty)
  ·intro b' o v k
   by_cases e : b' = blk
   ·subst e; rw [hno o] at k; cases k
   ·exact .inr ⟨e, k⟩
  ·intro j hj
   rw [St.next_put] at hj
   obtain ⟨h1, h2, h3, h4, h5⟩ := h.fresh j hj
   refine ⟨h1, h2, h3, ?_, h5⟩
   rw [St.get_put, if_neg]
   ·exact h4
   ·rintro rfl; rw [h4] at hg; cases hg
  ·intro j h1 h2
   exact ⟨.inl (by rw [St.get_put, if_neg (Ne.symm h1)]), .inl rfl, rfl, rfl, rfl⟩
  ·rintro j hj sz1 xs1 b1 bs1 sz' tot1 k1 k2
   rcases hj with rfl | rfl
   ·rw [St.get_put, if_pos rfl] at k1
    cases k1
    rw [hb] at k2; cases k2
    exact ⟨⟨rfl, hsz, hlen, fun _ => ⟨⟨c, T, hc, hs, hre⟩, hno⟩⟩, fun _ => rfl⟩
   ·rw [St.get_put, if_neg hne, h.noGet] at k1; cases k1
  ·rintro j hj kt et es k1
   rcases hj with rfl | rfl
   ·rw [St.get_put, if_pos rfl] at k1; cases k1
   ·rw [St.get_put, if_neg hne, h.noGet] at k1; cases k1
  ·rintro j hj b1 e tot1 k1 k2
   rw [St.alive_put] at k1
   rcases hj with rfl | rfl
   ·rw [hna] at k1; cases k1
   ·rw [h.noAlive] at k1; cases k1
  ·rintro j hj k
   rw [St.alive_put] at k
   rcases hj with rfl | rfl
   ·rw [hna] at k; cases k
   ·rw [h.noAlive] at k; cases k
  ·intro b1 _ o2
   rcases o2 with ⟨sz1, xs1, bs1, sz', tot1, k1, _⟩ | ⟨kt, et, es, k1, _⟩ | ⟨k1, _⟩
   ·rw [St.get_put, if_neg hne, h.noGet] at k1; cases k1
   ·rw [St.get_put, if_neg hne, h.noGet] at k1; cases k1
   ·rw [St.alive_put, h.noAlive] at k1; cases k1
 ·rw [St.get_put, if_neg]
  rintro rfl; rw [hb] at h1; cases h1
theorem Inv.rowOn (h : Inv B w0 Γ st w) {b sz blk bs tot bs' tot' : Nat} {xs xs' : List AV} (hg : st.get b = some (.row sz xs)) (hb : Γ.obj b = some (blk, bs, sz, tot)) (ht : 0 < tot)
  (tw : Touch w w' blk) {c : Array Value} {T : TypeId} (hc : w'.heap[blk]? = some (.cells c T (0, 0))) (hs : bs' + tot' * sz <= c.size) (hlen : xs'.length <= tot')
  (hre : RE Γ xs' (fun k => c[k]?) bs' sz) (hty : ∀ T', TyAt w blk T' -> TyAt w' blk T') : Out B w0 Γ st (Γ.addObj st.next (blk, bs', sz, tot')) ((st.drop b).new (.row sz xs')) w' := by
 obtain ⟨_, hsz, _, hmem⟩ := h.rows b sz xs blk bs sz tot hg hb
 have hno := (hmem ht).2
 have hne : b ≠ st.next := by rintro rfl; rw [h.noGet] at hg; cases hg
 have hna : st.alive b = false := by
  cases ha : st.alive b with
  | false => rfl
  | true => rw [h.disj b ha] at hg; cases hg
 have hle : Γ.Le (Γ.addObj st.next (blk, bs', sz, tot')) := Ghost.le_addObj h.noObj
 have hget : ∀ j, ((st.drop b).new (.row sz xs')).get j = if st.next = j then some (.row sz xs') else if b = j then none else st.get j := by
  intro j; rw [St.get_new, St.next_drop, St.get_drop]
 refine ⟨hle, ?_, by simp, fun j hj h1 h2 => ⟨?_, h2, ?_⟩⟩
 ·refine h.change b blk hle (.inr (.inl ⟨sz, xs, bs, sz, tot, hg, hb, ht⟩)) tw.other tw.size tw.os tw.tape tw.out ?_ ?_ ?_ ?_ ?_ ?_ ?_ ?_ (.inl hne) (.inr hty)
  ·intro b' o v k
   have k' : Γ.inert b' o = some v := k
   by_cases e : b' = blk
   ·subst e; rw [hno o] at k'; cases k'
   ·exact .inr ⟨e, k'⟩
  ·intro j hj
   simp only [St.next_new, St.next_drop] at hj
   obtain ⟨h1, h2, h3, h4, h5⟩ := h.fresh j (by omega)
   refine ⟨?_, h2, h3, ?_, h5⟩
   ·simp only [Ghost.addObj]; rw [if_neg (by omega)]; exact h1
   ·rw [hget, if_neg (by omega)]; split
    ·rfl
    ·exact h4
  ·intro j h1 h2
   refine ⟨.inl (by rw [hget, if_neg (Ne.symm h2), if_neg (Ne.symm h1)]), .inl rfl, ?_, rfl, rfl⟩
   simp only [Ghost.addObj]; rw [if_neg h2]
  ·rintro j hj sz1 xs1 b1 bs1 sz' tot1 k1 k2
   rcases hj with rfl | rfl
   ·rw [hget, if_neg (Ne.symm hne), if_pos rfl] at k1; cases k1
   ·rw [hget, if_pos rfl] at k1
    cases k1
    simp only [Ghost.addObj, if_pos] at k2; cases k2
    exact ⟨⟨rfl, hsz, hlen, fun _ => ⟨⟨c, T, hc, hs, RE.mono hle xs' _ _ _ _ (fun _ _ x => x) hre⟩, hno⟩⟩, fun _ => rfl⟩
  ·rintro j hj kt et es k1
   rcases hj with rfl | rfl
   ·rw [hget, if_neg (Ne.symm hne), if_pos rfl] at k1; cases k1
   ·rw [hget, if_pos rfl] at k1; cases k1
  ·rintro j hj b1 e tot1 k1 k2
   have k1' : st.alive j = true := k1
   rcases hj with rfl | rfl
   ·rw [hna] at k1'; cases k1'
   ·rw [h.noAlive] at k1'; cases k1'
  ·rintro j hj k
   have k' : st.alive j = true := k
   rcases hj with rfl | rfl
   ·rw [hna] at k'; cases k'
   ·rw [h.noAlive] at k'; cases k'
  ·intro b1 o1 _
   rcases o1 with ⟨sz1, xs1, bs1, sz', tot1, k1, _⟩ | ⟨kt, et, es, k1, _⟩ | ⟨k1, _⟩
   ·rw [hget, if_neg (Ne.symm hne), if_pos rfl] at k1; cases k1
   ·rw [hget, if_neg (Ne.symm hne), if_pos rfl] at k1; cases k1
   ·have k' : st.alive b = true := k1
    rw [hna] at k'; cases k'
 ·simp only [Ghost.addObj]; rw [if_neg (by omega)]; exact h1
 ·rw [hget, if_neg (by omega), if_neg]
  rintro rfl; rw [hb] at h1; cases h1
theorem Inv.freezeTok (h : Inv B w0 Γ st w) {b sz blk bs tot : Nat} {xs : List AV} (hg : st.get b = some (.row sz xs)) (hb : Γ.obj b = some (blk, bs, sz, tot)) (ht : 0 < tot)
  {c : Array Value} {T : TypeId} (hc : w.heap[blk]? = some (.cells c T (0, 0))) :
  Out B w0 Γ st ((Γ.addInert blk (fun o => if o < bs + xs.length * sz then c[o]? else none)).addTk st.next (some (blk, bs + xs.length * sz, bs + tot * sz))) (st.drop b).newTok w := by
 obtain ⟨_, hsz, hlen, hmem⟩ := h.rows b sz xs blk bs sz tot hg hb
 obtain ⟨⟨c1, T1, hc1, hs1, _⟩, hno⟩ := hmem ht
 rw [hc] at hc1; cases hc1
 have hne : b ≠ st.next := by rintro rfl; rw [h.noGet] at hg; cases hg
 have hna : st.alive b = false := by
  cases ha : st.alive b with
  | false => rfl
  | true => rw [h.disj b ha] at hg; cases hg
 have hle : Γ.Le ((Γ.addInert blk (fun o => if o < bs + xs.length * sz then c[o]? else none)).addTk st.next (some (blk, bs + xs.length * sz, bs + tot * sz))) :=
  (Ghost.le_addInert (fun o v k => by rw [hno o] at k; cases k)).trans (Ghost.le_addTk h.noTk)
 have hal : ∀ j, ((st.drop b).newTok).alive j = (decide (st.next = j) || st.alive j) := by intro j; rw [St.alive_newTok]; rfl
 have hget : ∀ j, ((st.drop b).newTok).get j = if b = j then none else st.get j := by intro j; rw [St.get_newTok, St.get_drop]
 refine ⟨hle, ?_, by simp, fun j hj h1 h2 => ⟨h1, h2, ?_⟩⟩
 ·refine h.change b blk hle (.inr (.inl ⟨sz, xs, bs, sz, tot, hg, hb, ht⟩)) (fun _ _ _ => rfl) (Nat.le_refl _) rfl rfl rfl ?_ ?_ ?_ ?_ ?_ ?_ ?_ ?_ (.inl hne) (.inr fun _ k => k)
  ·intro b' o v k
   simp only [Ghost.addInert, Ghost.addTk] at k
   split at k
   ·rename_i e
    split at k
    ·exact .inl ⟨e, by rw [cell_of_heap hc]; exact k⟩
    ·cases k
   ·rename_i e; exact .inr ⟨e, k⟩
  ·intro j hj
   simp only [St.next_newTok, St.next_drop] at hj
   obtain ⟨h1, h2, h3, h4, h5⟩ := h.fresh j (by omega)
   refine ⟨h1, h2, ?_, ?_, ?_⟩
   ·simp only [Ghost.addTk]; rw [if_neg (by omega)]; exact h3
   ·rw [hget]; split
    ·rfl
    ·exact h4
   ·rw [hal, h5]
    have : ¬ st.next = j := by omega
    simp [this]
  ·intro j h1 h2
   refine ⟨.inl (by rw [hget, if_neg (Ne.symm h1)]), .inl (by rw [hal]; simp [Ne.symm h2]), rfl, rfl, ?_⟩
   simp only [Ghost.addTk]; rw [if_neg h2]; rfl
  ·rintro j hj sz1 xs1 b1 bs1 sz' tot1 k1 k2
   rcases hj with rfl | rfl
   ·rw [hget, if_pos rfl] at k1; cases k1
   ·rw [hget, if_neg hne, h.noGet] at k1; cases k1
  ·rintro j hj kt et es k1
   rcases hj with rfl | rfl
   ·rw [hget, if_pos rfl] at k1; cases k1
   ·rw [hget, if_neg hne, h.noGet] at k1; cases k1
  ·rintro j hj b1 e tot1 k1 k2
   rcases hj with rfl | rfl
   ·rw [hal, hna] at k1; simp [Ne.symm hne] at k1
   ·simp only [Ghost.addTk, if_pos] at k2
    cases k2
    refine ⟨rfl, ⟨c, T, hc, hs1⟩, fun o ho => ?_⟩
    simp only [Ghost.addTk, Ghost.addInert, if_pos]
    rw [if_neg (by omega)]
  ·rintro j hj k
   rcases hj with rfl | rfl
   ·rw [hget, if_pos rfl]
   ·rw [hget, if_neg hne]; exact h.noGet
  ·intro b1 o1 _
   rcases o1 with ⟨sz1, xs1, bs1, sz', tot1, k1, _⟩ | ⟨kt, et, es, k1, _⟩ | ⟨k1, _⟩
   ·rw [hget, if_pos rfl] at k1; cases k1
   ·rw [hget, if_pos rfl] at k1; cases k1
   ·rw [hal, hna] at k1; simp [Ne.symm hne] at k1
 ·rw [hget, if_neg]
  rintro rfl; rw [hb] at h1; cases h1
theorem Inv.mapNew (h : Inv B w0 Γ st w) (t : Touch w w' w.heap.size) (kt et : TypeId)
  (hc : w'.heap[w.heap.size]? = some (.map #[] 0)) : Out B w0 Γ st (Γ.addMp st.next w.heap.size) (st.new (.map kt et [])) w' := by
 have hle : Γ.Le (Γ.addMp st.next w.heap.size) := Ghost.le_addMp h.noMp
 refine ⟨hle, ?_, by simp, fun j hj h1 h2 => ⟨h1, ?_, ?_⟩⟩
 ·refine h.change st.next w.heap.size hle (.inl rfl) t.other t.size t.os t.tape t.out ?_ ?_ ?_ ?_ ?_ ?_ ?_ ?_ (.inr rfl)
  ·exact fun b o v k => .inr ⟨Nat.ne_of_lt (h.inert_lt k), k⟩
  ·intro j hj
   simp only [St.next_new] at hj
   obtain ⟨h1, h2, h3, h4, h5⟩ := h.fresh j (by omega)
   refine ⟨h1, ?_, h3, ?_, h5⟩
   ·simp only [Ghost.addMp]; rw [if_neg (by omega)]; exact h2
   ·rw [St.get_new, if_neg (by omega)]; exact h4
  ·intro j h1 h2
   refine ⟨.inl (by rw [St.get_new, if_neg (fun e => h2 e.symm)]), .inl rfl, rfl, ?_, rfl⟩
   simp only [Ghost.addMp]; rw [if_neg h2]
  ·rintro j hj sz1 xs1 b bs sz' tot1 k1 k2
   have : j = st.next := by rcases hj with e | e <;> exact e
   subst this
   rw [St.get_new, if_pos rfl] at k1; cases k1
  ·rintro j hj kt' et' es k1
   have : j = st.next := by rcases hj with e | e <;> exact e
   subst this
   rw [St.get_new, if_pos rfl] at k1; cases k1
   refine ⟨by simp [Ghost.addMp], #[], ⟨0, rfl⟩, hc, rfl, fun i k v hi => ?_⟩
   simp at hi
  ·rintro j hj b e tot k1 k2
   have : j = st.next := by rcases hj with e | e <;> exact e
   subst this
   rw [St.alive_new, h.noAlive] at k1; cases k1
  ·rintro j hj k
   have : j = st.next := by rcases hj with e | e <;> exact e
   subst this; rw [St.alive_new, h.noAlive] at k; cases k
  ·intro _ _ _; rfl
 ·simp only [Ghost.addMp]; rw [if_neg (by omega)]; exact h2
 ·rw [St.get_new, if_neg (by omega)]
theorem Inv.mapPut (h : Inv B w0 Γ st w) {b blk : Nat} {kt et : TypeId} {es es' : List (AV × AV)} (hg : st.get b = some (.map kt et es)) (hb : Γ.mp b = some blk)
  (tw : Touch w w' blk) (hm : MapOk Γ w' blk es') : Out B w0 Γ st Γ (st.put b (.map kt et es')) w' := by
 have hne : b ≠ st.next := by rintro rfl; rw [h.noGet] at hg; cases hg
 have hna : st.alive b = false := by
  cases ha : st.alive b with
  | false => rfl
  | true => rw [h.disj b ha] at hg; cases hg
 have hown : OwnB Γ st b blk := .inr (.inl ⟨kt, et, es, hg, hb⟩)
 have hnoT : ∀ {T' : TypeId}, ¬ TyAt w blk T' := by
  rintro T' ⟨c, fr, hc⟩
  obtain ⟨en, clock, hm', _⟩ := h.maps b kt et es blk hg hb
  rw [hc] at hm'; cases hm'
 refine ⟨Ghost.Le.refl Γ, ?_, Nat.le_refl _, fun j hj h1 h2 => ⟨h1, h2, ?_⟩⟩
 ·refine h.change b blk (Ghost.Le.refl Γ) (.inr hown) tw.other tw.size tw.os tw.tape tw.out ?_ ?_ ?_ ?_ ?_ ?_ ?_ ?_ (.inl hne) (.inr fun T' k => absurd k hnoT)
  ·intro b' o v k
   by_cases e : b' = blk
   ·subst e
    obtain ⟨en, clock, hc, _⟩ := h.maps b kt et es _ hg hb
    have := h.inert _ o v k
    rw [cell_mk, hc] at this; cases this
   ·exact .inr ⟨e, k⟩
  ·intro j hj
   rw [St.next_put] at hj
   obtain ⟨h1, h2, h3, h4, h5⟩ := h.fresh j hj
   refine ⟨h1, h2, h3, ?_, h5⟩
   rw [St.get_put, if_neg]
   ·exact h4
   ·rintro rfl; rw [h4] at hg; cases hg
  ·intro j h1 h2
   exact ⟨.inl (by rw [St.get_put, if_neg (Ne.symm h1)]), .inl rfl, rfl, rfl, rfl⟩
  ·rintro j hj sz1 xs1 b1 bs1 sz' tot1 k1 k2
   rcases hj with rfl | rfl
   ·rw [St.get_put, if_pos rfl] at k1; cases k1
   ·rw [St.get_put, if_neg hne, h.noGet] at k1; cases k1
  ·rintro j hj kt' et' es1 k1
   rcases hj with rfl | rfl
   ·rw [St.get_put, if_pos rfl] at k1; cases k1
    exact ⟨hb, hm⟩
   ·rw [St.get_put, if_neg hne, h.noGet] at k1; cases k1
  ·rintro j hj b1 e tot1 k1 k2
   rw [St.alive_put] at k1
   rcases hj with rfl | rfl
   ·rw [hna] at k1; cases k1
   ·rw [h.noAlive] at k1; cases k1
  ·rintro j hj k
   rw [St.alive_put] at k
   rcases hj with rfl | rfl
   ·rw [hna] at k; cases k
   ·rw [h.noAlive] at k; cases k
  ·intro b1 _ o2
   rcases o2 with ⟨sz1, xs1, bs1, sz', tot1, k1, _⟩ | ⟨kt, et, es, k1, _⟩ | ⟨k1, _⟩
   ·rw [St.get_put, if_neg hne, h.noGet] at k1; cases k1
   ·rw [St.get_put, if_neg hne, h.noGet] at k1; cases k1
   ·rw [St.alive_put, h.noAlive] at k1; cases k1
 ·rw [St.get_put, if_neg]
  rintro rfl; rw [hb] at h2; cases h2
theorem Inv.comes (h : Inv B w0 Γ st w) (t : Touch w w' w.heap.size) {i sz : Nat} {xs : List AV} (hg : st.get i = some (.row sz xs)) (ho : Γ.obj i = none)
  {c : Array Value} {T : TypeId} (hc : w'.heap[w.heap.size]? = some (.cells c T (0, 0))) {tot : Nat} (hsz : 0 < sz) (hlen : xs.length <= tot) (htot : tot * sz <= c.size)
  (hre : RE Γ xs (fun k => c[k]?) 0 sz) : Inv B w0 (Γ.addObj i (w.heap.size, 0, sz, tot)) st w' := by
 have hle : Γ.Le (Γ.addObj i (w.heap.size, 0, sz, tot)) := Ghost.le_addObj ho
 have hlt : i < st.next := by
  rcases Nat.lt_or_ge i st.next with k | k
  ·exact k
  ·rw [(h.fresh i k).2.2.2.1] at hg; cases hg
 have hna : st.alive i = false := by
  cases ha : st.alive i with
  | false => rfl
  | true => rw [h.disj i ha] at hg; cases hg
 refine h.change i w.heap.size hle (.inl rfl) t.other t.size t.os t.tape t.out ?_ ?_ ?_ ?_ ?_ ?_ ?_ ?_ (.inl (by omega))
 ·exact fun b o v k => .inr ⟨Nat.ne_of_lt (h.inert_lt k), k⟩
 ·intro j hj
  obtain ⟨h1, h2, h3, h4, h5⟩ := h.fresh j hj
  refine ⟨?_, h2, h3, h4, h5⟩
  simp only [Ghost.addObj]; rw [if_neg (by omega)]; exact h1
 ·intro j h1 h2
  refine ⟨.inl rfl, .inl rfl, ?_, rfl, rfl⟩
  simp only [Ghost.addObj]; rw [if_neg h1]
 ·rintro j hj sz1 xs1 b bs sz' tot1 k1 k2
  rcases hj with rfl | rfl
  ·rw [hg] at k1; cases k1
   simp only [Ghost.addObj, if_pos] at k2; cases k2
   exact ⟨⟨rfl, hsz, hlen, fun _ => ⟨⟨c, T, hc, by omega, RE.mono hle xs _ _ _ _ (fun _ _ k => k) hre⟩, fun o => h.noInert⟩⟩, fun _ => rfl⟩
  ·rw [h.noGet] at k1; cases k1
 ·rintro j hj kt et es k1
  rcases hj with rfl | rfl
  ·rw [hg] at k1; cases k1
  ·rw [h.noGet] at k1; cases k1
 ·rintro j hj b e tot k1 k2
  rcases hj with rfl | rfl
  ·rw [hna] at k1; cases k1
  ·rw [h.noAlive] at k1; cases k1
 ·rintro j hj k
  rcases hj with rfl | rfl
  ·rw [hna] at k; cases k
  ·rw [h.noAlive] at k; cases k
 ·intro b1 _ o2
  rcases o2 with ⟨sz1, xs1, bs1, sz', tot1, k1, _⟩ | ⟨kt, et, es, k1, _⟩ | ⟨k1, _⟩
  ·rw [h.noGet] at k1; cases k1
  ·rw [h.noGet] at k1; cases k1
  ·rw [h.noAlive] at k1; cases k1
def Ghost.addEty (Γ : Ghost) (blk : Nat) (T : TypeId) : Ghost := { Γ with ety := fun b => if b = blk then some T else Γ.ety b }
theorem Inv.le_addEty (h : Inv B w0 Γ st w) {blk : Nat} {T : TypeId} (hT : TyAt w blk T) : Γ.Le (Γ.addEty blk T) :=
 ⟨fun _ _ _ k => k, fun _ _ k => k, fun _ _ k => k, fun _ _ k => k, fun b x k => by
  simp only [Ghost.addEty]
  split
  ·rename_i e
   subst e
   obtain ⟨c, fr, h1⟩ := h.ety b x k
   obtain ⟨c', fr', h2⟩ := hT
   rw [h1] at h2; cases h2; rfl
  ·exact k, rfl⟩
theorem Inv.addEty (h : Inv B w0 Γ st w) {blk : Nat} {T : TypeId} (hT : TyAt w blk T) {st' : St} (hn : st'.next = st.next) (hg : ∀ j, st'.get j = st.get j) (ha : ∀ j, st'.alive j = st.alive j)
  (h1 : ∀ j T', st'.ty j = some T' -> Typed (Γ.addEty blk T) j T') (h2 : ∀ j T', st'.tty j = some T' -> TTyped (Γ.addEty blk T) j T') : Out B w0 Γ st (Γ.addEty blk T) st' w := by
 have hle := h.le_addEty hT
 have hown : ∀ j b, OwnB (Γ.addEty blk T) st' j b -> OwnB Γ st j b := by
  rintro j b (⟨sz, xs, bs, sz', tot, k1, k2, k3⟩ | ⟨kt, et, es, k1, k2⟩ | ⟨k1, e, tot, k2⟩)
  ·exact .inl ⟨sz, xs, bs, sz', tot, (hg j) ▸ k1, k2, k3⟩
  ·exact .inr (.inl ⟨kt, et, es, (hg j) ▸ k1, k2⟩)
  ·exact .inr (.inr ⟨(ha j) ▸ k1, e, tot, k2⟩)
 refine ⟨hle, ⟨h.below, h.base, h.inert, ?_, ?_, ?_, ?_, fun i j b o1 o2 => h.uniq i j b (hown i b o1) (hown j b o2), fun i b o => h.above i b (hown i b o), fun j k => ?_, ?_, h1, h2, h.old⟩, ?_⟩
 ·intro j hj
  rw [hg, ha]
  exact h.fresh j (by omega)
 ·intro j sz xs b bs sz' tot k1 k2
  rw [hg] at k1
  obtain ⟨r1, r2, r3, r4⟩ := h.rows j sz xs b bs sz' tot k1 k2
  refine ⟨r1, r2, r3, fun ht => ?_⟩
  obtain ⟨⟨c, T', hc, hs, hre⟩, hno⟩ := r4 ht
  exact ⟨⟨c, T', hc, hs, RE.mono hle xs _ _ _ _ (fun _ _ k => k) hre⟩, hno⟩
 ·intro j kt et es b k1 hb
  rw [hg] at k1
  obtain ⟨en, clock, hc, hs, hre⟩ := h.maps j kt et es b k1 hb
  refine ⟨en, clock, hc, hs, fun i' k v hi' => ?_⟩
  obtain ⟨e, he, r1, r2, r3, r4⟩ := hre i' k v hi'
  exact ⟨e, he, r1.mono hle, r2.mono hle, r3, r4⟩
 ·intro j b e tot k1 k2
  rw [ha] at k1
  exact h.toks j b e tot k1 k2
 ·rw [ha] at k; rw [hg]; exact h.disj j k
 ·intro b T' hb
  simp only [Ghost.addEty] at hb
  split at hb
  ·rename_i e
   subst e
   cases hb; exact hT
  ·exact h.ety b T' hb
 ·exact ⟨by omega, fun j _ k1 k2 => ⟨k1, k2, hg j⟩⟩
theorem St.ty_tag (s : St) (i j : Nat) (T : TypeId) : (s.tag i T).ty j = if i = j then some T else s.ty j := by
 simp only [St.tag, St.ty, tyL]
 by_cases e : i = j
 ·subst e; simp
 ·rw [if_neg (by omega), if_neg e]
theorem St.tty_tag (s : St) (i j : Nat) (T : TypeId) : (s.tag i T).tty j = s.tty j := by
 simp only [St.tag, St.tty, tyL]
 rw [if_neg (by omega)]
theorem St.tty_ttag (s : St) (i j : Nat) (T : TypeId) : (s.ttag i T).tty j = if i = j then some T else s.tty j := by
 simp only [St.ttag, St.tty, tyL]
 by_cases e : i = j
 ·subst e; simp
 ·rw [if_neg (by omega), if_neg e]
theorem St.ty_ttag (s : St) (i j : Nat) (T : TypeId) : (s.ttag i T).ty j = s.ty j := by
 simp only [St.ttag, St.ty, tyL]
 rw [if_neg (by omega)]
theorem Inv.tag (h : Inv B w0 Γ st w) {i blk sz tot : Nat} {T : TypeId} (hi : Γ.obj i = some (blk, 0, sz, tot)) (hT : TyAt w blk T) : Out B w0 Γ st (Γ.addEty blk T) (st.tag i T) w := by
 have hle := h.le_addEty hT
 refine h.addEty hT rfl (fun _ => rfl) (fun _ => rfl) (fun j T' k => ?_) (fun j T' k => ?_)
 ·rw [St.ty_tag] at k
  split at k
  ·rename_i e
   subst e
   cases k
   exact ⟨blk, sz, tot, hi, by simp [Ghost.addEty]⟩
  ·exact (h.tys j T' k).mono hle
 ·rw [St.tty_tag] at k
  exact (h.ttys j T' k).mono hle
theorem Inv.ttag (h : Inv B w0 Γ st w) {i blk e tot : Nat} {T : TypeId} (hi : Γ.tk i = some (blk, e, tot)) (hT : TyAt w blk T) : Out B w0 Γ st (Γ.addEty blk T) (st.ttag i T) w := by
 have hle := h.le_addEty hT
 refine h.addEty hT rfl (fun _ => rfl) (fun _ => rfl) (fun j T' k => ?_) (fun j T' k => ?_)
 ·rw [St.ty_ttag] at k
  exact (h.tys j T' k).mono hle
 ·rw [St.tty_ttag] at k
  split at k
  ·rename_i e
   subst e
   cases k
   exact ⟨blk, _, tot, hi, by simp [Ghost.addEty]⟩
  ·exact (h.ttys j T' k).mono hle
end
end Go.Abs
namespace Go.Abs
open Go.RowKit
structure TyOk (P : Program) (t : TypeId) (y : Ty) : Prop where
 ex : ∃ u i z, P.underlying t = some u /\ P.info? t = some i /\ i.zero = some z /\ tdOf u = y.d /\ i.size = y.size /\ i.bytes = y.bytes /\ isAggD u = y.agg /\ fsOf u = y.fs /\
  z.cells.toList.map ofCell = y.zero /\ z.cells.size = y.size /\ (y.zero.all AV.cellOk) = true /\ (y.agg = true ↔ ∃ cs, z = .agg cs)
 eq : y.eqOk = true -> eqFine P t = true
theorem TyOk.of_tyOf {P : Program} {t : TypeId} {y : Ty} (h : tyOf P t = some { y with eqOk := false }) (he : y.eqOk = true -> eqFine P t = true) : TyOk P t y := by
 refine ⟨?_, he⟩
 unfold tyOf at h
 split at h
 ·rename_i u i hu hi
  split at h
  ·rename_i z hz
   simp only [Option.ite_none_right_eq_some, Bool.and_eq_true, beq_iff_eq, Option.some.injEq] at h
   obtain ⟨⟨⟨h1, h2⟩, h3⟩, h4⟩ := h
   have e := h4
   simp only [Ty.mk.injEq] at e
   obtain ⟨e1, e2, e3, e4, e5, e6, _⟩ := e
   refine ⟨u, i, z, hu, hi, hz, e1, e2, e3, e4, e6, e5, ?_, by rw [<- e5]; exact h3, ?_⟩
   ·rw [List.length_map, Array.length_toList] at h2; rw [<- e2]; exact h2
   ·rw [<- e4, h1]
    cases z <;> simp
  ·cases h
 ·cases h
theorem R.ofCell {Γ : Ghost} : ∀ {v : Value}, (ofCell v).cellOk = true -> R Γ (ofCell v) v := by
 intro v h
 cases v with
 | pointer a => cases a <;> simp_all [Go.Abs.ofCell, AV.cellOk, R]
 | slice a n c =>
  cases a with
  | some a => simp [Go.Abs.ofCell, AV.cellOk] at h
  | none =>
   cases n with
   | succ n => simp [Go.Abs.ofCell, AV.cellOk] at h
   | zero =>
    cases c with
    | succ c => simp [Go.Abs.ofCell, AV.cellOk] at h
    | zero => simp [Go.Abs.ofCell, R]
 | map r => cases r <;> simp_all [Go.Abs.ofCell, AV.cellOk, R]
 | _ => simp_all [Go.Abs.ofCell, AV.cellOk, R]
theorem R.ofCell' {Γ : Ghost} (v : Value) : R Γ (Go.Abs.ofCell v) v := by
 by_cases h : (Go.Abs.ofCell v).cellOk = true
 ·exact R.ofCell h
 ·have : Go.Abs.ofCell v = .junk := by
   cases v with
   | pointer a => cases a <;> simp_all [Go.Abs.ofCell, AV.cellOk]
   | slice a n c =>
    cases a with
    | some a => simp [Go.Abs.ofCell]
    | none =>
     cases n with
     | succ n => simp [Go.Abs.ofCell]
     | zero =>
      cases c with
      | succ c => simp [Go.Abs.ofCell]
      | zero => simp [Go.Abs.ofCell, AV.cellOk] at h
   | map r => cases r <;> simp_all [Go.Abs.ofCell, AV.cellOk]
   | _ => simp_all [Go.Abs.ofCell, AV.cellOk]
  rw [this]; simp only [R]
theorem RL.ofCells {Γ : Ghost} : ∀ l : List Value, RL Γ (l.map Go.Abs.ofCell) l
 | [] => RL.nil Γ
 | v :: l => RL.cons (R.ofCell' v) (RL.ofCells l)
theorem R.ofValue {Γ : Ghost} (v : Value) : R Γ (Go.Abs.ofValue v) v := by
 cases v with
 | agg cs => simp only [Go.Abs.ofValue, R]; exact ⟨cs, rfl, RL.ofCells _⟩
 | _ => simp only [Go.Abs.ofValue]; exact R.ofCell' _
theorem TyOk.zero {P : Program} {t : TypeId} {y : Ty} (h : TyOk P t y) : ∃ i z, P.info? t = some i /\ i.zero = some z /\ i.size = y.size /\ i.bytes = y.bytes /\
  z.cells.size = y.size /\ y.zeroV.ok = true /\ ∀ Γ, R Γ y.zeroV z := by
 obtain ⟨u, i, z, hu, hi, hz, h1, h2, h3, h4, h5, h6, h7, h8, h9⟩ := h.ex
 refine ⟨i, z, hi, hz, h2, h3, h7, ?_⟩
 unfold Ty.zeroV
 by_cases ha : y.agg = true
 ·rw [if_pos ha]
  obtain ⟨cs, rfl⟩ := h9.1 ha
  refine ⟨h8, fun Γ => ?_⟩
  simp only [R]
  exact ⟨cs, rfl, by rw [<- h6]; exact RL.ofCells _⟩
 ·rw [if_neg ha]
  have hz1 : z.cells = #[z] := Value.cells_of_ne fun cs e => ha (h9.2 ⟨cs, e⟩)
  rw [hz1] at h6
  have e : y.zero = [ofCell z] := by rw [<- h6]; rfl
  rw [e] at h8 ⊢
  have hc : (ofCell z).cellOk = true := by simpa using h8
  refine ⟨?_, fun Γ => R.ofCell hc⟩
  show (ofCell z).ok = true
  generalize ofCell z = x at hc
  cases x <;> first | exact hc | (simp [AV.cellOk] at hc)
theorem Tri.get_setF : ∀ (f : Nat) (t : Tri) (i : Nat) (v : AV) (j : Nat), i < f -> (Tri.setF f t i v).get j = if j = i then v else t.get j
 | 0, _, _, _, _, h => by omega
 | f + 1, .nil, 0, v, 0, _ => rfl
 | f + 1, .nil, 0, v, j + 1, _ => by
  simp only [Tri.setF, Tri.get]
  rw [if_neg (by omega)]
  cases Nat.beq (j % 2) 0 <;> rfl
 | f + 1, .node u l r, 0, v, 0, _ => rfl
 | f + 1, .node u l r, 0, v, j + 1, _ => by
  simp only [Tri.setF, Tri.get]
  rw [if_neg (by omega)]
 | f + 1, .nil, i + 1, v, 0, _ => by
  simp only [Tri.setF]
  cases Nat.beq (i % 2) 0 <;> rfl
 | f + 1, .node u l r, i + 1, v, 0, _ => by
  simp only [Tri.setF]
  cases Nat.beq (i % 2) 0 <;> rfl
 | f + 1, .nil, i + 1, v, j + 1, h => by
  simp only [Tri.setF]
  cases hi : Nat.beq (i % 2) 0 <;> cases hj : Nat.beq (j % 2) 0 <;> simp only [cond_true, cond_false, Tri.get, hj]
  ·rw [Tri.get_setF f .nil (i / 2) v (j / 2) (by omega)]
   have h1 : ¬ i % 2 = 0 := Nat.ne_of_beq_eq_false hi
   have h2 : ¬ j % 2 = 0 := Nat.ne_of_beq_eq_false hj
   by_cases e : j = i
   ·subst e; simp
   ·rw [if_neg (by omega), if_neg (by omega)]
    rfl
  ·have h1 : ¬ i % 2 = 0 := Nat.ne_of_beq_eq_false hi
   have h2 : j % 2 = 0 := Nat.eq_of_beq_eq_true hj
   rw [if_neg (by omega)]
  ·have h1 : i % 2 = 0 := Nat.eq_of_beq_eq_true hi
   have h2 : ¬ j % 2 = 0 := Nat.ne_of_beq_eq_false hj
   rw [if_neg (by omega)]
  ·rw [Tri.get_setF f .nil (i / 2) v (j / 2) (by omega)]
   have h1 : i % 2 = 0 := Nat.eq_of_beq_eq_true hi
   have h2 : j % 2 = 0 := Nat.eq_of_beq_eq_true hj
   by_cases e : j = i
   ·subst e; simp
   ·rw [if_neg (by omega), if_neg (by omega)]
    rfl
 | f + 1, .node u l r, i + 1, v, j + 1, h => by
  simp only [Tri.setF]
  cases hi : Nat.beq (i % 2) 0 <;> cases hj : Nat.beq (j % 2) 0 <;> simp only [cond_true, cond_false, Tri.get, hj]
  ·rw [Tri.get_setF f r (i / 2) v (j / 2) (by omega)]
   have h1 : ¬ i % 2 = 0 := Nat.ne_of_beq_eq_false hi
   have h2 : ¬ j % 2 = 0 := Nat.ne_of_beq_eq_false hj
   by_cases e : j = i
   ·subst e; simp
   ·rw [if_neg (by omega), if_neg (by omega)]
  ·have h1 : ¬ i % 2 = 0 := Nat.ne_of_beq_eq_false hi
   have h2 : j % 2 = 0 := Nat.eq_of_beq_eq_true hj
   rw [if_neg (by omega)]
  ·have h1 : i % 2 = 0 := Nat.eq_of_beq_eq_true hi
   have h2 : ¬ j % 2 = 0 := Nat.ne_of_beq_eq_false hj
   rw [if_neg (by omega)]
  ·rw [Tri.get_setF f l (i / 2) v (j / 2) (by omega)]
   have h1 : i % 2 = 0 := Nat.eq_of_beq_eq_true hi
   have h2 : j % 2 = 0 := Nat.eq_of_beq_eq_true hj
   by_cases e : j = i
   ·subst e; simp
   ·rw [if_neg (by omega), if_neg (by omega)]
theorem TM.get_put (tm : TM) (d : Nat) (v : AV) (i : Nat) : (tm.put d v).get i = if i = d /\ d < tm.n then v else tm.get i := by
 unfold TM.put TM.get
 cases h : Nat.blt d tm.n with
 | true =>
  have h1 : d < tm.n := Eq.mp Nat.blt_eq h
  simp only [cond_true]
  rw [Tri.get_setF _ _ _ _ _ (Nat.lt_succ_self d)]
  simp [h1]
 | false =>
  have h1 : ¬ d < tm.n := fun k => by
   have := Eq.mpr Nat.blt_eq k
   rw [h] at this; cases this
  simp [h1]
@[simp] theorem TM.n_put (tm : TM) (d : Nat) (v : AV) : (tm.put d v).n = tm.n := by
 unfold TM.put
 cases Nat.blt d tm.n <;> rfl
@[simp] theorem putO_n (tm : TM) (d : Option Tmp) (v : AV) : (putO tm d v).n = tm.n := by
 cases d with
 | none => rfl
 | some d => exact TM.n_put tm d v
theorem Tri.get_ofL : ∀ (l : List AV) (i : Nat) (t : Tri) (j : Nat), (Tri.ofL l i t).get j = if i <= j /\ j < i + l.length then l.getD (j - i) .junk else t.get j
 | [], i, t, j => by
  simp only [Tri.ofL, List.length_nil]
  rw [if_neg (by omega)]
 | x :: l, i, t, j => by
  simp only [Tri.ofL, List.length_cons]
  rw [Tri.get_ofL l (i + 1) _ j, Tri.get_setF _ _ _ _ _ (Nat.lt_succ_self i)]
  by_cases h : j = i
  ·subst h
   rw [if_neg (by omega), if_pos rfl, if_pos (by omega), Nat.sub_self]; rfl
  ·rw [if_neg h]
   by_cases h2 : i + 1 <= j /\ j < i + 1 + l.length
   ·rw [if_pos h2, if_pos (by omega)]
    have : j - i = (j - (i + 1)) + 1 := by omega
    rw [this]; rfl
   ·rw [if_neg h2, if_neg (by omega)]
structure RT (Γ : Ghost) (tm : TM) (vs : Array Value) : Prop where
 size : vs.size = tm.n
 get : ∀ i, R Γ (tm.get i) (vs.getD i undef)
theorem RT.mono {Γ Δ : Ghost} (h : Γ.Le Δ) {tm : TM} {vs : Array Value} (k : RT Γ tm vs) : RT Δ tm vs := ⟨k.size, fun i => (k.get i).mono h⟩
theorem RT.eval {Γ : Ghost} {tm : TM} {a : Act} (h : RT Γ tm a.tmps) (x : Operand) : R Γ (evalO tm x) (a.eval x) := by
 cases x with
 | tmp t => exact h.get t
 | const v => exact R.ofValue v
 | global g => simp only [evalO, Act.eval, R]
 | func f => simp only [evalO, Act.eval, R]; exact ⟨#[], #[], rfl, RL.nil _, RL.nil _⟩
theorem RT.evals {Γ : Ghost} {tm : TM} {a : Act} (h : RT Γ tm a.tmps) : ∀ l : List Operand, RL Γ (l.map (evalO tm)) (l.map a.eval)
 | [] => RL.nil Γ
 | x :: l => RL.cons (h.eval x) (h.evals l)
theorem RT.put {Γ : Ghost} {tm : TM} {a : Act} (h : RT Γ tm a.tmps) (d : Option Tmp) {v : AV} {u : Value} (hv : R Γ v u) : RT Γ (putO tm d v) (a.put d u).tmps := by
 cases d with
 | none => exact h
 | some d =>
  simp only [putO, Act.put]
  refine ⟨by simp [h.size], fun i => ?_⟩
  rw [TM.get_put, Array.getD_eq_getD_getElem?, Array.getElem?_setIfInBounds]
  by_cases e : d = i
  ·subst e
   rw [if_pos rfl]
   by_cases hd : d < tm.n
   ·rw [if_pos ⟨rfl, hd⟩, if_pos (by rw [h.size]; exact hd)]
    exact hv
   ·rw [if_neg (fun k => hd k.2), if_neg (by rw [h.size]; exact hd)]
    have := h.get d
    rw [Array.getD_eq_getD_getElem?, Array.getElem?_eq_none (by rw [h.size]; exact Nat.not_lt.mp hd)] at this
    exact this
  ·rw [if_neg (fun k => e k.1.symm), if_neg e, <- Array.getD_eq_getD_getElem?]
   exact h.get i
theorem RT.of {Γ : Ghost} {args : List AV} {vargs : Array Value} (h : RL Γ args vargs.toList) (n : Nat) : RT Γ (TM.of args n) (vargs ++ Array.replicate (n - vargs.size) undef) := by
 have hl := h.length
 rw [Array.length_toList] at hl
 refine ⟨?_, fun i => ?_⟩
 ·simp only [TM.of, Array.size_append, Array.size_replicate]
  omega
 ·simp only [TM.of, TM.get]
  rw [Tri.get_ofL, Array.getD_eq_getD_getElem?, Array.getElem?_append]
  by_cases hi : i < args.length
  ·rw [if_pos (by omega), if_pos (by omega), Nat.sub_zero, List.getD_eq_getElem?_getD, List.getElem?_eq_getElem hi]
   obtain ⟨v, hv, hr⟩ := h.get i _ (List.getElem?_eq_getElem hi)
   rw [Array.getElem?_toList] at hv
   rw [hv]; exact hr
  ·rw [if_neg (by omega)]
   simp only [Tri.get, R]
theorem put_defers (a : Act) (d : Option Tmp) (u : Value) : (a.put d u).defers = a.defers := by cases d <;> rfl
section
variable {P : Program}
theorem run_under {t : TypeId} {u : TypeDesc} (h : P.underlying t = some u) (w : World) : (underlying t).run P w = .ok u w := by simp [underlying, h]
theorem run_info {t : TypeId} {i : TypeInfo} (h : P.info? t = some i) (w : World) : (typeInfo t).run P w = .ok i w := by simp [typeInfo, h]
theorem run_size {t : TypeId} {i : TypeInfo} (h : P.info? t = some i) (w : World) : (sizeOf t).run P w = .ok i.size w := by simp [sizeOf, run_info h]
theorem run_zero {t : TypeId} {i : TypeInfo} {z : Value} (h : P.info? t = some i) (hz : i.zero = some z) (w : World) : (zeroValue t).run P w = .ok z w := by simp [zeroValue, run_info h, hz]
theorem run_isAgg {t : TypeId} {u : TypeDesc} (h : P.underlying t = some u) (w : World) : (isAgg t).run P w = .ok (isAggD u) w := by
 simp only [isAgg, Sem.run_bind, run_under h, Result.andThen_ok]
 cases u <;> rfl
theorem part_sound {E : Env} (hE : ∀ t y, E.ty t = some y -> TyOk P t y) {Γ : Ghost} {t : TypeId} {cs : List AV} {vs : Array Value} {off : Nat} {r : AV}
  (h : partA E t cs off = some r) (hv : RL Γ cs vs.toList) (w : World) : ∃ u, (part t vs off).run P w = .ok u w /\ R Γ r u := by
 unfold partA at h
 split at h
 ·cases h
 ·rename_i y hy
  obtain ⟨u, i, z, hu, hi, hz, h1, h2, h3, h4, h5, h6, h7, h8, h9⟩ := (hE t y hy).ex
  split at h
  ·rename_i hlen
   unfold part
   simp only [Sem.run_bind, run_isAgg hu, Result.andThen_ok]
   rw [h4]
   split at h
   ·rename_i ha
    cases h
    rw [if_pos ha]
    simp only [Sem.run_bind, run_size hi, Result.andThen_ok, Sem.run_pure]
    refine ⟨_, rfl, ?_⟩
    simp only [R]
    refine ⟨_, rfl, ?_⟩
    rw [h2, Array.toList_extract, List.extract_eq_take_drop]
    have : off + y.size - off = y.size := by omega
    rw [this]
    exact (hv.drop off).take y.size
   ·rename_i ha
    rw [if_neg ha]
    obtain ⟨v, hv1, hv2⟩ := hv.get off r h
    have : vs[off]? = some v := by rw [<- Array.getElem?_toList]; exact hv1
    simp only [this]
    exact ⟨v, rfl, hv2⟩
  ·cases h
theorem loadCells_sound {B : Nat} {w0 w : World} {Γ : Ghost} {st : St} (hI : Inv B w0 Γ st w) {x : AV} {v : Value} {cs : List AV} (h : loadCells st x = some cs) (hx : R Γ x v) :
  ∃ b o vs, v = .pointer (some ⟨b, o, none⟩) /\ RL Γ cs vs /\ ∀ j u, vs[j]? = some u -> w.cell? ⟨b, o + j, none⟩ = some u := by
 cases x with
 | ip cells =>
  simp only [loadCells, Option.some.injEq] at h; subst h
  simp only [R] at hx
  obtain ⟨b, o, vs, rfl, h1, h2⟩ := hx
  exact ⟨b, o, vs, rfl, h1, fun j u hj => hI.inert _ _ _ (h2 j u hj)⟩
 | ptr b i off =>
  simp only [loadCells] at h
  split at h
  ·rename_i sz xs hg
   split at h
   ·rename_i e he
    split at h
    ·rename_i hoff
     cases h
     simp only [R] at hx
     obtain ⟨blk, base, sz', tot, ho, rfl⟩ := hx
     obtain ⟨rfl, hsz, hlen, hmem⟩ := hI.rows b sz xs blk base sz' tot hg ho
     have hi : i < xs.length := by
      rcases Nat.lt_or_ge i xs.length with k | k
      ·exact k
      ·rw [List.getElem?_eq_none k] at he; cases he
     obtain ⟨⟨c, T, hc, hs, hre⟩, _⟩ := hmem (by omega)
     obtain ⟨v, hv1, hv2, hv3, hv4⟩ := hre.get i e he
     refine ⟨blk, base + i * sz' + off, v.cells.toList.drop off, rfl, (hv1.cells (AV.ne_junk_of_ok hv2)).drop off, fun j u hj => ?_⟩
     rw [List.getElem?_drop] at hj
     rw [cell_of_heap hc, Nat.add_assoc]
     exact hv4 _ u hj
    ·cases h
   ·cases h
  ·cases h
 | _ => simp [loadCells] at h
theorem load_sound {E : Env} (hE : ∀ t y, E.ty t = some y -> TyOk P t y) {B : Nat} {w0 w : World} {Γ : Ghost} {st : St} (hI : Inv B w0 Γ st w) {x : AV} {v : Value} {cs : List AV} {t : TypeId} {r : AV}
  (h : loadCells st x = some cs) (hr : partA E t cs 0 = some r) (hx : R Γ x v) : ∃ u, (Instr.loadAt t v).run P w = .ok u w /\ R Γ r u := by
 obtain ⟨b, o, vs, rfl, h1, h2⟩ := loadCells_sound hI h hx
 unfold partA at hr
 split at hr
 ·cases hr
 ·rename_i y hy
  obtain ⟨u, i, z, hu, hi, hz, g1, g2, g3, g4, g5, g6, g7, g8, g9⟩ := (hE t y hy).ex
  split at hr
  ·rename_i hlen
   simp only [Nat.zero_add] at hlen
   simp only [Instr.loadAt, Instr.sureAddr, Sem.run_bind, Sem.run_pure, Result.andThen_ok, loadVar, run_isAgg hu]
   rw [g4]
   have hl := h1.length
   split at hr
   ·rename_i ha
    cases hr
    rw [if_pos ha]
    simp only [Sem.run_bind, run_size hi, Result.andThen_ok]
    have hrun : (Go.loadCells ⟨b, o, none⟩ (vs.take y.size).length).run P w = .ok (vs.take y.size).toArray w :=
     run_loadCells_list w ⟨b, o, none⟩ (vs.take y.size) (fun j u hj => by
      rw [add_mk]
      rw [List.getElem?_take] at hj
      split at hj
      ·exact h2 j u hj
      ·cases hj)
    have hll : (vs.take y.size).length = i.size := by rw [List.length_take]; omega
    rw [hll] at hrun
    rw [hrun]
    refine ⟨_, rfl, ?_⟩
    simp only [R]
    refine ⟨_, rfl, ?_⟩
    simpa using h1.take y.size
   ·rename_i ha
    rw [if_neg ha]
    obtain ⟨u', hu1, hu2⟩ := h1.get 0 r hr
    have := h2 0 u' hu1
    simp only [Nat.add_zero] at this
    exact ⟨u', by simp [this], hu2⟩
  ·cases hr
end
end Go.Abs
namespace Go.Abs
open Go.RowKit
section
variable {P : Program}
theorem eqFs_sound {E : Env} (hE : ∀ t y, E.ty t = some y -> TyOk P t y) {Γ : Ghost} {w : World} {d : Nat} {eq : TypeId -> AV -> AV -> Option Bool}
  (heq : ∀ t x y v u b, eq t x y = some b -> R Γ x v -> R Γ y u -> (Op.equalIn d t v u).run P w = .ok b w)
  {xs ys : List AV} {vs us : Array Value} (hx : RL Γ xs vs.toList) (hy : RL Γ ys us.toList) :
  ∀ (fs : List Field), (fs.all fun f => f.name != "_") = true -> ∀ b, eqFs E eq xs ys (fs.map fun f => (f.type, f.offset)) = some b ->
   (Op.eqFields d vs us fs).run P w = .ok b w := by
 intro fs
 induction fs with
 | nil => intro _ b h; simp only [List.map_nil, eqFs, Option.some.injEq] at h; subst h; simp [Op.eqFields]
 | cons f fs ih =>
  intro hn b h
  simp only [List.all_cons, Bool.and_eq_true, bne_iff_ne] at hn
  simp only [List.map_cons, eqFs] at h
  split at h
  ·rename_i a c ha hc
   obtain ⟨v, hv1, hv2⟩ := part_sound hE ha hx w
   obtain ⟨u, hu1, hu2⟩ := part_sound hE hc hy w
   simp only [Op.eqFields, if_pos hn.1, Sem.run_bind, hv1, hu1, Result.andThen_ok]
   split at h
   ·rename_i h1
    rw [heq _ _ _ _ _ _ h1 hv2 hu2]
    simp only [Result.andThen_ok, Bool.not_true, Bool.false_eq_true, if_false]
    exact ih (by simpa using hn.2) b h
   ·rename_i h1
    cases h
    rw [heq _ _ _ _ _ _ h1 hv2 hu2]
    simp
   ·cases h
  ·cases h
theorem eqEls_sound {E : Env} (hE : ∀ t y, E.ty t = some y -> TyOk P t y) {Γ : Ghost} {w : World} {d : Nat} {eq : TypeId -> AV -> AV -> Option Bool}
  (heq : ∀ t x y v u b, eq t x y = some b -> R Γ x v -> R Γ y u -> (Op.equalIn d t v u).run P w = .ok b w)
  {xs ys : List AV} {vs us : Array Value} (hx : RL Γ xs vs.toList) (hy : RL Γ ys us.toList) (e size : Nat) :
  ∀ (m i : Nat) (b : Bool), eqEls E eq e size xs ys i m = some b ->
   (forIn (m := Sem) (List.range' i m) ((none : Option Bool), ()) fun (j : Nat) (_ : Option Bool × Unit) => do
     let a <- part e vs (j * size)
     let c <- part e us (j * size)
     let r <- Op.equalIn d e a c
     if (!r) = true then pure (ForInStep.done (some false, ())) else pure (ForInStep.yield (none, ()))).run P w = .ok (if b then none else some false, ()) w := by
 intro m
 induction m with
 | zero => intro i b h; simp only [eqEls, Option.some.injEq] at h; subst h; simp
 | succ m ih =>
  intro i b h
  simp only [eqEls] at h
  split at h
  ·rename_i a c ha hc
   obtain ⟨v, hv1, hv2⟩ := part_sound hE ha hx w
   obtain ⟨u, hu1, hu2⟩ := part_sound hE hc hy w
   simp only [List.range'_succ, List.forIn_cons, Sem.run_bind, hv1, hu1, Result.andThen_ok]
   split at h
   ·rename_i h1
    rw [heq _ _ _ _ _ _ h1 hv2 hu2]
    simp only [Result.andThen_ok, Bool.not_true, Bool.false_eq_true, if_false, Sem.run_pure]
    exact ih (i + 1) b h
   ·rename_i h1
    cases h
    rw [heq _ _ _ _ _ _ h1 hv2 hu2]
    simp
   ·cases h
  ·cases h
def TDIs (u : TypeDesc) : TD -> Prop
 | .bool => u = .bool
 | .int k => u = .int k
 | .string => u = .string
 | .pointer e => u = .pointer e
 | .slice e => u = .slice e
 | .array n e => u = .array n e
 | .map k e => u = .map k e
 | .struct => ∃ fs, u = .struct fs
 | .func => ∃ a b c, u = .func a b c
 | .iface => ∃ m, u = .interface m
 | .other => True
theorem tdOf_inv {u : TypeDesc} {d : TD} (h : tdOf u = d) : TDIs u d := by
 subst h
 cases u <;> simp [tdOf, TDIs]
theorem bytes_beq (a b : ByteArray) : (a == b) = decide (a = b) := by
 rw [beq_toListBytes, ByteArray.toList_eq, ByteArray.toList_eq, Bool.eq_iff_iff]
 simp only [beq_iff_eq, decide_eq_true_eq]
 constructor
 ·intro h
  obtain ⟨⟨x⟩⟩ := a
  obtain ⟨⟨y⟩⟩ := b
  have h' : x = y := h
  rw [h']
 ·rintro rfl; rfl
set_option maxHeartbeats 1000000 in
theorem eqA_sound {E : Env} (hE : ∀ t y, E.ty t = some y -> TyOk P t y) {Γ : Ghost} (w : World) : ∀ (n : Nat) (d : Nat), n <= d -> ∀ (t : TypeId) (x y : AV) (v u : Value) (b : Bool),
  eqA E n t x y = some b -> R Γ x v -> R Γ y u -> (Op.equalIn d t v u).run P w = .ok b w := by
 intro n
 induction n with
 | zero => intro d _ t x y v u b h; simp [eqA] at h
 | succ n ih =>
  intro d hd t x y v u b h hx hy
  obtain ⟨d, rfl⟩ : ∃ m, d = m + 1 := ⟨d - 1, by omega⟩
  have ih' := ih d (by omega)
  simp only [eqA] at h
  split at h
  ·cases h
  ·rename_i ty hty
   obtain ⟨U, i, z, hu, hi, hz, g1, g2, g3, g4, g5, g6, g7, g8, g9⟩ := (hE t ty hty).ex
   have gq := (hE t ty hty).eq
   have gi := tdOf_inv g1
   split at h
   all_goals (try (rename_i hd1; rw [hd1] at gi; simp only [TDIs] at gi))
   all_goals (try (simp only [R] at hx hy))
   ·subst gi; cases h; subst hx; subst hy; (simp only [Op.equalIn, Sem.run_bind, run_under hu, Result.andThen_ok, Sem.run_pure]; try rfl)
   ·subst gi; subst hx; subst hy
    split at h
    ·rename_i hk; subst hk; cases h; simp only [Op.equalIn, Sem.run_bind, run_under hu, Result.andThen_ok, Sem.run_pure, if_true]
    ·cases h
   ·subst gi; subst hx; subst hy; cases h
    simp only [Op.equalIn, Sem.run_bind, run_under hu, Result.andThen_ok, Sem.run_pure, bytes_beq]
   ·subst gi; subst hx; subst hy; cases h; (simp only [Op.equalIn, Sem.run_bind, run_under hu, Result.andThen_ok, Sem.run_pure]; try rfl)
   ·subst gi; subst hx; obtain ⟨_, _, _, _, _, rfl⟩ := hy; cases h; (simp only [Op.equalIn, Sem.run_bind, run_under hu, Result.andThen_ok, Sem.run_pure]; try rfl)
   ·subst gi; subst hy; obtain ⟨_, _, _, _, _, rfl⟩ := hx; cases h; (simp only [Op.equalIn, Sem.run_bind, run_under hu, Result.andThen_ok, Sem.run_pure]; try rfl)
   ·obtain ⟨m, rfl⟩ := gi; subst hx; subst hy; cases h; (simp only [Op.equalIn, Sem.run_bind, run_under hu, Result.andThen_ok, Sem.run_pure]; try rfl)
   ·obtain ⟨m, rfl⟩ := gi; subst hx; obtain ⟨_, rfl, _⟩ := hy; cases h; (simp only [Op.equalIn, Sem.run_bind, run_under hu, Result.andThen_ok, Sem.run_pure]; try rfl)
   ·obtain ⟨m, rfl⟩ := gi; subst hy; obtain ⟨_, rfl, _⟩ := hx; cases h; (simp only [Op.equalIn, Sem.run_bind, run_under hu, Result.andThen_ok, Sem.run_pure]; try rfl)
   ·subst gi; subst hx; subst hy; cases h; (simp only [Op.equalIn, Sem.run_bind, run_under hu, Result.andThen_ok, Sem.run_pure]; try rfl)
   ·subst gi; subst hx; obtain ⟨_, _, _, rfl, _⟩ := hy; cases h; (simp only [Op.equalIn, Sem.run_bind, run_under hu, Result.andThen_ok, Sem.run_pure]; try rfl)
   ·subst gi; subst hy; obtain ⟨_, _, _, rfl, _⟩ := hx; cases h; (simp only [Op.equalIn, Sem.run_bind, run_under hu, Result.andThen_ok, Sem.run_pure]; try rfl)
   ·subst gi; subst hx; obtain ⟨_, _, _, _, _, _, rfl, _⟩ := hy; cases h; (simp only [Op.equalIn, Sem.run_bind, run_under hu, Result.andThen_ok, Sem.run_pure]; try rfl)
   ·subst gi; subst hy; obtain ⟨_, _, _, _, _, _, rfl, _⟩ := hx; cases h; (simp only [Op.equalIn, Sem.run_bind, run_under hu, Result.andThen_ok, Sem.run_pure]; try rfl)
   ·subst gi; subst hx; obtain ⟨_, _, rfl⟩ := hy; cases h; (simp only [Op.equalIn, Sem.run_bind, run_under hu, Result.andThen_ok, Sem.run_pure]; try rfl)
   ·subst gi; subst hy; obtain ⟨_, _, rfl⟩ := hx; cases h; (simp only [Op.equalIn, Sem.run_bind, run_under hu, Result.andThen_ok, Sem.run_pure]; try rfl)
   ·subst gi; subst hx; subst hy; cases h; (simp only [Op.equalIn, Sem.run_bind, run_under hu, Result.andThen_ok, Sem.run_pure]; try rfl)
   ·subst gi; subst hx; obtain ⟨_, _, rfl⟩ := hy; cases h; (simp only [Op.equalIn, Sem.run_bind, run_under hu, Result.andThen_ok, Sem.run_pure]; try rfl)
   ·subst gi; subst hy; obtain ⟨_, _, rfl⟩ := hx; cases h; (simp only [Op.equalIn, Sem.run_bind, run_under hu, Result.andThen_ok, Sem.run_pure]; try rfl)
   ·obtain ⟨_, _, _, rfl⟩ := gi; subst hx; subst hy; cases h; (simp only [Op.equalIn, Sem.run_bind, run_under hu, Result.andThen_ok, Sem.run_pure]; try rfl)
   ·obtain ⟨_, _, _, rfl⟩ := gi; subst hx; obtain ⟨_, _, rfl, _⟩ := hy; cases h; (simp only [Op.equalIn, Sem.run_bind, run_under hu, Result.andThen_ok, Sem.run_pure]; try rfl)
   ·obtain ⟨_, _, _, rfl⟩ := gi; subst hy; obtain ⟨_, _, rfl, _⟩ := hx; cases h; (simp only [Op.equalIn, Sem.run_bind, run_under hu, Result.andThen_ok, Sem.run_pure]; try rfl)
   ·obtain ⟨fs, rfl⟩ := gi
    obtain ⟨vs, rfl, hvs⟩ := hx
    obtain ⟨us, rfl, hus⟩ := hy
    split at h
    ·rename_i hok
     have hf := gq hok
     simp only [eqFine, hu, Bool.and_eq_true, Bool.not_eq_true'] at hf
     have e : P.fieldsOf t = fs := by simp [Program.fieldsOf, hu]
     rw [run_equalIn_struct w d t vs us (by rw [e]; exact hu) hf.2.1, e]
     exact eqFs_sound hE ih' hvs hus fs.toList hf.2.2 b (by rw [<- g5] at h; exact h)
    ·cases h
   ·subst gi
    obtain ⟨vs, rfl, hvs⟩ := hx
    obtain ⟨us, rfl, hus⟩ := hy
    rename_i n' e' _ _
    split at h
    ·split at h
     ·rename_i et het
      obtain ⟨U', i', z', hu', hi', hz', k1, k2, _⟩ := (hE _ et het).ex
      have := eqEls_sound hE ih' hvs hus e' et.size n' 0 b h
      simp only [Op.equalIn, Sem.run_bind, run_under hu, run_size hi', Result.andThen_ok]
      rw [k2]
      simp only [Std.Legacy.Range.forIn_eq_forIn_range', Std.Legacy.Range.size, Nat.sub_zero, Nat.add_sub_cancel, Nat.div_one]
      rw [this]
      cases b <;> rfl
     ·cases h
    ·cases h
   ·cases h
end
end Go.Abs
namespace Go.Abs
open Go.RowKit
section
variable {P : Program}
theorem bits_sound {op : BinOp} {k : IntKind} {x y n : Int} (h : bits op k x y = some n) (w : World) : (Op.intBits op k x y).run P w = .ok (.int k n) w := by
 cases op <;> simp only [bits, Option.some.injEq, reduceCtorEq] at h <;> subst h <;> rfl
theorem intBin_sound {Γ : Ghost} {op : BinOp} {t : TypeId} {k : IntKind} {x y : Int} {r : AV} (h : intBin op k x y = some r) (w : World) :
  ∃ u, (binOp op t (.int k x) (.int k y)).run P w = .ok u w /\ R Γ r u := by
 cases op <;> simp only [intBin, reduceCtorEq, Option.some.injEq] at h
 case add => subst h; exact ⟨.int k (k.wrap (x + y)), by simp [binOp, Op.intArith], by simp only [R]⟩
 case sub => subst h; exact ⟨.int k (k.wrap (x - y)), by simp [binOp, Op.intArith], by simp only [R]⟩
 case mul => subst h; exact ⟨.int k (k.wrap (x * y)), by simp [binOp, Op.intArith], by simp only [R]⟩
 case quo =>
  split at h
  ·cases h
  ·rename_i hy
   cases h
   exact ⟨.int k (k.wrap (x.tdiv y)), by simp [binOp, Op.intDiv, hy], by simp only [R]⟩
 case rem =>
  split at h
  ·cases h
  ·rename_i hy
   cases h
   exact ⟨.int k (x.tmod y), by simp [binOp, Op.intDiv, hy], by simp only [R]⟩
 case and =>
  simp only [Option.map_eq_some_iff] at h; obtain ⟨n, hn, rfl⟩ := h
  exact ⟨.int k n, by simp [binOp, bits_sound hn], by simp only [R]⟩
 case or =>
  simp only [Option.map_eq_some_iff] at h; obtain ⟨n, hn, rfl⟩ := h
  exact ⟨.int k n, by simp [binOp, bits_sound hn], by simp only [R]⟩
 case xor =>
  simp only [Option.map_eq_some_iff] at h; obtain ⟨n, hn, rfl⟩ := h
  exact ⟨.int k n, by simp [binOp, bits_sound hn], by simp only [R]⟩
 case andNot =>
  simp only [Option.map_eq_some_iff] at h; obtain ⟨n, hn, rfl⟩ := h
  exact ⟨.int k n, by simp [binOp, bits_sound hn], by simp only [R]⟩
 case eql => subst h; exact ⟨.bool (x == y), by simp [binOp, Op.intCmp], by simp only [R]⟩
 case neq => subst h; exact ⟨.bool (x != y), by simp [binOp, Op.intCmp], by simp only [R]⟩
 case lss => subst h; exact ⟨.bool (decide (x < y)), by simp [binOp, Op.intCmp], by simp only [R]⟩
 case leq => subst h; exact ⟨.bool (decide (x <= y)), by simp [binOp, Op.intCmp], by simp only [R]⟩
 case gtr => subst h; exact ⟨.bool (decide (x > y)), by simp [binOp, Op.intCmp], by simp only [R]⟩
 case geq => subst h; exact ⟨.bool (decide (x ≥ y)), by simp [binOp, Op.intCmp], by simp only [R]⟩
theorem shiftA_sound {Γ : Ghost} {op : BinOp} {t : TypeId} {k l : IntKind} {x y : Int} {r : AV} (hop : op = .shl \/ op = .shr) (h : shiftA op k x y = some r) (w : World) :
  ∃ u, (binOp op t (.int k x) (.int l y)).run P w = .ok u w /\ R Γ r u := by
 unfold shiftA at h
 split at h
 ·cases h
 ·rename_i hy
  rcases hop with rfl | rfl
  ·simp only [Option.some.injEq] at h; subst h
   exact ⟨.int k (k.wrap (x * 2 ^ (min y.toNat k.bits))), by simp [binOp, Op.shift, hy], by simp only [R]⟩
  ·simp only [Option.some.injEq] at h; subst h
   exact ⟨.int k (x.fdiv (2 ^ (min y.toNat k.bits))), by simp [binOp, Op.shift, hy], by simp only [R]⟩
theorem strBin_sound {Γ : Ghost} {op : BinOp} {t : TypeId} {x y : ByteArray} {r : AV} (h : strBin op x y = some r) (w : World) :
  ∃ u, (binOp op t (.string x) (.string y)).run P w = .ok u w /\ R Γ r u := by
 cases op <;> simp only [strBin, reduceCtorEq, Option.some.injEq] at h
 case add =>
  split at h
  ·cases h
  ·rename_i hs
   cases h
   exact ⟨.string (x ++ y), by simp only [binOp, Op.stringOp, if_neg hs, Sem.run_pure], by simp only [R]⟩
 case eql => subst h; exact ⟨.bool (x.toList == y.toList), by simp only [binOp, Op.stringOp, Sem.run_pure], by simp only [R]⟩
 case neq => subst h; exact ⟨.bool (!(x.toList == y.toList)), by simp only [binOp, Op.stringOp, Sem.run_pure], by simp only [R]⟩
 case lss => subst h; exact ⟨.bool (Op.bytesLess x.toList y.toList), by simp only [binOp, Op.stringOp, Sem.run_pure], by simp only [R]⟩
 case leq => subst h; exact ⟨.bool (Op.bytesLess x.toList y.toList || x.toList == y.toList), by simp only [binOp, Op.stringOp, Sem.run_pure], by simp only [R]⟩
 case gtr => subst h; exact ⟨.bool (!(Op.bytesLess x.toList y.toList || x.toList == y.toList)), by simp only [binOp, Op.stringOp, Sem.run_pure], by simp only [R]⟩
 case geq => subst h; exact ⟨.bool (!Op.bytesLess x.toList y.toList), by simp only [binOp, Op.stringOp, Sem.run_pure], by simp only [R]⟩
theorem unA_sound {Γ : Ghost} {op : UnOp} {x : AV} {v : Value} {r : AV} (h : unA op x = some r) (hx : R Γ x v) (w : World) :
  ∃ u, (Op.unary op v).run P w = .ok u w /\ R Γ r u := by
 unfold unA at h
 split at h
 ·rename_i k n; cases h; simp only [R] at hx; subst hx; exact ⟨.int k (k.wrap (0 - n)), by simp [Op.unary, Op.intArith], by simp only [R]⟩
 ·simp only [Option.map_eq_some_iff] at h; obtain ⟨n, hn, rfl⟩ := h
  simp only [R] at hx; subst hx
  exact ⟨.int _ n, by simp only [Op.unary]; exact bits_sound hn w, by simp only [R]⟩
 ·rename_i b; cases h; simp only [R] at hx; subst hx; exact ⟨.bool (!b), by simp [Op.unary], by simp only [R]⟩
 ·cases h
theorem run_eqGuard_skip (op : BinOp) (t : TypeId) (x y : Operand) (a b : Value) (h : op ≠ .eql /\ op ≠ .neq) (w : World) : (eqGuard op t x y a b).run P w = .ok () w := by
 cases op <;> simp_all [eqGuard]
theorem run_eqGuard_plain (op : BinOp) (t : TypeId) (x y : Operand) (a b : Value) (h : (∀ c, a ≠ .agg c) \/ ∀ c, b ≠ .agg c) (h' : a ≠ .nilIface \/ b ≠ .nilIface) (w : World) : (eqGuard op t x y a b).run P w = .ok () w := by
 by_cases hop : op = .eql \/ op = .neq
 ·have key : (match a, b with
    | .nilIface, .nilIface =>
     if (x matches .const _) || (y matches .const _) then (pure () : Sem Unit)
     else do if <- Op.eqGuardIn Op.maxDepth t a b then unsupported (.noEntry "binop/eql: two nil values of an interface type with methods, neither of them the literal nil")
    | .agg _, .agg _ => do
     if !(<- program).eqGuardType (<- program).depth t then return
     if <- Op.eqGuardIn Op.maxDepth t a b then unsupported (.noEntry "binop/eql: two nil values of an interface type with methods, in a part of a struct or an array")
    | _, _ => pure ()).run P w = .ok () w := by
   split
   ·rcases h' with h' | h' <;> exact absurd rfl h'
   ·rcases h with h | h <;> exact absurd rfl (h _)
   ·rfl
  rcases hop with rfl | rfl <;> exact key
 ·exact run_eqGuard_skip op t x y a b (by simpa using hop) w
theorem eqA_agg {E : Env} {n : Nat} {t : TypeId} {xs : List AV} {x y : AV} {b : Bool} (hx : AV.agg xs = x) (h : eqA E n t x y = some b) : ∃ ty, E.ty t = some ty /\ ty.eqOk = true := by
 cases n with
 | zero => simp [eqA] at h
 | succ n =>
  simp only [eqA] at h
  split at h
  ·cases h
  ·rename_i ty hty
   refine ⟨ty, hty, ?_⟩
   split at h
   all_goals first
    | (cases hx; done)
    | (split at h
       · rename_i k; exact k
       · cases h)
    | (cases h; done)
theorem matches_const (xo yo : Operand) : ((xo matches .const _) || (yo matches .const _)) = (isConstO xo || isConstO yo) := by cases xo <;> cases yo <;> rfl
theorem R.int_inv {Γ : Ghost} {x : AV} {k : IntKind} {a : Int} (h : R Γ x (.int k a)) (hx : x ≠ .junk) : x = .int k a := by
 have t := h.tag hx
 cases x <;> simp only [tagA, tagV] at t <;> first | (simp only [R] at h; cases h; rfl) | omega
theorem R.str_inv {Γ : Ghost} {x : AV} {a : ByteArray} (h : R Γ x (.string a)) (hx : x ≠ .junk) : x = .str a := by
 have t := h.tag hx
 cases x <;> simp only [tagA, tagV] at t <;> first | (simp only [R] at h; cases h; rfl) | omega
theorem R.no_float {Γ : Ghost} {x : AV} {k : FloatKind} {a : Nat} (h : R Γ x (.float k a)) (hx : x ≠ .junk) : False := by
 have t := h.tag hx
 cases x <;> simp only [tagA, tagV] at t <;> omega
theorem R.no_complex {Γ : Ghost} {x : AV} {k : FloatKind} {a b : Nat} (h : R Γ x (.complex k a b)) (hx : x ≠ .junk) : False := by
 have t := h.tag hx
 cases x <;> simp only [tagA, tagV] at t <;> omega
theorem R.nilif_inv {Γ : Ghost} {x : AV} (h : R Γ x .nilIface) (hx : x ≠ .junk) : x = .nilif := by
 have t := h.tag hx
 cases x <;> simp only [tagA, tagV] at t <;> first | rfl | omega
theorem R.agg_inv {Γ : Ghost} {x : AV} {cs : Array Value} (h : R Γ x (.agg cs)) (hx : x ≠ .junk) : ∃ xs, x = .agg xs := by
 have t := h.tag hx
 cases x <;> simp only [tagA, tagV] at t <;> first | exact ⟨_, rfl⟩ | omega
theorem eqA_ne_junk {E : Env} {n : Nat} {t : TypeId} {x y : AV} {b : Bool} (h : eqA E n t x y = some b) : x ≠ .junk /\ y ≠ .junk := by
 constructor <;> rintro rfl
 all_goals
  cases n with
  | zero => simp [eqA] at h
  | succ n => simp only [eqA] at h; split at h <;> (try cases h); split at h <;> first | contradiction | cases h
theorem guard_run {t : TypeId} {v u : Value} (c : Bool) (h1 : v = .nilIface -> u = .nilIface -> c = true) (h2 : ∀ a b, v = .agg a -> u = .agg b -> P.eqGuardType P.depth t = false) (w : World) :
  (match v, u with
    | .nilIface, .nilIface =>
     if c then (pure () : Sem Unit)
     else do if <- Op.eqGuardIn Op.maxDepth t v u then unsupported (.noEntry "binop/eql: two nil values of an interface type with methods, neither of them the literal nil")
    | .agg _, .agg _ => do
     if !(<- program).eqGuardType (<- program).depth t then return
     if <- Op.eqGuardIn Op.maxDepth t v u then unsupported (.noEntry "binop/eql: two nil values of an interface type with methods, in a part of a struct or an array")
    | _, _ => pure ()).run P w = .ok () w := by
 split
 ·rw [if_pos (h1 rfl rfl)]; rfl
 ·simp [run_program, h2 _ _ rfl rfl]
 ·rfl
theorem eqA_guard {E : Env} (hE : ∀ t y, E.ty t = some y -> TyOk P t y) {Γ : Ghost} {op : BinOp} {n : Nat} {t : TypeId} {xo yo : Operand} {x y : AV} {v u : Value} {b : Bool}
  (hn : (x.isNilIf && y.isNilIf && !isConstO xo && !isConstO yo) = false)
  (h : eqA E n t x y = some b) (hx : R Γ x v) (hy : R Γ y u) (w : World) : (eqGuard op t xo yo v u).run P w = .ok () w := by
 have g1 : v = .nilIface -> u = .nilIface -> (isConstO xo || isConstO yo) = true := by
  rintro rfl rfl
  rw [hx.nilif_inv (eqA_ne_junk h).1, hy.nilif_inv (eqA_ne_junk h).2] at hn
  cases h1 : isConstO xo <;> cases h2 : isConstO yo <;> simp_all [AV.isNilIf]
 clear hn
 have g2 : ∀ a c, v = .agg a -> u = .agg c -> P.eqGuardType P.depth t = false := by
  rintro a c rfl rfl
  obtain ⟨xs, rfl⟩ := hx.agg_inv (eqA_ne_junk h).1
  obtain ⟨ty, hty, hok⟩ := eqA_agg rfl h
  have hf := (hE t ty hty).eq hok
  simp only [eqFine, Bool.and_eq_true, Bool.not_eq_true'] at hf
  exact hf.1
 by_cases hop : op = .eql \/ op = .neq
 ·rcases hop with rfl | rfl
  ·exact guard_run _ (fun e1 e2 => (matches_const xo yo).trans (g1 e1 e2)) g2 w
  ·exact guard_run _ (fun e1 e2 => (matches_const xo yo).trans (g1 e1 e2)) g2 w
 ·exact run_eqGuard_skip op t xo yo v u (by simpa using hop) w
theorem run_binOp_eql {t : TypeId} {v u : Value} {b : Bool} {w : World} (h : (Op.equalIn 10000 t v u).run P w = .ok b w)
  (hi : ∀ k a l c, v = .int k a -> u = .int l c -> False) (hs : ∀ a c, v = .string a -> u = .string c -> False) (hf : ∀ k a l c, v = .float k a -> u = .float l c -> False)
  (hc : ∀ k a a' l c c', v = .complex k a a' -> u = .complex l c c' -> False) : (binOp .eql t v u).run P w = .ok (.bool b) w := by
 have e : binOp .eql t v u = (do pure (.bool (<- Op.equal t v u)) : Sem Value) := by
  unfold binOp
  split <;> first | contradiction | rfl | (exfalso; exact hi _ _ _ _ rfl rfl) | (exfalso; exact hs _ _ rfl rfl) | (exfalso; exact hf _ _ _ _ rfl rfl) | (exfalso; exact hc _ _ _ _ _ _ rfl rfl)
 rw [e]
 simp [Op.equal, Op.maxDepth, h]
theorem run_binOp_neq {t : TypeId} {v u : Value} {b : Bool} {w : World} (h : (Op.equalIn 10000 t v u).run P w = .ok b w)
  (hi : ∀ k a l c, v = .int k a -> u = .int l c -> False) (hs : ∀ a c, v = .string a -> u = .string c -> False) (hf : ∀ k a l c, v = .float k a -> u = .float l c -> False)
  (hc : ∀ k a a' l c c', v = .complex k a a' -> u = .complex l c c' -> False) : (binOp .neq t v u).run P w = .ok (.bool (!b)) w := by
 have e : binOp .neq t v u = (do pure (.bool (!(<- Op.equal t v u))) : Sem Value) := by
  unfold binOp
  split <;> first | contradiction | rfl | (exfalso; exact hi _ _ _ _ rfl rfl) | (exfalso; exact hs _ _ rfl rfl) | (exfalso; exact hf _ _ _ _ rfl rfl) | (exfalso; exact hc _ _ _ _ _ _ rfl rfl)
 rw [e]
 simp [Op.equal, Op.maxDepth, h]
theorem binA_sound {E : Env} (hE : ∀ t y, E.ty t = some y -> TyOk P t y) {Γ : Ghost} {op : BinOp} {t : TypeId} {xo yo : Operand} {x y : AV} {v u : Value} {r : AV}
  (h : binA E op t xo yo x y = some r) (hx : R Γ x v) (hy : R Γ y u) (w : World) :
  ∃ q, (do eqGuard op t xo yo v u; binOp op t v u : Sem Value).run P w = .ok q w /\ R Γ r q := by
 simp only [Sem.run_bind]
 unfold binA at h
 split at h
 ·simp only [R] at hx hy; subst hx; subst hy
  rename_i k a l b
  have hg : (eqGuard op t xo yo (.int k a) (.int l b)).run P w = .ok () w :=
   run_eqGuard_plain op t xo yo _ _ (.inl (by simp)) (.inl (by simp)) w
  rw [hg]
  simp only [Result.andThen_ok]
  split at h
  ·exact shiftA_sound (.inl rfl) h w
  ·exact shiftA_sound (.inr rfl) h w
  ·split at h
   ·rename_i hk; subst hk; exact intBin_sound h w
   ·cases h
 ·simp only [R] at hx hy; subst hx; subst hy
  rename_i a b
  have hg : (eqGuard op t xo yo (.string a) (.string b)).run P w = .ok () w :=
   run_eqGuard_plain op t xo yo _ _ (.inl (by simp)) (.inl (by simp)) w
  rw [hg]
  simp only [Result.andThen_ok]
  exact strBin_sound h w
 ·rename_i hni hns
  split at h
  ·split at h
   ·cases h
   ·rename_i hn
    simp only [Option.map_eq_some_iff] at h
    obtain ⟨b, hb, rfl⟩ := h
    have hj := eqA_ne_junk hb
    rw [eqA_guard hE (by simpa using hn) hb hx hy w]
    simp only [Result.andThen_ok]
    refine ⟨.bool b, run_binOp_eql (eqA_sound hE w 20 10000 (by omega) t x y v u b hb hx hy) ?_ ?_ ?_ ?_, by simp only [R]⟩
    ·rintro k a l c rfl rfl; exact hni _ _ _ _ (hx.int_inv hj.1) (hy.int_inv hj.2)
    ·rintro a c rfl rfl; exact hns _ _ (hx.str_inv hj.1) (hy.str_inv hj.2)
    ·rintro k a l c rfl rfl; exact hx.no_float hj.1
    ·rintro k a a' l c c' rfl rfl; exact hx.no_complex hj.1
  ·split at h
   ·cases h
   ·rename_i hn
    simp only [Option.map_eq_some_iff] at h
    obtain ⟨b, hb, rfl⟩ := h
    have hj := eqA_ne_junk hb
    rw [eqA_guard hE (by simpa using hn) hb hx hy w]
    simp only [Result.andThen_ok]
    refine ⟨.bool (!b), run_binOp_neq (eqA_sound hE w 20 10000 (by omega) t x y v u b hb hx hy) ?_ ?_ ?_ ?_, by simp only [R]⟩
    ·rintro k a l c rfl rfl; exact hni _ _ _ _ (hx.int_inv hj.1) (hy.int_inv hj.2)
    ·rintro a c rfl rfl; exact hns _ _ (hx.str_inv hj.1) (hy.str_inv hj.2)
    ·rintro k a l c rfl rfl; exact hx.no_float hj.1
    ·rintro k a a' l c c' rfl rfl; exact hx.no_complex hj.1
  ·cases h
end
end Go.Abs
namespace Go.Abs
open Go.RowKit
section
variable {P : Program}
theorem moved_sound {Γ : Ghost} {x r : AV} {off : Nat} {v : Value} (h : movedA x off = some r) (hx : R Γ x v) :
  ∃ b o, v = .pointer (some ⟨b, o, none⟩) /\ R Γ r (.pointer (some ⟨b, o + off, none⟩)) := by
 unfold movedA at h
 split at h
 ·cases h
  simp only [R] at hx ⊢
  obtain ⟨blk, base, sz, tot, h1, rfl⟩ := hx
  exact ⟨blk, _, rfl, blk, base, sz, tot, h1, by rw [Nat.add_assoc]⟩
 ·cases h
  simp only [R] at hx ⊢
  obtain ⟨blk, o, vs, rfl, h1, h2⟩ := hx
  refine ⟨blk, o, rfl, blk, o + off, vs.drop off, rfl, h1.drop off, fun j u hj => ?_⟩
  rw [List.getElem?_drop] at hj
  rw [Nat.add_assoc]
  exact h2 _ u hj
 ·cases h
theorem fsOf_get {U : TypeDesc} {f : Nat} {ft off : Nat} (h : (fsOf U)[f]? = some (ft, off)) : ∃ (F : Array Field) (g : Field), U = .struct F /\ F[f]? = some g /\ g.type = ft /\ g.offset = off := by
 cases U with
 | struct F =>
  simp only [fsOf, List.getElem?_map, Option.map_eq_some_iff] at h
  obtain ⟨g, hg, e⟩ := h
  rw [Array.getElem?_toList] at hg
  simp only [Prod.mk.injEq] at e
  exact ⟨F, g, rfl, hg, e.1, e.2⟩
 | _ => simp [fsOf] at h
theorem fieldAddr_sound {E : Env} (hE : ∀ t y, E.ty t = some y -> TyOk P t y) {Γ : Ghost} {s f ft off : Nat} {sty fty : Ty} {x r : AV} {v : Value}
  (hs : E.ty s = some sty) (hf : sty.fs[f]? = some (ft, off)) (hft : E.ty ft = some fty) (hz : fty.size ≠ 0) (h : movedA x off = some r) (hx : R Γ x v) (w : World) :
  ∃ u, (Instr.fieldAt s v f).run P w = .ok u w /\ R Γ r u := by
 obtain ⟨U, i, z, hu, hi, hz', g1, g2, g3, g4, g5, _⟩ := (hE s sty hs).ex
 rw [<- g5] at hf
 obtain ⟨F, g, rfl, hg, e1, e2⟩ := fsOf_get hf
 obtain ⟨b, o, rfl, hr⟩ := moved_sound h hx
 obtain ⟨i', z', hi', _, hs', _⟩ := (hE ft fty hft).zero
 have hsz : ¬ (i'.size = 0) := by rw [hs']; exact hz
 subst e1; subst e2
 simp only [Instr.fieldAt, Sem.run_bind, run_under hu, Result.andThen_ok, hg, Instr.sureAddr, Sem.run_pure, fieldPlace, run_size hi', Sem.run_ite, if_neg hsz, add_mk]
 exact ⟨_, rfl, hr⟩
theorem field_sound {E : Env} (hE : ∀ t y, E.ty t = some y -> TyOk P t y) {Γ : Ghost} {s f ft off : Nat} {sty : Ty} {cs : List AV} {r : AV} {v : Value}
  (hs : E.ty s = some sty) (hf : sty.fs[f]? = some (ft, off)) (h : partA E ft cs off = some r) (hx : R Γ (.agg cs) v) (w : World) :
  ∃ u, (Instr.field s v f).run P w = .ok u w /\ R Γ r u := by
 obtain ⟨U, i, z, hu, hi, hz', g1, g2, g3, g4, g5, _⟩ := (hE s sty hs).ex
 rw [<- g5] at hf
 obtain ⟨F, g, rfl, hg, e1, e2⟩ := fsOf_get hf
 simp only [R] at hx
 obtain ⟨vs, rfl, hvs⟩ := hx
 subst e1; subst e2
 obtain ⟨u, h1, h2⟩ := part_sound hE h hvs w
 simp only [Instr.field, Sem.run_bind, run_under hu, Result.andThen_ok, hg, asAgg, Sem.run_pure, h1]
 exact ⟨_, rfl, h2⟩
theorem elemAddr_sound {Γ : Ghost} {x r : AV} {size : Nat} {i : Int} {v : Value} (h : elemAddrA size x i = some r) (hx : R Γ x v) :
  ∃ b o n c, v = .slice (some ⟨b, o, none⟩) n c /\ 0 <= i /\ i < n /\ R Γ r (.pointer (some ⟨b, o + i.toNat * size, none⟩)) := by
 unfold elemAddrA at h
 split at h
 ·rename_i sz own xs
  split at h
  ·rename_i hc
   obtain ⟨rfl, h0⟩ := hc
   split at h
   ·rename_i y hy
    cases h
    simp only [R] at hx ⊢
    obtain ⟨blk, o, cap, rfl, h1, h2, h3, h4⟩ := hx
    have hi : i.toNat < xs.length := by
     rcases Nat.lt_or_ge i.toNat xs.length with k | k
     ·exact k
     ·rw [List.getElem?_eq_none k] at hy; cases hy
    obtain ⟨u, k1, k2, k3, k4⟩ := h4.get i.toNat y hy
    exact ⟨blk, o, _, _, rfl, h0, by omega, blk, _, u.cells.toList, rfl, k1.cells (AV.ne_junk_of_ok k2), k4⟩
   ·cases h
  ·cases h
 ·rename_i sz b off len
  split at h
  ·rename_i hc
   obtain ⟨rfl, h0, h1⟩ := hc
   cases h
   simp only [R] at hx ⊢
   obtain ⟨blk, base, tot, o, cap, k1, rfl, k2, k3⟩ := hx
   refine ⟨blk, o, _, _, rfl, h0, h1, blk, base, size, tot, k1, ?_⟩
   rcases k3 with k3 | ⟨rfl, _⟩
   ·omega
   ·rw [Nat.add_mul, Nat.add_zero, Nat.add_assoc]
  ·cases h
 ·cases h
theorem indexAddr_slice_sound {E : Env} (hE : ∀ t y, E.ty t = some y -> TyOk P t y) {Γ : Ghost} {t e : TypeId} {ty et : Ty} {x r : AV} {i : Int} {k : IntKind} {v : Value}
  (ht : E.ty t = some ty) (hd : ty.d = .slice e) (he : E.ty e = some et) (h : elemAddrA et.size x i = some r) (hx : R Γ x v) (w : World) :
  ∃ u, (Instr.indexAt t v (.int k i)).run P w = .ok u w /\ R Γ r u := by
 obtain ⟨U, i', z, hu, hi, hz', g1, _⟩ := (hE t ty ht).ex
 have gi := tdOf_inv g1
 rw [hd] at gi
 simp only [TDIs] at gi
 subst gi
 obtain ⟨b, o, n, c, rfl, h0, h1, hr⟩ := elemAddr_sound h hx
 obtain ⟨ei, ez, hei, _, hes, _⟩ := (hE e et he).zero
 simp only [Instr.indexAt, Sem.run_bind, asIntOf, Sem.run_pure, Result.andThen_ok, run_under hu]
 rw [if_pos ⟨h0, h1⟩]
 simp only [Sem.run_bind, run_size hei, Result.andThen_ok, Sem.run_pure, add_mk, hes]
 exact ⟨_, rfl, hr⟩
theorem indexAddr_array_sound {E : Env} (hE : ∀ t y, E.ty t = some y -> TyOk P t y) {Γ : Ghost} {t e n : Nat} {ty et : Ty} {x r : AV} {i : Int} {k : IntKind} {v : Value}
  (ht : E.ty t = some ty) (hd : ty.d = .array n e) (he : E.ty e = some et) (hi : 0 <= i /\ i < n) (h : movedA x (i.toNat * et.size) = some r) (hx : R Γ x v) (w : World) :
  ∃ u, (Instr.indexAt t v (.int k i)).run P w = .ok u w /\ R Γ r u := by
 obtain ⟨U, i', z, hu, _, hz', g1, _⟩ := (hE t ty ht).ex
 have gi := tdOf_inv g1
 rw [hd] at gi
 simp only [TDIs] at gi
 subst gi
 obtain ⟨b, o, rfl, hr⟩ := moved_sound h hx
 obtain ⟨ei, ez, hei, _, hes, _⟩ := (hE e et he).zero
 simp only [Instr.indexAt, Sem.run_bind, asIntOf, Sem.run_pure, Result.andThen_ok, run_under hu, Instr.sureAddr]
 rw [if_pos hi]
 simp only [Sem.run_bind, run_size hei, Result.andThen_ok, Sem.run_pure, add_mk, hes]
 exact ⟨_, rfl, hr⟩
theorem index_array_sound {E : Env} (hE : ∀ t y, E.ty t = some y -> TyOk P t y) {Γ : Ghost} {t e n : Nat} {ty et : Ty} {cs : List AV} {r : AV} {i : Int} {k : IntKind} {v : Value}
  (ht : E.ty t = some ty) (hd : ty.d = .array n e) (he : E.ty e = some et) (hi : 0 <= i /\ i < n) (h : partA E e cs (i.toNat * et.size) = some r) (hx : R Γ (.agg cs) v) (w : World) :
  ∃ u, (Instr.index t v (.int k i)).run P w = .ok u w /\ R Γ r u := by
 obtain ⟨U, i', z, hu, _, hz', g1, _⟩ := (hE t ty ht).ex
 have gi := tdOf_inv g1
 rw [hd] at gi
 simp only [TDIs] at gi
 subst gi
 simp only [R] at hx
 obtain ⟨vs, rfl, hvs⟩ := hx
 obtain ⟨ei, ez, hei, _, hes, _⟩ := (hE e et he).zero
 obtain ⟨u, h1, h2⟩ := part_sound hE h hvs w
 simp only [Instr.index, Sem.run_bind, asIntOf, Sem.run_pure, Result.andThen_ok, run_under hu]
 rw [if_pos hi]
 simp only [Sem.run_bind, run_size hei, Result.andThen_ok, hes, h1]
 exact ⟨_, rfl, h2⟩
theorem index_string_sound {E : Env} (hE : ∀ t y, E.ty t = some y -> TyOk P t y) {t : Nat} {ty : Ty} {s : ByteArray} {i : Int} {k : IntKind} {b : UInt8}
  (ht : E.ty t = some ty) (hd : ty.d = .string) (h0 : 0 <= i) (h : s[i.toNat]? = some b) (w : World) :
  (Instr.index t (.string s) (.int k i)).run P w = .ok (.int .u8 b.toNat) w := by
 obtain ⟨U, i', z, hu, _, hz', g1, _⟩ := (hE t ty ht).ex
 have gi := tdOf_inv g1
 rw [hd] at gi
 simp only [TDIs] at gi
 subst gi
 simp only [Instr.index, Sem.run_bind, asIntOf, Sem.run_pure, Result.andThen_ok, run_under hu, if_pos h0, h]
theorem asNat_sound {x : AV} {y n : Nat} {Γ : Ghost} {v : Value} (h : asNat x y = some n) (hx : R Γ x v) (w : World) (m : Nat) (hm : y <= m) (code : BoundsCode) :
  (Instr.sliceBound v m code).run P w = .ok n w /\ n <= y := by
 unfold asNat at h
 split at h
 ·rename_i k i
  split at h
  ·rename_i hc
   cases h
   simp only [R] at hx; subst hx
   refine ⟨?_, by omega⟩
   simp only [Instr.sliceBound, asIntOf, Sem.run_bind, Sem.run_pure, Result.andThen_ok]
   rw [if_pos ⟨hc.1, by omega⟩]
   rfl
  ·cases h
 ·cases h
def RO (Γ : Ghost) : Option AV -> Option Value -> Prop
 | none, none => True
 | some x, some v => R Γ x v
 | _, _ => False
theorem RT.evalO? {Γ : Ghost} {tm : TM} {a : Act} (h : RT Γ tm a.tmps) (x : Option Operand) : RO Γ (x.map (evalO tm)) (x.map a.eval) := by
 cases x with
 | none => trivial
 | some x => exact h.eval x
theorem cutA_sound {Γ : Ghost} {len cap : Nat} {lo hi mx : Option AV} {lo' hi' mx' : Option Value} {l h : Nat} {f : Bool} (hc : cutA len lo hi mx = some (l, h, f))
  (h1 : RO Γ lo lo') (h2 : RO Γ hi hi') (h3 : RO Γ mx mx') (hlen : len <= cap) (isSl : Bool) (w : World) :
  ∃ m, (Instr.sliceBounds isSl len cap lo' hi' mx').run P w = .ok (l, h, m) w /\ l <= h /\ h <= len /\ h <= m /\ m <= cap /\ (f = true -> m = h) /\ (f = false -> m = cap) := by
 unfold cutA at hc
 cases mx with
 | none =>
  cases mx' with
  | some _ => exact h3.elim
  | none =>
   simp only at hc
   split at hc
   ·cases hc
   ·rename_i h' hh
    split at hc
    ·cases hc
    ·rename_i l' hl
     cases hc
     refine ⟨cap, ?_⟩
     have hhi : (match hi', (none : Option Value) with
      | some v, some _ => Instr.sliceBound v cap .slice3B
      | some v, none => Instr.sliceBound v cap (if isSl then .sliceAcap else .sliceAlen)
      | none, none => pure len
      | none, some _ => stuck "Slice: max without high").run P w = .ok h w /\ h <= len := by
      cases hi with
      | none =>
       cases hi' with
       | some _ => exact h2.elim
       | none => simp only [optNat, Option.some.injEq] at hh; subst hh; exact ⟨rfl, Nat.le_refl _⟩
      | some y =>
       cases hi' with
       | none => exact h2.elim
       | some v => exact asNat_sound hh h2 w cap hlen _
     have hlo : (match lo' with
      | some v => Instr.sliceBound v h (if (none : Option Value).isSome then .slice3C else .sliceB)
      | none => pure 0).run P w = .ok l w /\ l <= h := by
      cases lo with
      | none =>
       cases lo' with
       | some _ => exact h1.elim
       | none => simp only [optNat, Option.some.injEq] at hl; subst hl; exact ⟨rfl, Nat.zero_le _⟩
      | some y =>
       cases lo' with
       | none => exact h1.elim
       | some v => exact asNat_sound hl h1 w h (Nat.le_refl _) _
     refine ⟨?_, hlo.2, hhi.2, Nat.le_trans hhi.2 hlen, Nat.le_refl _, (fun e => by cases e), fun _ => rfl⟩
     have e1 := hhi.1
     have e2 := hlo.1
     cases hi' <;> cases lo' <;> simp_all [Instr.sliceBounds]
 | some m =>
  cases mx' with
  | none => exact h3.elim
  | some mv =>
   cases hi with
   | none => simp only at hc; split at hc <;> first | contradiction | cases hc
   | some y =>
    cases hi' with
    | none => exact h2.elim
    | some hv =>
     cases hm : asNat m len with
     | none => simp only [hm] at hc; cases hc
     | some m' =>
      simp only [hm] at hc
      split at hc
      ·cases hc
      ·rename_i h' hh
       split at hc
       ·cases hc
       ·rename_i l' hl
        split at hc
        ·rename_i he
         cases hc
         obtain ⟨a1, a2⟩ := asNat_sound (P := P) hm h3 w cap hlen (if isSl then .slice3Acap else .slice3Alen)
         obtain ⟨b1, b2⟩ := asNat_sound (P := P) hh h2 w m' (Nat.le_refl _) .slice3B
         have hlo : (match lo' with
          | some v => Instr.sliceBound v h (if (some mv : Option Value).isSome then .slice3C else .sliceB)
          | none => pure 0).run P w = .ok l w /\ l <= h := by
          cases lo with
          | none =>
           cases lo' with
           | some _ => exact h1.elim
           | none => simp only [optNat, Option.some.injEq] at hl; subst hl; exact ⟨rfl, Nat.zero_le _⟩
          | some y =>
           cases lo' with
           | none => exact h1.elim
           | some v => exact asNat_sound hl h1 w h (Nat.le_refl _) _
         subst he
         refine ⟨m', ?_, hlo.2, a2, Nat.le_refl _, Nat.le_trans a2 hlen, fun _ => rfl, (fun e => by cases e)⟩
         have e2 := hlo.1
         cases lo' <;> simp_all [Instr.sliceBounds]
        ·cases hc
end
end Go.Abs
namespace Go.Abs
open Go.RowKit
section
variable {P : Program}
theorem sliceAt_eq {t : TypeId} {u : TypeDesc} (hu : P.underlying t = some u) (hn : ∀ n e, u ≠ .array n e) (v : Value) (lo hi mx : Option Value) (w : World) :
  (Instr.sliceAt t v lo hi mx).run P w = (Instr.slice t v lo hi mx).run P w := by
 simp only [Instr.sliceAt, Sem.run_bind, run_under hu, Result.andThen_ok]
theorem slice_sound {E : Env} (hE : ∀ t y, E.ty t = some y -> TyOk P t y) {Γ : Ghost} {t : TypeId} {x r : AV} {lo hi mx : Option AV} {v : Value} {lo' hi' mx' : Option Value}
  (h : sliceA E t x lo hi mx = some r) (hx : R Γ x v) (h1 : RO Γ lo lo') (h2 : RO Γ hi hi') (h3 : RO Γ mx mx') (w : World) :
  ∃ u, (Instr.sliceAt t v lo' hi' mx').run P w = .ok u w /\ R Γ r u := by
 unfold sliceA at h
 split at h
 ·cases h
 ·rename_i ty ht
  obtain ⟨U, i', z, hu, _, hz', g1, _⟩ := (hE t ty ht).ex
  have gi := tdOf_inv g1
  split at h
  ·-- a string
   rename_i s hd
   rw [hd] at gi; simp only [TDIs] at gi; subst gi
   rw [sliceAt_eq hu (by intro n e k; cases k)]
   cases mx with
   | some _ => simp only at h; cases h
   | none =>
    cases mx' with
    | some _ => exact h3.elim
    | none =>
     simp only at h
     split at h
     ·rename_i l hh f hc
      cases h
      simp only [R] at hx; subst hx
      obtain ⟨m, hr, _⟩ := cutA_sound (P := P) (mx' := none) hc h1 h2 trivial (Nat.le_refl _) false w
      simp only [Instr.slice, Sem.run_bind, run_under hu, Result.andThen_ok, Option.isSome_none, Bool.false_eq_true, if_false, Sem.run_pure, hr]
      exact ⟨.string (s.extract l hh), rfl, by simp only [R]⟩
     ·cases h
  ·-- an array that lies in memory
   rename_i n e cells hd
   rw [hd] at gi; simp only [TDIs] at gi; subst gi
   split at h
   ·rename_i et he
    split at h
    ·rename_i hc
     obtain ⟨c1, c2, c3⟩ := hc
     split at h
     ·cases h
      obtain ⟨ei, ez, hei, _, hes, _⟩ := (hE e et he).zero
      cases lo' with
      | some _ => exact h1.elim
      | none =>
       cases hi' with
       | some _ => exact h2.elim
       | none =>
        cases mx' with
        | some _ => exact h3.elim
        | none =>
         simp only [R] at hx
         obtain ⟨blk, o, vs, rfl, k1, k2⟩ := hx
         have hrun : (Instr.sliceAt t (.pointer (some ⟨blk, o, none⟩)) none none none).run P w = .ok (.slice (some (if n = 0 then ⟨blk, o, none⟩ else (⟨blk, o, none⟩ : Addr).add (0 * ei.size))) (n - 0) (n - 0)) w := by
          simp only [Instr.sliceAt, Sem.run_bind, run_under hu, Result.andThen_ok, Instr.sureAddr, Sem.run_pure, Instr.sliceBounds, run_size hei]
         have ha : (if n = 0 then (⟨blk, o, none⟩ : Addr) else (⟨blk, o, none⟩ : Addr).add (0 * ei.size)) = ⟨blk, o, none⟩ := by
          split
          ·rfl
          ·rw [Nat.zero_mul]; rfl
         rw [ha] at hrun
         have hl : (cells.take n).length = n := by rw [List.length_take]; omega
         refine ⟨_, hrun, ?_⟩
         simp only [R]
         refine ⟨blk, o, n, by rw [hl]; rfl, by rw [hl]; exact Nat.le_refl _, Nat.one_pos, by rw [hl]; rfl, RE.mk fun i x hx => ?_⟩
         rw [List.getElem?_take] at hx
         split at hx
         ·obtain ⟨u, hu1, hu2⟩ := k1.get i x hx
          have hok : x.cellOk = true := List.all_eq_true.1 c3 x (List.mem_of_getElem? hx)
          have hcells : u.cells = #[u] := by
           have := hu2.oneCell hok
           cases u <;> first | rfl | (exact absurd rfl (this.1 _))
          refine ⟨u, hu2, by cases x <;> first | exact hok | (simp [AV.cellOk] at hok), by rw [hcells]; rfl, fun j z hj => ?_⟩
          rw [hcells] at hj
          cases j with
          | zero =>
           simp only [List.getElem?_cons_zero, Option.some.injEq] at hj
           subst hj
           rw [Nat.mul_one, Nat.add_zero]
           exact k2 i _ hu1
          | succ j => simp at hj
         ·cases hx
     ·cases h
    ·cases h
   ·cases h
  ·-- nil
   rename_i e hd
   rw [hd] at gi; simp only [TDIs] at gi; subst gi
   rw [sliceAt_eq hu (by intro n e k; cases k)]
   split at h
   ·rename_i et q he hc
    cases h
    simp only [R] at hx; subst hx
    obtain ⟨l, hh, f⟩ := q
    obtain ⟨m, hr, a1, a2, a3, a4, _⟩ := cutA_sound (P := P) hc h1 h2 h3 (Nat.le_refl 0) true w
    obtain ⟨ei, ez, hei, _, hes, _⟩ := (hE e et he).zero
    simp only [Instr.slice, Sem.run_bind, run_under hu, Result.andThen_ok, hr, run_size hei, Sem.run_pure]
    refine ⟨_, rfl, ?_⟩
    simp only [R]
    have : m = 0 := by omega
    have : l = 0 := by omega
    have : hh = 0 := by omega
    subst_vars
    simp
   ·cases h
  ·-- an empty slice
   rename_i e hd
   rw [hd] at gi; simp only [TDIs] at gi; subst gi
   rw [sliceAt_eq hu (by intro n e k; cases k)]
   split at h
   ·rename_i et q he hc
    cases h
    simp only [R] at hx
    obtain ⟨a, cap, rfl⟩ := hx
    obtain ⟨l, hh, f⟩ := q
    obtain ⟨m, hr, a1, a2, a3, a4, _⟩ := cutA_sound (P := P) hc h1 h2 h3 (Nat.zero_le cap) true w
    obtain ⟨ei, ez, hei, _, hes, _⟩ := (hE e et he).zero
    simp only [Instr.slice, Sem.run_bind, run_under hu, Result.andThen_ok, hr, run_size hei, Sem.run_pure, Option.map_some]
    refine ⟨_, rfl, ?_⟩
    simp only [R]
    have : l = 0 := by omega
    have : hh = 0 := by omega
    subst_vars
    split <;> exact ⟨_, _, rfl⟩
   ·cases h
  ·-- a slice whose content stands inline
   rename_i e sz own xs hd
   rw [hd] at gi; simp only [TDIs] at gi; subst gi
   rw [sliceAt_eq hu (by intro n e k; cases k)]
   split at h
   ·cases h
   ·rename_i et he
    obtain ⟨ei, ez, hei, _, hes, _⟩ := (hE e et he).zero
    split at h
    ·rename_i hsz
     simp only [R] at hx
     obtain ⟨blk, o, cap, rfl, k1, k2, k3, k4⟩ := hx
     have main : ∀ l hh f own', cutA xs.length lo hi mx = some (l, hh, f) -> r = .vs sz own' ((xs.drop l).take (hh - l)) ->
       (∀ m, l <= hh -> hh <= xs.length -> hh <= m -> m <= cap -> (f = true -> m = hh) -> (f = false -> m = cap) -> m ≠ l -> OwnOk Γ own' blk (o + l * sz) sz (hh - l) (m - l)) ->
       ((∀ t, own' = .tok t -> True) /\ (own' = .full \/ own' = .any \/ ∃ t, own' = .tok t)) ->
       ∃ u, (Instr.slice t (.slice (some ⟨blk, o, none⟩) xs.length cap) lo' hi' mx').run P w = .ok u w /\ R Γ r u := by
      intro l hh f own' hc hr hown _
      obtain ⟨m, hrun, a1, a2, a3, a4, a5, a6⟩ := cutA_sound (P := P) hc h1 h2 h3 k1 true w
      simp only [Instr.slice, Sem.run_bind, run_under hu, Result.andThen_ok, hrun, run_size hei, Sem.run_pure, Option.map_some, add_mk, hes, hsz]
      refine ⟨_, rfl, ?_⟩
      subst hr
      have hlen : ((xs.drop l).take (hh - l)).length = hh - l := by rw [List.length_take, List.length_drop]; omega
      by_cases hml : m = l
      ·rw [if_pos hml]
       simp only [R]
       refine ⟨blk, o, m - l, ?_, by omega, k2, ?_, ?_⟩
       ·rw [hlen]
       ·rw [hlen]
        have e1 : m - l = hh - l := by omega
        rw [e1]
        cases own' with
        | full => rfl
        | any => trivial
        | tok t => exact .inl (by omega)
       ·have : (xs.drop l).take (hh - l) = [] := by
         have : hh - l = 0 := by omega
         rw [this]; rfl
        rw [this]; simp only [RE]
      ·rw [if_neg hml]
       simp only [R]
       refine ⟨blk, o + l * sz, m - l, ?_, by omega, k2, ?_, ?_⟩
       ·rw [hlen]
       ·rw [hlen]; exact hown m a1 a2 a3 a4 a5 a6 hml
       ·exact (k4.drop l).take (hh - l)
     split at h
     ·rename_i l hh hc
      cases h
      exact main l hh true .full hc rfl (fun m b1 b2 b3 b4 b5 b6 b7 => by have := b5 rfl; subst this; rfl) ⟨fun _ _ => trivial, .inl rfl⟩
     ·rename_i l hh hc
      cases h
      refine main l hh false _ hc rfl (fun m b1 b2 b3 b4 b5 b6 b7 => ?_) ⟨fun _ _ => trivial, ?_⟩
      ·have hm := b6 rfl
       subst hm
       split
       ·rename_i he'
        subst he'
        cases own with
        | full => have : m = xs.length := k3; subst this; rfl
        | any => trivial
        | tok tk =>
         rcases k3 with k3 | ⟨e', tot, c1, c2, c3⟩
         ·exact .inl (by omega)
         ·refine .inr ⟨e', tot, c1, ?_, ?_⟩
          ·rw [<- c2, Nat.add_assoc, <- Nat.add_mul]; congr 2; omega
          ·have : o + l * sz + (m - l) * sz = o + m * sz := by rw [Nat.add_assoc, <- Nat.add_mul]; congr 2; omega
           omega
       ·trivial
      ·split
       ·cases own <;> simp
       ·exact .inr (.inl rfl)
     ·cases h
    ·cases h
  ·-- a slice of a row
   rename_i e sz b off len hd
   rw [hd] at gi; simp only [TDIs] at gi; subst gi
   rw [sliceAt_eq hu (by intro n e k; cases k)]
   split at h
   ·cases h
   ·rename_i et he
    obtain ⟨ei, ez, hei, _, hes, _⟩ := (hE e et he).zero
    split at h
    ·rename_i hsz
     split at h
     ·rename_i l hh f hc
      cases h
      simp only [R] at hx
      obtain ⟨blk, base, tot, o, cap, k1, rfl, k2, k3⟩ := hx
      obtain ⟨m, hrun, a1, a2, a3, a4, a5, a6⟩ := cutA_sound (P := P) hc h1 h2 h3 k2 true w
      simp only [Instr.slice, Sem.run_bind, run_under hu, Result.andThen_ok, hrun, run_size hei, Sem.run_pure, Option.map_some, add_mk, hes, hsz]
      refine ⟨_, rfl, ?_⟩
      simp only [R]
      by_cases hml : m = l
      ·rw [if_pos hml]
       exact ⟨blk, base, tot, o, m - l, k1, rfl, by omega, .inl (by omega)⟩
      ·rw [if_neg hml]
       refine ⟨blk, base, tot, o + l * sz, m - l, k1, rfl, by omega, ?_⟩
       rcases k3 with k3 | ⟨k3, k4⟩
       ·omega
       ·refine .inr ⟨?_, by omega⟩
        rw [k3, Nat.add_assoc, <- Nat.add_mul]
     ·cases h
    ·cases h
  ·cases h
theorem foldl_set (l : List Value) : ∀ (j off : Nat) (cs : Array Value), off + j + l.length <= cs.size ->
  ((l.zipIdx j).foldl (fun cs (p : Value × Nat) => cs.setIfInBounds (off + p.2) p.1) cs).toList = cs.toList.take (off + j) ++ l ++ cs.toList.drop (off + j + l.length) := by
 induction l with
 | nil => intro j off cs h; simp
 | cons v l ih =>
  intro j off cs h
  simp only [List.length_cons] at h
  simp only [List.zipIdx_cons, List.foldl_cons]
  rw [ih (j + 1) off _ (by rw [Array.size_setIfInBounds]; omega)]
  rw [Array.toList_setIfInBounds]
  apply List.ext_getElem?
  intro k
  simp only [List.getElem?_append, List.length_take, List.length_set, Array.length_toList, List.length_append, List.getElem?_take, List.getElem?_set, List.getElem?_drop, List.length_cons]
  have hm : min (off + (j + 1)) cs.size = off + j + 1 := by omega
  have hm' : min (off + j) cs.size = off + j := by omega
  rw [hm, hm']
  by_cases c1 : k < off + j
  ·have : k < off + j + 1 + l.length := by omega
   have d1 : k < off + j + 1 := by omega
   have d2 : k < off + j + (l.length + 1) := by omega
   have d3 : ¬ off + j = k := by omega
   have d4 : k < off + (j + 1) := by omega
   simp [c1, this, d1, d2, d3, d4]
  ·by_cases c2 : k = off + j
   ·subst c2
    have d1 : off + j < off + j + 1 + l.length := by omega
    have d2 : off + j < off + (j + 1) := by omega
    have d4 : off + j < cs.size := by omega
    simp [d1, d2, d4]
   ·have d1 : ¬ k < off + j + 1 := by omega
    have d3 : ¬ off + j = k := by omega
    have e1 : k - (off + j) = (k - (off + j + 1)) + 1 := by omega
    by_cases c3 : k < off + j + 1 + l.length
    ·have d5 : k < off + j + (l.length + 1) := by omega
     simp [c1, c3, d1, d5, e1]
    ·have d5 : ¬ k < off + j + (l.length + 1) := by omega
     have e2 : off + (j + 1) + l.length + (k - (off + j + 1 + l.length)) = off + j + (l.length + 1) + (k - (off + j + (l.length + 1))) := by omega
     have e3 : ¬ off + j = off + j + (l.length + 1) + (k - (off + j + (l.length + 1))) := by omega
     simp only [c1, c3, d5, if_false, e2, e3]
theorem fill_cells (vs cs : Array Value) (off : Nat) (h : off + vs.size <= cs.size) :
  (vs.zipIdx.foldl (fun cs (p : Value × Nat) => cs.setIfInBounds (off + p.2) p.1) cs).toList = cs.toList.take off ++ vs.toList ++ cs.toList.drop (off + vs.size) := by
 have := foldl_set vs.toList 0 off cs (by simpa using h)
 rw [<- Array.foldl_toList, Array.toList_zipIdx]
 simpa using this
theorem fill_sound {Γ : Ghost} {place : Nat -> Option (Nat × Nat)} {place' : Nat -> Option (Nat × Nat)} (hp : ∀ i x, place i = some x -> place' i = some x) :
  ∀ (parts : List (Nat × AV)) (vparts : List (Nat × Value)) (cells cs : List AV) (vc : Array Value), fillA place cells parts = some cs ->
   parts.map Prod.fst = vparts.map Prod.fst -> RL Γ (parts.map Prod.snd) (vparts.map Prod.snd) -> RL Γ cells vc.toList ->
   ∃ vcs, Instr.fill place' vc vparts = some vcs /\ RL Γ cs vcs.toList := by
 intro parts
 induction parts with
 | nil =>
  intro vparts cells cs vc h h1 h2 h3
  cases vparts with
  | nil => simp only [fillA, Option.some.injEq] at h; subst h; exact ⟨vc, rfl, h3⟩
  | cons _ _ => simp at h1
 | cons p parts ih =>
  intro vparts cells cs vc h h1 h2 h3
  obtain ⟨i, x⟩ := p
  cases vparts with
  | nil => simp at h1
  | cons q vparts =>
   obtain ⟨j, v⟩ := q
   simp only [List.map_cons, List.cons.injEq] at h1
   obtain ⟨rfl, h1⟩ := h1
   simp only [List.map_cons] at h2
   obtain ⟨v', r', e', hv, h2⟩ := h2.of_cons
   simp only [List.cons.injEq] at e'
   obtain ⟨rfl, rfl⟩ := e'
   simp only [fillA] at h
   split at h
   ·cases h
   ·rename_i off size hpl
    split at h
    ·rename_i hc
     simp only [Bool.and_eq_true, beq_iff_eq, decide_eq_true_eq] at hc
     obtain ⟨⟨c1, c2⟩, c3⟩ := hc
     have hcl := hv.cells (AV.ne_junk_of_ok c1)
     have hvs : v.cells.size = size := by rw [<- c2, <- hcl.length, Array.length_toList]
     have hlen := h3.length
     rw [Array.length_toList] at hlen
     have hoff : off + v.cells.size <= vc.size := by omega
     simp only [Instr.fill, hp _ _ hpl]
     rw [if_neg (by simp; omega)]
     refine ih vparts _ cs _ h h1 h2 ?_
     rw [fill_cells v.cells vc off hoff, hvs]
     exact ((h3.take off).append hcl).append (h3.drop (off + size))
    ·cases h
theorem places_sound {E : Env} (hE : ∀ t y, E.ty t = some y -> TyOk P t y) : ∀ (F : List Field), ((F.map fun f => (f.type, f.offset)).all fun f => (E.ty f.1).isSome) = true ->
  ∃ places, F.mapM (fun f => (P.info? f.type).map fun i => (f.offset, i.size)) = some places /\
   ∀ i x, fieldPlaces E (F.map fun f => (f.type, f.offset)) i = some x -> places[i]? = some x
 | [], _ => ⟨[], rfl, fun i x h => by simp [fieldPlaces] at h⟩
 | f :: F, h => by
  simp only [List.map_cons, List.all_cons, Bool.and_eq_true] at h
  obtain ⟨y, hy⟩ := Option.isSome_iff_exists.1 h.1
  obtain ⟨i, z, hi, _, hs, _⟩ := (hE f.type y hy).zero
  obtain ⟨places, h1, h2⟩ := places_sound hE F h.2
  refine ⟨(f.offset, i.size) :: places, by simp [List.mapM_cons, hi, h1], fun k x hx => ?_⟩
  cases k with
  | zero =>
   simp only [fieldPlaces, List.map_cons, List.getElem?_cons_zero, hy, Option.map_some, Option.some.injEq] at hx
   simp [<- hx, hs]
  | succ k => simpa [fieldPlaces] using h2 k x (by simpa [fieldPlaces] using hx)
theorem build_sound {E : Env} (hE : ∀ t y, E.ty t = some y -> TyOk P t y) {Γ : Ghost} {t : TypeId} {parts : List (Nat × AV)} {vparts : Array (Nat × Value)} {r : AV}
  (h : buildA E t parts = some r) (h1 : parts.map Prod.fst = vparts.toList.map Prod.fst) (h2 : RL Γ (parts.map Prod.snd) (vparts.toList.map Prod.snd)) (w : World) :
  ∃ u, (Instr.build t vparts).run P w = .ok u w /\ R Γ r u := by
 unfold buildA at h
 split at h
 ·cases h
 ·rename_i ty ht
  obtain ⟨U, i', z, hu, hi', hz', g1, g2, g3, g4, g5, g6, g7, g8, g9⟩ := (hE t ty ht).ex
  have gi := tdOf_inv g1
  have hzc : RL Γ ty.zero z.cells.toList := by rw [<- g6]; exact RL.ofCells _
  split at h
  ·rename_i hd
   rw [hd] at gi; simp only [TDIs] at gi
   obtain ⟨F, rfl⟩ := gi
   split at h
   ·rename_i hall
    simp only [Option.map_eq_some_iff] at h
    obtain ⟨cs, hc, rfl⟩ := h
    have hfs : ty.fs = F.toList.map fun f => (f.type, f.offset) := g5.symm
    obtain ⟨places, hpl, hpl'⟩ := places_sound hE F.toList (by rw [<- hfs]; exact hall)
    rw [<- hfs] at hpl'
    obtain ⟨vcs, k1, k2⟩ := fill_sound (place' := (places.toArray[·]?)) (fun i x hx => by simpa using hpl' i x hx) parts vparts.toList ty.zero cs z.cells hc h1 h2 hzc
    refine ⟨.agg vcs, run_build w t vparts vcs ?_, by simp only [R]; exact ⟨vcs, rfl, k2⟩⟩
    unfold Program.built
    simp only [hi', hu, hz', hpl, k1]
   ·cases h
  ·rename_i n e hd
   rw [hd] at gi; simp only [TDIs] at gi; subst gi
   split at h
   ·cases h
   ·rename_i et he
    obtain ⟨ei, ez, hei, _, hes, _⟩ := (hE e et he).zero
    simp only [Option.map_eq_some_iff] at h
    obtain ⟨cs, hc, rfl⟩ := h
    obtain ⟨vcs, k1, k2⟩ := fill_sound (place' := fun i => some (i * ei.size, ei.size)) (fun i x hx => by rw [hes]; exact hx) parts vparts.toList ty.zero cs z.cells hc h1 h2 hzc
    simp only [Instr.build, Sem.run_bind, run_zero hi' hz', Result.andThen_ok, run_under hu, run_size hei, k1, Sem.run_pure]
    exact ⟨_, rfl, by simp only [R]; exact ⟨vcs, rfl, k2⟩⟩
  ·cases h
end
end Go.Abs
namespace Go.Abs
open Go.RowKit
section
variable {P : Program}
theorem drop_set_cells {cells v : List Value} {o sz : Nat} (h1 : o + sz <= cells.length) (h2 : v.length = sz) (k : Nat) :
  (cells.take o ++ v ++ cells.drop (o + sz))[k]? = if k < o then cells[k]? else if k < o + sz then v[k - o]? else cells[k]? := by
 rw [List.getElem?_append, List.getElem?_append]
 simp only [List.length_append, List.length_take, List.getElem?_take, List.getElem?_drop, h2]
 have hm : min o cells.length = o := by omega
 rw [hm]
 by_cases c1 : k < o
 ·have : k < o + sz := by omega
  simp [c1, this]
 ·by_cases c2 : k < o + sz
  ·simp [c1, c2]
  ·simp only [c1, c2, if_false]
   congr 1
   omega
theorem lit_sound {Γ : Ghost} {et : Ty} {z : Value} (hz1 : z.cells.size = et.size) (hz2 : et.zeroV.ok = true) (hz3 : R Γ et.zeroV z) :
  ∀ (n i : Nat) (parts : List (Nat × AV)) (vparts : List (Nat × Value)) (xs : List AV) (cells : Array Value), litA et i n parts = some xs ->
   parts.map Prod.fst = vparts.map Prod.fst -> RL Γ (parts.map Prod.snd) (vparts.map Prod.snd) -> cells.size = (i + n) * et.size ->
   (∀ j k, i <= j -> j < i + n -> k < et.size -> cells[j * et.size + k]? = z.cells[k]?) ->
   ∃ cells', Instr.fill (fun i => some (i * et.size, et.size)) cells vparts = some cells' /\ cells'.size = cells.size /\
    (∀ k, k < i * et.size -> cells'[k]? = cells[k]?) /\ RE Γ xs (fun k => cells'[k]?) (i * et.size) et.size /\ xs.length = n := by
 intro n
 induction n with
 | zero =>
  intro i parts vparts xs cells h h1 h2 hs hc
  cases parts with
  | cons p r => simp [litA] at h
  | nil =>
   cases vparts with
   | cons _ _ => simp at h1
   | nil =>
    simp only [litA, Option.some.injEq] at h; subst h
    exact ⟨cells, rfl, rfl, fun _ _ => rfl, by simp only [RE], rfl⟩
 | succ n ih =>
  intro i parts vparts xs cells h h1 h2 hs hc
  have hmul : (i + 1) * et.size = i * et.size + et.size := by rw [Nat.add_mul, Nat.one_mul]
  -- an element that is not named
  have zeroCase : ∀ ys, litA et (i + 1) n parts = some ys -> xs = et.zeroV :: ys ->
    ∃ cells', Instr.fill (fun i => some (i * et.size, et.size)) cells vparts = some cells' /\ cells'.size = cells.size /\
     (∀ k, k < i * et.size -> cells'[k]? = cells[k]?) /\ RE Γ xs (fun k => cells'[k]?) (i * et.size) et.size /\ xs.length = n + 1 := by
   intro ys hy hxs
   subst hxs
   obtain ⟨cells', k1, k2, k3, k4, k5⟩ := ih (i + 1) parts vparts ys cells hy h1 h2 (by rw [hs]; congr 1; omega) (fun j k h3 h4 h5 => hc j k (by omega) (by omega) h5)
   refine ⟨cells', k1, k2, fun k hk => k3 k (by omega), ?_, by simp [k5]⟩
   simp only [RE]
   refine ⟨⟨z, hz3, hz2, hz1, fun j v hj => ?_⟩, by rw [<- hmul]; exact k4⟩
   have hj' : j < et.size := by
    rw [<- hz1, <- Array.length_toList]
    exact (List.getElem?_eq_some_iff.1 hj).1
   show cells'[i * et.size + j]? = some v
   rw [k3 _ (by omega), hc i j (Nat.le_refl _) (by omega) hj', <- Array.getElem?_toList]
   exact hj
  cases parts with
  | nil =>
   simp only [litA, Option.map_eq_some_iff] at h
   obtain ⟨ys, hy, e⟩ := h
   exact zeroCase ys hy e.symm
  | cons p r =>
   obtain ⟨j, x⟩ := p
   simp only [litA] at h
   split at h
   ·rename_i hji
    subst hji
    split at h
    ·rename_i hok
     simp only [Bool.and_eq_true, beq_iff_eq] at hok
     obtain ⟨c1, c2⟩ := hok
     simp only [Option.map_eq_some_iff] at h
     obtain ⟨ys, hy, e⟩ := h
     subst e
     cases vparts with
     | nil => simp at h1
     | cons q vr =>
      obtain ⟨j', v⟩ := q
      simp only [List.map_cons, List.cons.injEq] at h1
      obtain ⟨rfl, h1⟩ := h1
      simp only [List.map_cons] at h2
      obtain ⟨v', r', e', hv, h2⟩ := h2.of_cons
      simp only [List.cons.injEq] at e'
      obtain ⟨rfl, rfl⟩ := e'
      have hcl := hv.cells (AV.ne_junk_of_ok c1)
      have hvs : v.cells.size = et.size := by rw [<- c2, <- hcl.length, Array.length_toList]
      have hle : (j + 1) * et.size <= (j + (n + 1)) * et.size := Nat.mul_le_mul_right _ (by omega)
      have hoff : j * et.size + v.cells.size <= cells.size := by omega
      have hfill : Instr.fill (fun i => some (i * et.size, et.size)) cells ((j, v) :: vr) =
        Instr.fill (fun i => some (i * et.size, et.size)) (v.cells.zipIdx.foldl (fun cs (p : Value × Nat) => cs.setIfInBounds (j * et.size + p.2) p.1) cells) vr := by
       simp only [Instr.fill]
       rw [if_neg (by simp; omega)]
      rw [hfill]
      have hcs := fill_cells v.cells cells (j * et.size) hoff
      generalize v.cells.zipIdx.foldl (fun cs (p : Value × Nat) => cs.setIfInBounds (j * et.size + p.2) p.1) cells = cells1 at hcs
      have hget : ∀ k : Nat, cells1[k]? = if k < j * et.size then cells[k]? else if k < j * et.size + et.size then v.cells[k - j * et.size]? else cells[k]? := by
       intro k
       rw [<- Array.getElem?_toList, hcs, hvs, drop_set_cells (by rw [Array.length_toList]; omega) (by rw [Array.length_toList]; exact hvs)]
       simp only [Array.getElem?_toList]
      have hsz : cells1.size = cells.size := by
       rw [<- Array.length_toList, hcs, List.length_append, List.length_append, List.length_take, List.length_drop, Array.length_toList, Array.length_toList]
       omega
      obtain ⟨cells', k1, k2, k3, k4, k5⟩ := ih (j + 1) r vr ys cells1 hy h1 h2 (by rw [hsz, hs]; congr 1; omega) (fun q k h3 h4 h5 => by
       rw [hget]
       have hq : (j + 1) * et.size <= q * et.size := Nat.mul_le_mul_right _ h3
       rw [if_neg (by omega), if_neg (by omega)]
       exact hc q k (by omega) (by omega) h5)
      refine ⟨cells', k1, by rw [k2, hsz], fun k hk => by rw [k3 k (by omega), hget, if_pos hk], ?_, by simp [k5]⟩
      simp only [RE]
      refine ⟨⟨v, hv, c1, hvs, fun q u hq => ?_⟩, by rw [<- hmul]; exact k4⟩
      have hq' : q < et.size := by
       rw [<- hvs, <- Array.length_toList]
       exact (List.getElem?_eq_some_iff.1 hq).1
      show cells'[j * et.size + q]? = some u
      rw [k3 _ (by omega), hget, if_neg (by omega), if_pos (by omega), <- Array.getElem?_toList]
      have : j * et.size + q - j * et.size = q := by omega
      rw [this]; exact hq
    ·cases h
   ·simp only [Option.map_eq_some_iff] at h
    obtain ⟨ys, hy, e⟩ := h
    exact zeroCase ys hy e.symm
theorem buildSlice_sound {E : Env} (hE : ∀ t y, E.ty t = some y -> TyOk P t y) {B : Nat} {w0 w : World} {Γ : Ghost} {st : St} (hI : Inv B w0 Γ st w) {t e : TypeId} {ty et : Ty} {len : Nat}
  {parts : List (Nat × AV)} {vparts : Array (Nat × Value)} {xs : List AV} (ht : E.ty t = some ty) (hd : ty.d = .slice e) (he : E.ty e = some et)
  (hc : 0 < et.size /\ len * et.size <= 2 ^ 24) (h : litA et 0 len parts = some xs) (h1 : parts.map Prod.fst = vparts.toList.map Prod.fst) (h2 : RL Γ (parts.map Prod.snd) (vparts.toList.map Prod.snd)) :
  ∃ u w' Γ', (Instr.buildSlice t len vparts).run P w = .ok u w' /\ Out B w0 Γ st Γ' st w' /\ R Γ' (.vs et.size .full xs) u := by
 obtain ⟨U, i', z', hu, _, _, g1, _⟩ := (hE t ty ht).ex
 have gi := tdOf_inv g1
 rw [hd] at gi; simp only [TDIs] at gi; subst gi
 obtain ⟨ei, ez, hei, hez, hes, _, hzs, hzo, hzr⟩ := (hE e et he).zero
 let c0 : Array Value := (Array.range (len * et.size)).map (ez.cells[· % ez.cells.size]!)
 have hc0 : c0.size = len * et.size := by simp [c0]
 obtain ⟨cells', k1, k2, k3, k4, k5⟩ := lit_sound hzs hzo (hzr Γ) len 0 parts vparts.toList xs c0 h h1 h2 (by rw [hc0]; congr 1; omega) (fun j k _ hj hk => by
  have hlt : j * et.size + k < len * et.size := by
   have : (j + 1) * et.size <= len * et.size := Nat.mul_le_mul_right _ (by omega)
   rw [Nat.add_mul, Nat.one_mul] at this; omega
  show ((Array.range (len * et.size)).map (ez.cells[· % ez.cells.size]!))[j * et.size + k]? = _
  rw [Array.getElem?_map, Array.getElem?_range, if_pos hlt, hzs]
  have hmod : (j * et.size + k) % et.size = k := by
   rw [Nat.add_comm, Nat.add_mul_mod_self_right, Nat.mod_eq_of_lt hk]
  simp only [Option.map_some, hmod]
  have hk' : k < ez.cells.size := by omega
  rw [getElem!_pos ez.cells k hk', Array.getElem?_eq_getElem hk'])
 have hrun : (Instr.buildSlice t len vparts).run P w = .ok (.slice (some ⟨w.heap.size, 0, none⟩) len len) (w.alloc (.cells cells' e)) := by
  have hlim : ¬ (len * ei.size > 2 ^ 24) := by rw [hes]; omega
  have hfill : Instr.fill (fun i => some (i * ei.size, ei.size)) c0 vparts.toList = some cells' := by rw [hes]; exact k1
  unfold Instr.buildSlice
  simp only [Sem.run_bind, run_under hu, Result.andThen_ok, run_size hei, Sem.run_ite, if_neg hlim, Sem.run_pure]
  by_cases h0 : len * ei.size = 0
  ·have hcells : (Array.range (len * ei.size)).map ((#[] : Array Value)[· % (#[] : Array Value).size]!) = c0 := by
    rw [h0]
    have : len * et.size = 0 := by rw [<- hes]; exact h0
    simp [c0, this]
   rw [if_pos h0, hcells, hfill]
   simp [newRow]
  ·have hcells : (Array.range (len * ei.size)).map (ez.cells[· % ez.cells.size]!) = c0 := by rw [hes]
   rw [if_neg h0, run_zero hei hez]
   simp only [Result.andThen_ok]
   rw [hcells, hfill]
   simp [newRow]
 have hat := alloc_at w (.cells cells' e)
 have out := hI.inertNew (Touch.alloc w _) hat cells'.size
 refine ⟨_, _, _, hrun, out, ?_⟩
 simp only [R]
 refine ⟨w.heap.size, 0, len, by rw [k5], by rw [k5]; exact Nat.le_refl _, hc.1, by rw [k5]; rfl, ?_⟩
 have := RE.mono out.le xs _ (fun o => (Γ.addInert w.heap.size (fun o => if o < cells'.size then cells'[o]? else none)).inert w.heap.size o) (0 * et.size) et.size (fun k v hk => by
  simp only [Ghost.addInert, if_pos]
  rw [if_pos]
  ·exact hk
  ·rcases Nat.lt_or_ge k cells'.size with q | q
   ·exact q
   ·rw [Array.getElem?_eq_none q] at hk; cases hk) k4
 simpa using this
end
end Go.Abs
