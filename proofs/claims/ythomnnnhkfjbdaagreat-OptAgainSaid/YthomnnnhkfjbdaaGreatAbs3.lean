/- Own text of this claim: part 3 of an interpreter that is proved sound against the model, and of what it shows of the law. -/
import Derived.Deep.AppendSrc
import Derived.Deep.Upon
import Derived.Laws.CopyRow
import Derived.Lib.AppendZeros
import Derived.Laws.IdiomCopy
import Derived.Test.YthomnnnhkfjbdaaGreatAbs2
namespace Go.Abs
open Go.RowKit
section
variable {P : Program}
def REn (Γ : Ghost) (es : List (AV × AV)) (en : List MapEntry) : Prop :=
 en.length = es.length /\ ∀ (i : Nat) (k v : AV), es[i]? = some (k, v) -> ∃ e : MapEntry, en[i]? = some e /\ R Γ k e.key /\ R Γ v e.val /\ k.ok = true /\ v.ok = true
theorem REn.tail {Γ : Ghost} {x : AV × AV} {es : List (AV × AV)} {e : MapEntry} {en : List MapEntry} (h : REn Γ (x :: es) (e :: en)) : REn Γ es en :=
 ⟨by simpa using h.1, fun i k v hi => by simpa using h.2 (i + 1) k v (by simpa using hi)⟩
theorem REn.head {Γ : Ghost} {k v : AV} {es : List (AV × AV)} {en : List MapEntry} (h : REn Γ ((k, v) :: es) en) : ∃ e r, en = e :: r /\ R Γ k e.key /\ R Γ v e.val := by
 obtain ⟨e, he, h1, h2, _⟩ := h.2 0 k v rfl
 cases en with
 | nil => simp at he
 | cons a r => simp at he; subst he; exact ⟨a, r, rfl, h1, h2⟩
def Found (Γ : Ghost) (es : List (AV × AV)) (i : Nat) : Option (Nat × AV) -> Option (Nat × Value) -> Prop
 | none, none => True
 | some (j, x), some (j', v) => j = j' /\ i <= j /\ j < i + es.length /\ R Γ x v /\ ∃ q, es[j - i]? = some (q, x)
 | _, _ => False
theorem Found.cons {Γ : Ghost} {x : AV × AV} {es : List (AV × AV)} {i : Nat} {r : Option (Nat × AV)} {r' : Option (Nat × Value)} (h : Found Γ es (i + 1) r r') : Found Γ (x :: es) i r r' := by
 cases r with
 | none => cases r' <;> exact h
 | some q =>
  obtain ⟨jj, xx⟩ := q
  cases r' with
  | none => exact h
  | some q' =>
   obtain ⟨jj', vv⟩ := q'
   obtain ⟨a1, a2, a3, a4, qq, a5⟩ := h
   refine ⟨a1, by omega, by simp; omega, a4, qq, ?_⟩
   have : jj - i = (jj - (i + 1)) + 1 := by omega
   rw [this]; simpa using a5
theorem checkKey_scalar {t : TypeId} {u : TypeDesc} (hu : P.underlying t = some u) (hk : u = .bool \/ u = .string \/ ∃ k, u = .int k) (empty : Bool) (n : Nat) (v : Value) (w : World) :
  (Instr.checkKey empty (n + 1) t v).run P w = .ok () w := by
 rw [Instr.checkKey]
 simp only [Sem.run_bind, run_under hu, Result.andThen_ok]
 rcases hk with rfl | rfl | ⟨k, rfl⟩ <;> rfl
theorem checkKey_sound {E : Env} (hE : ∀ t y, E.ty t = some y -> TyOk P t y) {Γ : Ghost} {kt : TypeId} {kty : Ty} {k : AV} {kv : Value} (hkt : E.ty kt = some kty) (hok : keyOkA E kty k = true) (hk : R Γ k kv)
  (empty : Bool) (w : World) : (Instr.checkKey empty 10000 kt kv).run P w = .ok () w := by
 obtain ⟨U, i', z', hu, _, _, g1, _⟩ := (hE kt kty hkt).ex
 have gi := tdOf_inv g1
 unfold keyOkA at hok
 split at hok
 ·rename_i hd; rw [hd] at gi; simp only [TDIs] at gi; exact checkKey_scalar hu (.inr (.inr ⟨_, gi⟩)) _ _ _ w
 ·rename_i hd; rw [hd] at gi; simp only [TDIs] at gi; exact checkKey_scalar hu (.inl gi) _ _ _ w
 ·rename_i hd; rw [hd] at gi; simp only [TDIs] at gi; exact checkKey_scalar hu (.inr (.inl gi)) _ _ _ w
 ·rename_i n e cs hd
  rw [hd] at gi; simp only [TDIs] at gi; subst gi
  split at hok
  ·rename_i et he
   split at hok
   ·rename_i l hl
    simp only [Bool.and_eq_true, beq_iff_eq] at hok
    obtain ⟨⟨c1, c2⟩, c3⟩ := hok
    simp only [R] at hk
    obtain ⟨vs, rfl, hvs⟩ := hk
    obtain ⟨U2, ei, ez, hu2, hei, hez, q1, q2, q3, q4, _⟩ := (hE e et he).ex
    have qi := tdOf_inv q1
    rw [hl] at qi; simp only [TDIs] at qi; subst qi
    have hlen := hvs.length
    rw [Array.length_toList] at hlen
    have loop : ∀ m i, i + m <= n -> (forIn (m := Sem) (List.range' i m) PUnit.unit fun (j : Nat) (_ : PUnit) => do
      Instr.checkKey empty 9999 e (<- part e vs (j * (<- sizeOf e)))
      pure (ForInStep.yield PUnit.unit)).run P w = .ok PUnit.unit w := by
     intro m
     induction m with
     | zero => intro i _; rfl
     | succ m ih =>
      intro i him
      have hi : i < vs.size := by omega
      have hp : (part e vs (i * ei.size)).run P w = .ok vs[i] w := by
       simp only [part, Sem.run_bind, run_isAgg hu2, Result.andThen_ok, isAggD, Bool.false_eq_true, if_false, q2, c2, Nat.mul_one, Array.getElem?_eq_getElem hi, Sem.run_pure]
      simp only [List.range'_succ, List.forIn_cons, Sem.run_bind, run_size hei, Result.andThen_ok, hp, checkKey_scalar hu2 (.inr (.inr ⟨_, rfl⟩)) empty 9998, Sem.run_pure]
      exact ih (i + 1) (by omega)
    rw [show (10000 : Nat) = 9999 + 1 from rfl, Instr.checkKey]
    simp only [Sem.run_bind, run_under hu, Result.andThen_ok, Std.Legacy.Range.forIn_eq_forIn_range', Std.Legacy.Range.size, Nat.sub_zero, Nat.add_sub_cancel, Nat.div_one]
    have := loop n 0 (by omega)
    first
     | exact this
     | (rw [this]; rfl)
   ·cases hok
  ·cases hok
 ·cases hok
theorem findNow_sound {E : Env} {Γ : Ghost} {kt : TypeId} {kty : Ty} {k : AV} {kv : Value} (hkt : E.ty kt = some kty) (hk : R Γ k kv)
  {u : TypeDesc} (hu : P.underlying kt = some u) (hsc : (∃ l, kty.d = .int l /\ u = .int l /\ ∃ m a, k = .int m a) \/ (kty.d = .bool /\ u = .bool /\ ∃ a, k = .bool a) \/ (kty.d = .string /\ u = .string /\ ∃ a, k = .str a)) :
  ∀ (es : List (AV × AV)) (en : List MapEntry) (i : Nat) (r : Option (Nat × AV)), REn Γ es en -> findA (eqA E 20 kt) k es i = some r ->
   ∃ r', Instr.findNow u kv en i = some r' /\ Found Γ es i r r' := by
 intro es
 induction es with
 | nil =>
  intro en i r h hf
  have : en = [] := List.eq_nil_of_length_eq_zero h.1
  subst this
  simp only [findA, Option.some.injEq] at hf; subst hf
  exact ⟨none, rfl, trivial⟩
 | cons x es ih =>
  intro en i r h hf
  obtain ⟨j, v⟩ := x
  obtain ⟨e, rn, rfl, h1, h2⟩ := h.head
  simp only [findA] at hf
  have key : ∀ b, eqA E 20 kt k j = some b -> Instr.sameNow u kv e.key = some b := by
   intro b hb
   rw [show (20 : Nat) = 19 + 1 from rfl, eqA, hkt] at hb
   simp only at hb
   rcases hsc with ⟨l, e1, rfl, m, a, rfl⟩ | ⟨e1, rfl, a, rfl⟩ | ⟨e1, rfl, a, rfl⟩
   ·rw [e1] at hb
    simp only [R] at hk; subst hk
    cases j <;> simp only [reduceCtorEq] at hb
    rename_i m' a'
    simp only [R] at h1
    simp only [Instr.sameNow, h1]
    exact hb
   ·rw [e1] at hb
    simp only [R] at hk; subst hk
    cases j <;> simp only [reduceCtorEq] at hb
    simp only [R] at h1
    simp only [Instr.sameNow, h1]
    exact hb
   ·rw [e1] at hb
    simp only [R] at hk; subst hk
    cases j <;> simp only [reduceCtorEq] at hb
    simp only [R] at h1
    simp only [Instr.sameNow, h1, bytes_beq]
    exact hb
  split at hf
  ·rename_i hb
   cases hf
   refine ⟨some (i, e.val), by simp only [Instr.findNow, key true hb], rfl, Nat.le_refl _, by simp, h2, j, by simp⟩
  ·rename_i hb
   obtain ⟨r', k1, k2⟩ := ih rn (i + 1) r h.tail hf
   refine ⟨r', by simp only [Instr.findNow, key false hb]; exact k1, k2.cons⟩
  ·cases hf
theorem findAsking_sound {E : Env} (hE : ∀ t y, E.ty t = some y -> TyOk P t y) {Γ : Ghost} {kt : TypeId} {k : AV} {kv : Value} (hk : R Γ k kv) (w : World) :
  ∀ (es : List (AV × AV)) (en : List MapEntry) (i : Nat) (r : Option (Nat × AV)), REn Γ es en -> findA (eqA E 20 kt) k es i = some r ->
   ∃ r', (Instr.findAsking kt kv en i).run P w = .ok r' w /\ Found Γ es i r r' := by
 intro es
 induction es with
 | nil =>
  intro en i r h hf
  have : en = [] := List.eq_nil_of_length_eq_zero h.1
  subst this
  simp only [findA, Option.some.injEq] at hf; subst hf
  exact ⟨none, rfl, trivial⟩
 | cons x es ih =>
  intro en i r h hf
  obtain ⟨j, v⟩ := x
  obtain ⟨e, rn, rfl, h1, h2⟩ := h.head
  simp only [findA] at hf
  have key : ∀ b, eqA E 20 kt k j = some b -> (Op.equal kt kv e.key).run P w = .ok b w := fun b hb => eqA_sound hE w 20 10000 (by omega) kt k j kv e.key b hb hk h1
  split at hf
  ·rename_i hb
   cases hf
   exact ⟨some (i, e.val), by simp only [Instr.findAsking, Sem.run_bind, key true hb, Result.andThen_ok, if_true, Sem.run_pure], rfl, Nat.le_refl _, by simp, h2, j, by simp⟩
  ·rename_i hb
   obtain ⟨r', k1, k2⟩ := ih rn (i + 1) r h.tail hf
   refine ⟨r', by simp only [Instr.findAsking, Sem.run_bind, key false hb, Result.andThen_ok, Bool.false_eq_true, if_false]; exact k1, k2.cons⟩
  ·cases hf
theorem findKey_sound {E : Env} (hE : ∀ t y, E.ty t = some y -> TyOk P t y) {Γ : Ghost} {kt : TypeId} {kty : Ty} {k : AV} {kv : Value} (hkt : E.ty kt = some kty) (hok : keyOkA E kty k = true) (hk : R Γ k kv) (w : World)
  {es : List (AV × AV)} {en : List MapEntry} {r : Option (Nat × AV)} (he : REn Γ es en) (hf : findA (eqA E 20 kt) k es 0 = some r) :
  ∃ r', (Instr.findKey kt kv en).run P w = .ok r' w /\ Found Γ es 0 r r' := by
 obtain ⟨U, i', z', hu, _, _, g1, _⟩ := (hE kt kty hkt).ex
 have gi := tdOf_inv g1
 have now : ((∃ l, kty.d = .int l /\ U = .int l /\ ∃ m a, k = .int m a) \/ (kty.d = .bool /\ U = .bool /\ ∃ a, k = .bool a) \/ (kty.d = .string /\ U = .string /\ ∃ a, k = .str a)) ->
   ∃ r', (Instr.findKey kt kv en).run P w = .ok r' w /\ Found Γ es 0 r r' := by
  intro hsc
  obtain ⟨r', k1, k2⟩ := findNow_sound hkt hk hu hsc es en 0 r he hf
  refine ⟨r', ?_, k2⟩
  simp only [Instr.findKey, Sem.run_bind, run_under hu, Result.andThen_ok, k1, Sem.run_pure]
 unfold keyOkA at hok
 split at hok
 ·rename_i hd; rw [hd] at gi; simp only [TDIs] at gi; exact now (.inl ⟨_, hd, gi, _, _, rfl⟩)
 ·rename_i hd; rw [hd] at gi; simp only [TDIs] at gi; exact now (.inr (.inl ⟨hd, gi, _, rfl⟩))
 ·rename_i hd; rw [hd] at gi; simp only [TDIs] at gi; exact now (.inr (.inr ⟨hd, gi, _, rfl⟩))
 ·rename_i n e cs hd
  rw [hd] at gi; simp only [TDIs] at gi; subst gi
  obtain ⟨r', k1, k2⟩ := findAsking_sound hE hk w es en 0 r he hf
  cases en with
  | nil =>
   have : es = [] := List.eq_nil_of_length_eq_zero (by simpa using he.1.symm)
   subst this
   simp only [findA, Option.some.injEq] at hf; subst hf
   exact ⟨none, by simp only [Instr.findKey, Sem.run_bind, run_under hu, Result.andThen_ok, Instr.findNow, Sem.run_pure], trivial⟩
  | cons a rn =>
   refine ⟨r', ?_, k2⟩
   simp only [Instr.findKey, Sem.run_bind, run_under hu, Result.andThen_ok, Instr.findNow, Instr.sameNow]
   exact k1
 ·cases hok
theorem run_getObj_map {w : World} {b : Nat} {en : Array MapEntry} {clock : Nat} (h : w.heap[b]? = some (.map en clock)) : (getObj b).run P w = .ok (.map en clock) w := by
 simp only [getObj, Sem.run, h]
theorem look_sound {E : Env} (hE : ∀ t y, E.ty t = some y -> TyOk P t y) {B : Nat} {w0 w : World} {Γ : Ghost} {st : St} (hI : Inv B w0 Γ st w) {t kt et : TypeId} {ty kty ety : Ty} {ok : Bool} {m k r : AV} {mv kv : Value}
  (ht : E.ty t = some ty) (hd : ty.d = .map kt et) (hkt : E.ty kt = some kty) (het : E.ty et = some ety) (h : lookA E st kty kt et ety.zeroV ok m k = some r) (hm : R Γ m mv) (hk : R Γ k kv) :
  ∃ u, (Instr.lookup t mv kv ok).run P w = .ok u w /\ R Γ r u := by
 obtain ⟨U, i', z', hu, _, _, g1, _⟩ := (hE t ty ht).ex
 have gi := tdOf_inv g1
 rw [hd] at gi; simp only [TDIs] at gi; subst gi
 obtain ⟨ei, ez, hei, hez, hes, _, hzs, hzo, hzr⟩ := (hE et ety het).zero
 have tupOk : ∀ (x : AV) (v : Value) (b : Bool), R Γ x v -> R Γ (if ok then .tup [x, .bool b] else x) (if ok then .tuple #[v, .bool b] else v) := by
  intro x v b hx
  cases ok
  ·exact hx
  ·simp only [if_true, R]
   exact ⟨#[v, .bool b], rfl, RL.cons hx (RL.cons (by simp only [R]) (RL.nil _))⟩
 unfold lookA at h
 split at h
 ·rename_i hok
  split at h
  ·cases h
   simp only [R] at hm; subst hm
   have hck := checkKey_sound hE hkt hok hk true w
   obtain ⟨r', k1, k2⟩ := findKey_sound hE hkt hok hk w (es := []) (en := []) (r := none) ⟨rfl, fun i k v hi => by simp at hi⟩ rfl
   cases r' with
   | some _ => exact k2.elim
   | none =>
    refine ⟨if ok then .tuple #[ez, .bool false] else ez, ?_, tupOk _ ez false (hzr Γ)⟩
    simp only [Instr.lookup, Sem.run_bind, run_under hu, Result.andThen_ok, Sem.run_pure, Array.isEmpty_empty, hck, k1, run_zero hei hez]
  ·rename_i b
   split at h
   ·rename_i kt' et' es hg
    split at h
    ·rename_i hc
     obtain ⟨rfl, rfl⟩ := hc
     simp only [R] at hm
     obtain ⟨blk, hb, rfl⟩ := hm
     obtain ⟨en, clock, hh, hs, hre⟩ := hI.maps b kt' et' es blk hg hb
     have hen : REn Γ es en.toList := ⟨by rw [Array.length_toList]; exact hs, fun i k v hi => by
      obtain ⟨e, q1, q2, q3, q4, q5, _⟩ := hre i k v hi
      exact ⟨e, by rw [Array.getElem?_toList]; exact q1, q2, q3, q4, q5⟩⟩
     have hck := checkKey_sound hE hkt hok hk en.isEmpty w
     split at h
     ·rename_i j v hf
      cases h
      obtain ⟨r', k1, k2⟩ := findKey_sound hE hkt hok hk w hen hf
      cases r' with
      | none => exact k2.elim
      | some q =>
       obtain ⟨j', vv⟩ := q
       refine ⟨if ok then .tuple #[vv, .bool true] else vv, ?_, tupOk v vv true k2.2.2.2.1⟩
       simp only [Instr.lookup, Sem.run_bind, run_under hu, Result.andThen_ok, run_getObj_map hh, Sem.run_pure, hck, k1]
     ·rename_i hf
      cases h
      obtain ⟨r', k1, k2⟩ := findKey_sound hE hkt hok hk w hen hf
      cases r' with
      | some _ => exact k2.elim
      | none =>
       refine ⟨if ok then .tuple #[ez, .bool false] else ez, ?_, tupOk _ ez false (hzr Γ)⟩
       simp only [Instr.lookup, Sem.run_bind, run_under hu, Result.andThen_ok, run_getObj_map hh, Sem.run_pure, hck, k1, run_zero hei hez]
     ·cases h
    ·cases h
   ·cases h
  ·cases h
 ·cases h
end
end Go.Abs
namespace Go.Abs
open Go.RowKit
section
variable {P : Program}
def Still (P : Program) (s : Sem Value) (w : World) (Γ : Ghost) (r : AV) : Prop := ∃ u, s.run P w = .ok u w /\ R Γ r u
theorem Still.next {s : Sem Value} {w : World} {Γ : Ghost} {r : AV} (h : Still P s w Γ r) : ∃ u, (do pure (Next.value (<- s)) : Sem Next).run P w = .ok (.value u) w /\ R Γ r u := by
 obtain ⟨u, h1, h2⟩ := h
 exact ⟨u, by simp [h1], h2⟩
theorem len_sound {E : Env} (hE : ∀ t y, E.ty t = some y -> TyOk P t y) {B : Nat} {w0 w : World} {Γ : Ghost} {st : St} (hI : Inv B w0 Γ st w) {t : TypeId} {ty : Ty} {x : AV} {v : Value} {n : Nat}
  (ht : E.ty t = some ty) (h : lenT st ty.d x = some n) (hx : R Γ x v) (rt : TypeId) : (Builtin.len_ #[t] rt #[v]).run P w = .ok (.int .i64 n) w := by
 obtain ⟨U, i', z', hu, _, _, g1, _⟩ := (hE t ty ht).ex
 have gi := tdOf_inv g1
 unfold lenT at h
 split at h
 all_goals (try (rename_i hd; rw [hd] at gi; simp only [TDIs] at gi; subst gi))
 ·cases h; simp only [R] at hx; subst hx
  simp [Builtin.len_, run_under hu, goInt]
 ·cases h; simp only [R] at hx; subst hx
  simp [Builtin.len_, run_under hu, goInt]
 ·cases h; simp only [R] at hx; obtain ⟨_, _, rfl⟩ := hx
  simp [Builtin.len_, run_under hu, goInt]
 ·cases h; simp only [R] at hx; obtain ⟨_, _, _, rfl, _⟩ := hx
  simp [Builtin.len_, run_under hu, goInt]
 ·cases h; simp only [R] at hx; obtain ⟨_, _, _, _, _, _, rfl, _⟩ := hx
  simp [Builtin.len_, run_under hu, goInt]
 ·cases h; simp only [R] at hx; subst hx
  simp [Builtin.len_, run_under hu, goInt]
 ·split at h
  ·rename_i kt et es hg
   cases h
   simp only [R] at hx
   obtain ⟨blk, hb, rfl⟩ := hx
   obtain ⟨en, clock, hh, hs, _⟩ := hI.maps _ _ _ _ _ hg hb
   simp [Builtin.len_, run_under hu, goInt, run_getObj_map hh, hs]
  ·cases h
 ·cases h
  simp [Builtin.len_, run_under hu, goInt]
 ·cases h
theorem freeze_heap (w : World) (b o n : Nat) (c : Array Value) (T : TypeId) (fr : Nat × Nat) (h : w.heap[b]? = some (.cells c T fr)) :
  ∃ fr', (w.freeze ⟨b, o, none⟩ n).heap[b]? = some (.cells c T fr') := by
 unfold World.freeze
 split
 ·exact ⟨fr, h⟩
 ·simp only [Array.getElem?_modify, if_pos, h, Option.map_some]
  obtain ⟨lo, hi⟩ := fr
  exact ⟨_, rfl⟩
theorem freeze_touch (w : World) (b o n : Nat) : Touch w (w.freeze ⟨b, o, none⟩ n) b := by
 unfold World.freeze
 split
 ·exact Touch.refl _ _
 ·refine ⟨fun k _ hne => ?_, by simp, rfl, rfl, rfl⟩
  simp only [Array.getElem?_modify]
  rw [if_neg (fun e => hne e.symm)]
theorem bytesA_RE {Γ : Ghost} {s : ByteArray} {f : Nat -> Option Value} {o : Nat} (h : ∀ (j : Nat) (b : UInt8), s.data[j]? = some b -> f (o + j) = some (.int .u8 b.toNat)) : RE Γ (bytesA s) f o 1 := by
 refine RE.mk fun i x hx => ?_
 unfold bytesA at hx
 simp only [List.getElem?_map, Option.map_eq_some_iff, Array.getElem?_toList] at hx
 obtain ⟨b, hb, rfl⟩ := hx
 refine ⟨.int .u8 b.toNat, by simp only [R], rfl, rfl, fun j v hj => ?_⟩
 cases j with
 | zero =>
  simp only [Value.cells, List.getElem?_cons_zero, Option.some.injEq] at hj
  subst hj
  rw [Nat.mul_one, Nat.add_zero]; exact h i b hb
 | succ j => simp [Value.cells] at hj
theorem bytes_sound {E : Env} {B : Nat} {w0 w : World} {Γ : Ghost} {st : St} (hI : Inv B w0 Γ st w) (e : TypeId) (s : ByteArray) :
  ∃ u w' Γ', (Conv.stringToBytes e s).run P w = .ok u w' /\ Out B w0 Γ st Γ' st w' /\ R Γ' (.vs 1 .any (bytesA s)) u := by
 let cap := grownCap w s.size 0 e
 let c : Array Value := s.data.map (fun b => Value.int .u8 b.toNat) ++ Array.replicate (cap - s.size) (.int .u8 0)
 have hat := alloc_at w.drew (.cells c e)
 have hw : w.drew.heap.size = w.heap.size := rfl
 rw [hw] at hat
 have hsh : (w.drew.alloc (.cells c e)).shape? w.heap.size = some (e, c.size) := by
  unfold World.shape?; rw [hat]
 obtain ⟨fr, hfr⟩ := freeze_heap (w.drew.alloc (.cells c e)) w.heap.size c.size 1 c e (0, 0) hat
 refine ⟨.slice (some ⟨w.heap.size, 0, none⟩) s.size cap, (w.drew.alloc (.cells c e)).freeze ⟨w.heap.size, c.size, none⟩ 1,
  Γ.addInert w.heap.size (fun o => if o < c.size then c[o]? else none), ?_, ?_, ?_⟩
 ·simp only [Conv.stringToBytes, Sem.run_bind, run_choose, Question.forced, Bool.false_eq_true, if_false, Result.andThen_ok, newRow, run_newObj, Sem.run_pure, markStringish, run_shape]
  show Result.andThen (Sem.run P (match (w.drew.alloc (.cells c e)).shape? w.heap.size with | some (_, n) => freeze ⟨w.heap.size, n, none⟩ 1 | _ => pure ()) (w.drew.alloc (.cells c e))) _ = _
  rw [hsh]
  simp only [run_freeze, Result.andThen_ok]
  rfl
 ·exact hI.inertNew ((Touch.drawn w _ _).trans ((Touch.alloc w.drew _).trans (freeze_touch _ _ _ _))) hfr c.size
 ·simp only [R]
  have hlen : (bytesA s).length = s.size := by simp [bytesA]
  refine ⟨w.heap.size, 0, cap, by rw [hlen], ?_, Nat.one_pos, trivial, ?_⟩
  ·rw [hlen]; exact grownCap_ge w s.size 0 e
  ·refine bytesA_RE fun j b hb => ?_
   have hj : j < s.data.size := (Array.getElem?_eq_some_iff.1 hb).1
   have hc : c[j]? = some (.int .u8 b.toNat) := by
    show (s.data.map (fun b => Value.int .u8 b.toNat) ++ Array.replicate (cap - s.size) (.int .u8 0))[j]? = _
    rw [Array.getElem?_append_left (by simpa using hj), Array.getElem?_map, hb]; rfl
   simp only [Ghost.addInert, if_pos, Nat.zero_add]
   rw [if_pos (Array.getElem?_eq_some_iff.1 hc).1, hc]
structure EnvOk (P : Program) (E : Env) : Prop where
 ty : ∀ t y, E.ty t = some y -> TyOk P t y
 fns : ∀ f fi, E.fns f = some fi -> ∃ fn, P.funcs[f]? = some fn /\ fn.body = some fi.code /\ fn.ntmps = fi.ntmps /\ fn.results.toList = fi.results /\ (fn.name == "runtime.NumGoroutine") = false
 mixed : P.follows .mixedOrders = true
 static : ∀ f fi, E.fns f = some fi -> codeOk (E.dyn f) (E.mks f) fi.code = true
theorem pairs_fst (tm : TM) (a : Act) (ps : Array (Nat × Operand)) : (ps.toList.map fun (p : Nat × Operand) => (p.1, evalO tm p.2)).map Prod.fst = (ps.map fun (p : Nat × Operand) => (p.1, a.eval p.2)).toList.map Prod.fst := by
 simp [Function.comp_def]
theorem pairs_snd {Γ : Ghost} {tm : TM} {a : Act} (hF : RT Γ tm a.tmps) (ps : Array (Nat × Operand)) :
  RL Γ ((ps.toList.map fun (p : Nat × Operand) => (p.1, evalO tm p.2)).map Prod.snd) ((ps.map fun (p : Nat × Operand) => (p.1, a.eval p.2)).toList.map Prod.snd) := by
 have := hF.evals (ps.toList.map Prod.snd)
 simpa [Function.comp_def] using this
set_option maxHeartbeats 1000000 in
theorem quiet_sound {E : Env} (hE : EnvOk P E) {B : Nat} {w0 w : World} {Γ : Ghost} {st : St} (hI : Inv B w0 Γ st w) {tm : TM} {a : Act} (hF : RT Γ tm a.tmps)
  {o : Oper} {r : AV} (h : quiet E tm st o = some r) :
  ∃ u w' Γ', (execOp a.eval o).run P w = .ok (.value u) w' /\ Out B w0 Γ st Γ' st w' /\ R Γ' r u := by
 have same : ∀ {s : Sem Value}, Still P s w Γ r -> (execOp a.eval o = do pure (Next.value (<- s))) -> ∃ u w' Γ', (execOp a.eval o).run P w = .ok (.value u) w' /\ Out B w0 Γ st Γ' st w' /\ R Γ' r u := by
  intro s hs he
  obtain ⟨u, h1, h2⟩ := hs.next
  exact ⟨u, w, Γ, by rw [he]; exact h1, ⟨Ghost.Le.refl Γ, hI, Keep.refl Γ st⟩, h2⟩
 obtain ⟨dst, op, ty, pos, after, guard⟩ := o
 cases op <;> simp only [quiet] at h <;> (try (cases h; done))
 case move x => cases h; exact ⟨a.eval x, w, Γ, rfl, ⟨Ghost.Le.refl Γ, hI, Keep.refl Γ st⟩, hF.eval x⟩
 case assign x => cases h; exact ⟨a.eval x, w, Γ, rfl, ⟨Ghost.Le.refl Γ, hI, Keep.refl Γ st⟩, hF.eval x⟩
 case pick c x y =>
  split at h
  ·rename_i t ht
   cases h
   have hc := hF.eval c
   rw [ht] at hc; simp only [R] at hc
   refine ⟨if t then a.eval x else a.eval y, w, Γ, ?_, ⟨Ghost.Le.refl Γ, hI, Keep.refl Γ st⟩, ?_⟩
   ·simp [execOp, hc, asBool]
   ·cases t
    ·exact hF.eval y
    ·exact hF.eval x
  ·cases h
 case load t x =>
  split at h
  ·cases h
  ·rename_i cs hc
   exact same (load_sound hE.ty hI hc h (hF.eval x)) rfl
 case nilCheck x =>
  have hx := hF.eval x
  split at h
  ·rename_i b i off he; cases h; rw [he] at hx
   have hx' := hx; simp only [R] at hx; obtain ⟨_, _, _, _, _, hv⟩ := hx
   exact ⟨a.eval x, w, Γ, by simp [execOp, hv], ⟨Ghost.Le.refl Γ, hI, Keep.refl Γ st⟩, hx'⟩
  ·rename_i cs he; cases h; rw [he] at hx
   have hx' := hx; simp only [R] at hx; obtain ⟨_, _, _, hv, _⟩ := hx
   exact ⟨a.eval x, w, Γ, by simp [execOp, hv], ⟨Ghost.Le.refl Γ, hI, Keep.refl Γ st⟩, hx'⟩
  ·rename_i g he; cases h; rw [he] at hx
   have hx' := hx; simp only [R] at hx
   exact ⟨a.eval x, w, Γ, by simp [execOp, hx], ⟨Ghost.Le.refl Γ, hI, Keep.refl Γ st⟩, hx'⟩
  ·rename_i f cap he; cases h; rw [he] at hx
   have hx' := hx; simp only [R] at hx; obtain ⟨vf, vc, hv, _⟩ := hx
   exact ⟨a.eval x, w, Γ, by simp [execOp, hv], ⟨Ghost.Le.refl Γ, hI, Keep.refl Γ st⟩, hx'⟩
  ·cases h
 case binOp op t x y yt => exact same (binA_sound hE.ty h (hF.eval x) (hF.eval y) w) rfl
 case unOp op t x => exact same (unA_sound h (hF.eval x) w) rfl
 case convert src dst x =>
  split at h
  ·rename_i sy ty' hs hd
   obtain ⟨U1, _, _, hu1, _⟩ := (hE.ty src sy hs).ex
   obtain ⟨U2, _, _, hu2, _, _, g1, _⟩ := (hE.ty dst ty' hd).ex
   have gi := tdOf_inv g1
   have hx := hF.eval x
   split at h
   ·rename_i k l n hk he
    cases h
    rw [hk] at gi; simp only [TDIs] at gi; subst gi
    rw [he] at hx; simp only [R] at hx
    refine same ⟨.int k (k.wrap n), ?_, by simp only [R]⟩ rfl
    rw [hx]
    simp [convert, run_under hu1, run_under hu2, Conv.intToInt]
   ·rename_i s hk he
    cases h
    rw [hk] at gi; simp only [TDIs] at gi; subst gi
    rw [he] at hx; simp only [R] at hx
    refine same ⟨.string s, ?_, by simp only [R]⟩ rfl
    rw [hx]
    simp [convert, run_under hu1, run_under hu2]
   ·rename_i e s hk he
    rw [hk] at gi; simp only [TDIs] at gi; subst gi
    rw [he] at hx; simp only [R] at hx
    split at h
    ·rename_i et het
     split at h
     ·rename_i hd8
      cases h
      obtain ⟨U3, _, _, hu3, _, _, q1, _⟩ := (hE.ty e et het).ex
      have qi := tdOf_inv q1
      rw [hd8] at qi; simp only [TDIs] at qi; subst qi
      obtain ⟨u, w', Γ', h1, h2, h3⟩ := bytes_sound (P := P) (E := E) hI e s
      refine ⟨u, w', Γ', ?_, h2, h3⟩
      simp only [execOp, hx, Sem.run_bind, convert, run_under hu1, run_under hu2, run_under hu3, Result.andThen_ok, h1, Sem.run_pure]
     ·cases h
    ·cases h
   ·cases h
  ·cases h
 case makeInterface t x =>
  split at h
  ·rename_i ty' ht
   split at h
   ·cases h
   ·rename_i hn
    cases h
    obtain ⟨U, _, _, hu, _, _, g1, _⟩ := (hE.ty t ty' ht).ex
    refine same ⟨.iface t (a.eval x), ?_, by simp only [R]; exact ⟨_, rfl, hF.eval x⟩⟩ rfl
    simp only [Instr.makeInterface, Sem.run_bind, run_under hu, Result.andThen_ok]
    split
    ·exact absurd g1.symm hn
    ·rfl
  ·cases h
 case makeFunc fn first cap =>
  cases fn <;> (try (cases h; done))
  rename_i f
  cases h
  refine same ⟨.func (.func f) (first.map a.eval) (cap.map a.eval), by simp [Instr.makeFunc], ?_⟩ rfl
  simp only [R]
  exact ⟨_, _, rfl, by simpa using hF.evals first.toList, by simpa using hF.evals cap.toList⟩
 case slice t x lo hi mx => exact same (slice_sound hE.ty h (hF.eval x) (hF.evalO? lo) (hF.evalO? hi) (hF.evalO? mx) w) rfl
 case fieldAddr s x f =>
  split at h
  ·rename_i sty hs
   split at h
   ·rename_i ft off hf
    split at h
    ·rename_i fty hft
     split at h
     ·cases h
     ·rename_i hz
      exact same (fieldAddr_sound hE.ty hs hf hft hz h (hF.eval x) w) rfl
    ·cases h
   ·cases h
  ·cases h
 case field t x f =>
  split at h
  ·rename_i sty hs
   split at h
   ·rename_i ft off cs hf he
    exact same (field_sound hE.ty hs hf h (by rw [<- he]; exact hF.eval x) w) rfl
   ·cases h
  ·cases h
 case indexAddr t x ix =>
  split at h
  ·rename_i ty' k i ht he
   have hix := hF.eval ix
   rw [he] at hix; simp only [R] at hix
   split at h
   ·rename_i e hd
    split at h
    ·rename_i et het
     exact same (by rw [hix]; exact indexAddr_slice_sound hE.ty ht hd het h (hF.eval x) w) rfl
    ·cases h
   ·rename_i n e hd
    split at h
    ·rename_i et het
     split at h
     ·rename_i hi
      exact same (by rw [hix]; exact indexAddr_array_sound hE.ty ht hd het hi h (hF.eval x) w) rfl
     ·cases h
    ·cases h
   ·cases h
  ·cases h
 case index t x ix =>
  split at h
  ·rename_i ty' k i ht he
   have hix := hF.eval ix
   rw [he] at hix; simp only [R] at hix
   split at h
   ·rename_i n e cs hd hxe
    split at h
    ·rename_i et het
     split at h
     ·rename_i hi
      exact same (by rw [hix]; exact index_array_sound hE.ty ht hd het hi h (by rw [<- hxe]; exact hF.eval x) w) rfl
     ·cases h
    ·cases h
   ·rename_i s hd hxe
    have hx := hF.eval x
    rw [hxe] at hx; simp only [R] at hx
    split at h
    ·rename_i h0
     split at h
     ·rename_i b hb
      cases h
      exact same ⟨_, by rw [hix, hx]; exact index_string_sound hE.ty ht hd h0 hb w, by simp only [R]⟩ rfl
     ·cases h
    ·cases h
   ·cases h
  ·cases h
 case lookup t x ix ok =>
  split at h
  ·rename_i ty' ht
   split at h
   ·rename_i kt et hd
    split at h
    ·rename_i kty ety hkt het
     exact same (look_sound hE.ty hI ht hd hkt het h (hF.eval x) (hF.eval ix)) rfl
    ·cases h
   ·cases h
  ·cases h
 case extract t ix =>
  split at h
  ·rename_i xs he
   have hx := hF.eval t
   rw [he] at hx; simp only [R] at hx
   obtain ⟨vs, hv, hr⟩ := hx
   obtain ⟨v, h1, h2⟩ := hr.get ix r h
   rw [Array.getElem?_toList] at h1
   exact same ⟨v, by simp [hv, Instr.extract, h1], h2⟩ rfl
  ·cases h
 case build t parts => exact same (build_sound hE.ty h (pairs_fst tm a parts) (pairs_snd hF parts) w) rfl
 case buildSlice t len parts =>
  split at h
  ·rename_i ty' ht
   split at h
   ·rename_i e hd
    split at h
    ·rename_i et het
     split at h
     ·rename_i hc
      simp only [Option.map_eq_some_iff] at h
      obtain ⟨xs, hx, rfl⟩ := h
      obtain ⟨u, w', Γ', h1, h2, h3⟩ := buildSlice_sound hE.ty hI ht hd het hc hx (pairs_fst tm a parts) (pairs_snd hF parts)
      exact ⟨u, w', Γ', by simp [execOp, h1], h2, h3⟩
     ·cases h
    ·cases h
   ·cases h
  ·cases h
 case call c =>
  obtain ⟨callee, args, argTypes⟩ := c
  cases callee <;> (try (cases h; done))
  rename_i b
  cases b <;> (try (cases h; done)) <;> dsimp only at h
  case len =>
   split at h
   ·rename_i x t hargs htys
    split at h
    ·rename_i ty' ht
     simp only [Option.map_eq_some_iff] at h
     obtain ⟨n, hn, rfl⟩ := h
     have ha : args = #[x] := by rw [<- Array.toArray_toList (xs := args), hargs]
     have hb : argTypes = #[t] := by rw [<- Array.toArray_toList (xs := argTypes), htys]
     subst ha; subst hb
     exact ⟨.int .i64 n, w, Γ, by simp [execOp, resolve, invoke, builtin, len_sound hE.ty hI ht hn (hF.eval x)], ⟨Ghost.Le.refl Γ, hI, Keep.refl Γ st⟩, by simp only [R]⟩
    ·cases h
   ·cases h
  case cap =>
   split at h
   ·rename_i x t hargs htys
    split at h
    ·rename_i ty' ht
     split at h
     ·rename_i e hd he
      cases h
      have ha : args = #[x] := by rw [<- Array.toArray_toList (xs := args), hargs]
      have hb : argTypes = #[t] := by rw [<- Array.toArray_toList (xs := argTypes), htys]
      subst ha; subst hb
      obtain ⟨U, _, _, hu, _, _, g1, _⟩ := (hE.ty t ty' ht).ex
      have gi := tdOf_inv g1
      rw [hd] at gi; simp only [TDIs] at gi; subst gi
      have hx := hF.eval x
      rw [he] at hx; simp only [R] at hx
      exact ⟨.int .i64 0, w, Γ, by simp [execOp, resolve, invoke, builtin, Builtin.cap_, run_under hu, hx, goInt], ⟨Ghost.Le.refl Γ, hI, Keep.refl Γ st⟩, by simp only [R]⟩
     ·cases h
    ·cases h
   ·cases h
  case max =>
   split at h
   ·rename_i k x l y hargs
    split at h
    ·rename_i hk
     cases h; subst hk
     obtain ⟨x1, x2, e0, e1, e2⟩ : ∃ x1 x2, args.toList = [x1, x2] /\ evalO tm x1 = .int k x /\ evalO tm x2 = .int k y := by
      cases hl : args.toList with
      | nil => rw [hl] at hargs; simp at hargs
      | cons p l =>
       cases l with
       | nil => rw [hl] at hargs; simp at hargs
       | cons q l =>
        rw [hl] at hargs
        simp only [List.map_cons, List.cons.injEq, List.map_eq_nil_iff] at hargs
        obtain ⟨h1, h2, rfl⟩ := hargs
        exact ⟨p, q, rfl, h1, h2⟩
     have ha : args = #[x1, x2] := by rw [<- Array.toArray_toList (xs := args), e0]
     subst ha
     have hx := hF.eval x1; have hy := hF.eval x2
     rw [e1] at hx; rw [e2] at hy
     simp only [R] at hx hy
     exact ⟨.int k (if y > x then y else x), w, Γ, by simp [execOp, resolve, invoke, builtin, Builtin.max_, Builtin.max2, hx, hy], ⟨Ghost.Le.refl Γ, hI, Keep.refl Γ st⟩, by simp only [R]⟩
    ·cases h
   ·cases h
  case min =>
   split at h
   ·rename_i k x l y hargs
    split at h
    ·rename_i hk
     cases h; subst hk
     obtain ⟨x1, x2, e0, e1, e2⟩ : ∃ x1 x2, args.toList = [x1, x2] /\ evalO tm x1 = .int k x /\ evalO tm x2 = .int k y := by
      cases hl : args.toList with
      | nil => rw [hl] at hargs; simp at hargs
      | cons p l =>
       cases l with
       | nil => rw [hl] at hargs; simp at hargs
       | cons q l =>
        rw [hl] at hargs
        simp only [List.map_cons, List.cons.injEq, List.map_eq_nil_iff] at hargs
        obtain ⟨h1, h2, rfl⟩ := hargs
        exact ⟨p, q, rfl, h1, h2⟩
     have ha : args = #[x1, x2] := by rw [<- Array.toArray_toList (xs := args), e0]
     subst ha
     have hx := hF.eval x1; have hy := hF.eval x2
     rw [e1] at hx; rw [e2] at hy
     simp only [R] at hx hy
     exact ⟨.int k (if y < x then y else x), w, Γ, by simp [execOp, resolve, invoke, builtin, Builtin.min_, Builtin.min2, hx, hy], ⟨Ghost.Le.refl Γ, hI, Keep.refl Γ st⟩, by simp only [R]⟩
    ·cases h
   ·cases h
end
end Go.Abs
namespace Go.Abs
open Go.RowKit
section
variable {P : Program}
def Does (P : Program) (B : Nat) (w0 : World) (s : Sem Value) (w : World) (Γ : Ghost) (st : St) (r : AV) (st' : St) : Prop :=
 ∃ u w' Γ', s.run P w = .ok u w' /\ Out B w0 Γ st Γ' st' w' /\ R Γ' r u
theorem RE.one {Γ : Ghost} {x : AV} {v : Value} {f : Nat -> Option Value} {o sz : Nat} (h : R Γ x v) (hok : x.ok = true) (hs : v.cells.size = sz) (hc : CellsAt f o v.cells.toList) : RE Γ [x] f o sz := by
 simp only [RE]
 exact ⟨⟨v, h, hok, hs, hc⟩, trivial⟩
theorem alloc_sound {E : Env} (hE : ∀ t y, E.ty t = some y -> TyOk P t y) {B : Nat} {w0 w : World} {Γ : Ghost} {st st' : St} (hI : Inv B w0 Γ st w) {t : TypeId} {r : AV} (h : allocA E st t = some (r, st')) :
  Does P B w0 (Instr.alloc t true (.tuple #[])) w Γ st r st' := by
 unfold allocA at h
 split at h
 ·rename_i ty ht
  split at h
  ·rename_i hsz
   cases h
   obtain ⟨i, z, hi, hz, hs, _, hzs, hzo, hzr⟩ := (hE t ty ht).zero
   have hat := alloc_at w (.cells z.cells t)
   have out1 := hI.rowNew (Touch.alloc w _) hat hsz (Nat.le_refl 1) (by rw [Nat.one_mul, hzs]; exact Nat.le_refl _) (RE.one (hzr Γ) hzo hzs (by
    intro j v hj
    show z.cells[0 + j]? = some v
    rw [Nat.zero_add, <- Array.getElem?_toList]; exact hj))
   have out2 := out1.inv.tag (i := st.next) (blk := w.heap.size) (sz := ty.size) (tot := 1) (by simp [Ghost.addObj]) ⟨_, _, hat⟩
   refine ⟨.pointer (some ⟨w.heap.size, 0, none⟩), w.alloc (.cells z.cells t), _, ?_, out1.trans out2, ?_⟩
   ·simp [Instr.alloc, run_zero hi hz, newVar, newRow]
   ·simp only [R]
    exact ⟨w.heap.size, 0, ty.size, 1, by simp [Ghost.addObj, Ghost.addEty], by simp⟩
  ·cases h
 ·cases h
theorem box_sound {E : Env} {B : Nat} {w0 w : World} {Γ : Ghost} {st st' : St} (hI : Inv B w0 Γ st w) {t : TypeId} {x r : AV} {v : Value} (h : boxA E st t x = some (r, st')) (hx : R Γ x v) :
  Does P B w0 (Instr.box t v) w Γ st r st' := by
 unfold boxA at h
 split at h
 ·rename_i ty ht
  split at h
  ·rename_i hc
   obtain ⟨hsz, hok, hlen⟩ := hc
   cases h
   have hvs : v.cells.size = ty.size := by
    have := (hx.cells (AV.ne_junk_of_ok hok)).length
    rw [Array.length_toList] at this; omega
   have hat := alloc_at w (.cells v.cells t)
   refine ⟨.pointer (some ⟨w.heap.size, 0, none⟩), w.alloc (.cells v.cells t), _, ?_, hI.rowNew (Touch.alloc w _) hat hsz (Nat.le_refl 1) (by rw [Nat.one_mul, hvs]; exact Nat.le_refl _) (RE.one hx hok hvs ?_), ?_⟩
   ·simp [Instr.box, newVar, newRow]
   ·intro j u hj
    show v.cells[0 + j]? = some u
    rw [Nat.zero_add, <- Array.getElem?_toList]; exact hj
   ·simp only [R]
    exact ⟨w.heap.size, 0, ty.size, 1, by simp [Ghost.addObj], by simp⟩
  ·cases h
 ·cases h
theorem oneCells {Γ : Ghost} {x : AV} {v : Value} (hx : R Γ x v) (hok : x.ok = true) : ∀ u ∈ v.cells.toList, u.oneCell' = true := by
 intro u hu
 obtain ⟨j, hj⟩ := List.getElem?_of_mem hu
 have hcl := hx.cells (AV.ne_junk_of_ok hok)
 have hlt : j < x.cells.length := by
  rw [<- hcl.length]
  exact (List.getElem?_eq_some_iff.1 hj).1
 obtain ⟨u', h1, h2⟩ := hcl.get j _ (List.getElem?_eq_getElem hlt)
 rw [hj] at h1; cases h1
 have hc := AV.cells_ok hok _ (List.getElem_mem hlt)
 obtain ⟨n1, n2⟩ := h2.oneCell hc
 cases u <;> first | rfl | exact absurd rfl (n1 _) | exact absurd rfl (n2 _)
def Put (w w' : World) (b o : Nat) (vs : List Value) (c : Array Value) (T : TypeId) : Prop :=
 Touch w w' b /\ ∃ c' : Array Value, w'.heap[b]? = some (.cells c' T (0, 0)) /\ c'.size = c.size /\ ∀ k : Nat, c'[k]? = if k < o then c[k]? else if k < o + vs.length then vs[k - o]? else c[k]?
theorem setRow_put {w : World} {b o : Nat} {vs : List Value} {c : Array Value} {T : TypeId} (hc : w.heap[b]? = some (.cells c T (0, 0))) (hl : o + vs.length <= c.size) :
  Put w (w.setRow b (c.toList.take o ++ vs ++ c.toList.drop (o + vs.length)).toArray) b o vs c T := by
 refine ⟨⟨fun k hk hne => setRow_other w b k _ hne, by simp, rfl, rfl, rfl⟩, _, setRow_heap w b c _ T _ hc, ?_, fun k => ?_⟩
 ·simp; omega
 ·rw [List.getElem?_toArray, drop_set_cells (by rw [Array.length_toList]; exact hl) rfl]
  simp only [Array.getElem?_toList]
theorem setCells_put : ∀ (vs : List Value) {w : World} {b o : Nat} {c : Array Value} {T : TypeId}, w.heap[b]? = some (.cells c T (0, 0)) -> o + vs.length <= c.size -> Put w (w.setCells b o vs) b o vs c T
 | [], w, b, o, c, T, hc, _ => ⟨Touch.refl _ _, c, hc, rfl, fun k => by simp; intro _ h2; omega⟩
 | v :: vs, w, b, o, c, T, hc, hl => by
  simp only [List.length_cons] at hl
  have h1 : (w.setCell ⟨b, o, none⟩ v).heap[b]? = some (.cells (c.setIfInBounds o v) T (0, 0)) := by
   simp only [World.setCell, Array.getElem?_modify, if_pos, hc, Option.map_some]
   rfl
  have t1 : Touch w (w.setCell ⟨b, o, none⟩ v) b := ⟨fun k _ hne => by simp only [World.setCell, Array.getElem?_modify]; rw [if_neg (fun e => hne e.symm)], by simp [World.setCell], rfl, rfl, rfl⟩
  obtain ⟨t2, c', k1, k2, k3⟩ := setCells_put vs (o := o + 1) h1 (by rw [Array.size_setIfInBounds]; omega)
  refine ⟨t1.trans t2, c', k1, by rw [k2, Array.size_setIfInBounds], fun k => ?_⟩
  rw [k3 k, Array.getElem?_setIfInBounds]
  simp only [List.length_cons]
  by_cases a1 : k < o
  ·have : k < o + 1 := by omega
   have : ¬ o = k := by omega
   simp [*]
  ·by_cases a2 : k = o
   ·subst a2
    have : k < c.size := by omega
    simp [this]
   ·have b1 : ¬ k < o + 1 := by omega
    have b2 : ¬ o = k := by omega
    have b3 : k - o = (k - (o + 1)) + 1 := by omega
    by_cases a3 : k < o + (vs.length + 1)
    ·have : k < o + 1 + vs.length := by omega
     simp [a1, b1, this, a3, b3]
    ·have : ¬ k < o + 1 + vs.length := by omega
     simp [a1, b1, this, a3, b2]
theorem AV.cells_len {x : AV} : (∃ cs, x = .agg cs) \/ x.cells = [x] := by cases x <;> simp [AV.cells]
theorem store_sound {E : Env} (hE : ∀ t y, E.ty t = some y -> TyOk P t y) {B : Nat} {w0 w : World} {Γ : Ghost} {st st' : St} (hI : Inv B w0 Γ st w) {t : TypeId} {ty : Ty} {a x : AV} {av v : Value}
  (ht : E.ty t = some ty) (hlen : x.cells.length = ty.size) (h : storeA st a x = some st') (ha : R Γ a av) (hx : R Γ x v) :
  ∃ w' Γ', (Instr.storeAt t av v).run P w = .ok () w' /\ Out B w0 Γ st Γ' st' w' := by
 obtain ⟨i, z, hi, _, hs, _⟩ := (hE t ty ht).zero
 unfold storeA at h
 split at h
 ·rename_i b i' off
  split at h
  ·rename_i sz xs hg
   split at h
   ·rename_i e he
    split at h
    ·rename_i hc
     simp only [Bool.and_eq_true, decide_eq_true_eq] at hc
     obtain ⟨hok, hoff⟩ := hc
     simp only [R] at ha
     obtain ⟨blk, base, sz', tot, ho, rfl⟩ := ha
     obtain ⟨rfl, hsz, hlt, hmem⟩ := hI.rows b sz xs blk base sz' tot hg ho
     have hi' : i' < xs.length := by
      rcases Nat.lt_or_ge i' xs.length with k | k
      ·exact k
      ·rw [List.getElem?_eq_none k] at he; cases he
     obtain ⟨⟨c, T, hh, hcs, hre⟩, hno⟩ := hmem (by omega)
     obtain ⟨ev, k1, k2, k3, k4⟩ := hre.get i' e he
     have hxc := hx.cells (AV.ne_junk_of_ok hok)
     have hec := k1.cells (AV.ne_junk_of_ok k2)
     have hvl : v.cells.toList.length = x.cells.length := hxc.length
     have hel : ev.cells.toList.length = e.cells.length := hec.length
     rw [Array.length_toList] at hvl hel
     have hidx : (i' + 1) * sz' <= tot * sz' := Nat.mul_le_mul_right _ (by omega)
     rw [Nat.add_mul, Nat.one_mul] at hidx
     have hfit : base + i' * sz' + off + v.cells.toList.length <= c.size := by rw [Array.length_toList]; omega
     have hrun : (Instr.storeAt t (.pointer (some ⟨blk, base + i' * sz' + off, none⟩)) v).run P w =
       .ok () (w.setRow blk (c.toList.take (base + i' * sz' + off) ++ v.cells.toList ++ c.toList.drop (base + i' * sz' + off + v.cells.toList.length)).toArray) := by
      have := run_storeCells_at P blk (base + i' * sz' + off) T v.cells.toList 0 c w hh (by simpa using hfit) (oneCells hx hok)
      simp only [Nat.add_zero] at this
      have hne : ¬ (v.cells.size ≠ i.size) := by omega
      simp only [Instr.storeAt, Instr.sureAddr, Sem.run_bind, Sem.run_pure, Result.andThen_ok, storeVar, run_size hi, Sem.run_ite, if_neg hne]
      exact this
     obtain ⟨tw, c', hc', hc's, hget⟩ := setRow_put (vs := v.cells.toList) hh hfit
     -- the new element
     have main : ∀ e' : AV, e'.ok = true -> e'.cells = e.cells.take off ++ x.cells ++ e.cells.drop (off + x.cells.length) ->
       (∃ ev' : Value, R Γ e' ev' /\ ev'.cells.toList = ev.cells.toList.take off ++ v.cells.toList ++ ev.cells.toList.drop (off + v.cells.size)) ->
       st' = st.put b (.row sz' (xs.set i' e')) ->
       ∃ w' Γ', (Instr.storeAt t (.pointer (some ⟨blk, base + i' * sz' + off, none⟩)) v).run P w = .ok () w' /\ Out B w0 Γ st Γ' st' w' := by
      intro e' hok' _ hev' hst
      obtain ⟨ev', q1, q2⟩ := hev'
      subst hst
      refine ⟨_, Γ, hrun, hI.rowPut hg ho (by omega) tw hc' (by rw [hc's]; exact hcs) (by rw [List.length_set]; exact hlt) (RE.mk fun j y hj => ?_) (TyAt.same hh hc')⟩
      rw [List.getElem?_set] at hj
      split at hj
      ·rename_i hji
       subst hji
       first
        | (rw [if_pos hi'] at hj; cases hj)
        | cases hj
       have hsz' : ev'.cells.size = sz' := by
        have := congrArg List.length q2
        simp only [List.length_append, List.length_take, List.length_drop, Array.length_toList] at this
        omega
       refine ⟨ev', q1, hok', hsz', fun k u hk => ?_⟩
       rw [q2] at hk
       have hk2 := drop_set_cells (cells := ev.cells.toList) (v := v.cells.toList) (o := off) (sz := v.cells.size) (by rw [Array.length_toList]; omega) (by simp) k
       rw [hk2] at hk
       show c'[base + i' * sz' + k]? = some u
       rw [hget]
       simp only [Array.length_toList]
       by_cases a1 : k < off
       ·rw [if_pos a1] at hk
        rw [if_pos (by omega)]
        exact k4 k u hk
       ·rw [if_neg a1] at hk
        rw [if_neg (by omega)]
        by_cases a2 : k < off + v.cells.size
        ·rw [if_pos a2] at hk
         rw [if_pos (by omega)]
         have : base + i' * sz' + k - (base + i' * sz' + off) = k - off := by omega
         rw [this]; exact hk
        ·rw [if_neg a2] at hk
         rw [if_neg (by omega)]
         exact k4 k u hk
      ·rename_i hji
       obtain ⟨yv, p1, p2, p3, p4⟩ := hre.get j y hj
       refine ⟨yv, p1, p2, p3, fun k u hk => ?_⟩
       have hk' : k < sz' := by
        rw [<- p3, <- Array.length_toList]
        exact (List.getElem?_eq_some_iff.1 hk).1
       show c'[base + j * sz' + k]? = some u
       rw [hget]
       have hv' : v.cells.toList.length <= sz' - off := by rw [Array.length_toList]; omega
       rcases Nat.lt_or_gt_of_ne hji with hlt' | hgt'
       ·have : (i' + 1) * sz' <= j * sz' := Nat.mul_le_mul_right _ hlt'
        rw [Nat.add_mul, Nat.one_mul] at this
        rw [if_neg (by omega), if_neg (by omega)]
        exact p4 k u hk
       ·have : (j + 1) * sz' <= i' * sz' := Nat.mul_le_mul_right _ hgt'
        rw [Nat.add_mul, Nat.one_mul] at this
        rw [if_pos (by omega)]
        exact p4 k u hk
     split at h
     ·rename_i cs
      cases h
      refine main _ ?_ rfl ?_ rfl
      ·simp only [AV.ok, List.all_append, Bool.and_eq_true, List.all_eq_true]
       have hcsok : ∀ y ∈ cs, y.cellOk = true := AV.cells_ok k2
       exact ⟨⟨fun y hy => hcsok y (List.mem_of_mem_take hy), fun y hy => AV.cells_ok hok y hy⟩, fun y hy => hcsok y (List.mem_of_mem_drop hy)⟩
      ·refine ⟨.agg (ev.cells.toList.take off ++ v.cells.toList ++ ev.cells.toList.drop (off + v.cells.size)).toArray, ?_, by simp [Value.cells]⟩
       simp only [R]
       refine ⟨_, rfl, ?_⟩
       simp only [List.toList_toArray]
       rw [hvl]
       exact ((RL.take off hec).append hxc).append (RL.drop _ hec)
     ·rename_i hnagg
      split at h
      ·cases h
      ·rename_i hxn
       cases h
       have ex : x.cells = [x] := by
        rcases AV.cells_len (x := x) with ⟨cs, rfl⟩ | k
        ·exact absurd rfl (hxn cs)
        ·exact k
       have ee : e.cells = [e] := by
        rcases AV.cells_len (x := e) with ⟨cs, rfl⟩ | k
        ·exact absurd rfl (hnagg cs)
        ·exact k
       have h0 : off = 0 := by rw [ex, ee] at hoff; simp at hoff; exact hoff
       subst h0
       refine main x hok ?_ ⟨v, hx, ?_⟩ rfl
       ·rw [ex, ee]; rfl
       ·have l1 : v.cells.size = 1 := by rw [hvl, ex]; rfl
        have l2 : ev.cells.size = 1 := by rw [hel, ee]; rfl
        have : ev.cells.toList.drop (0 + v.cells.size) = [] := List.drop_eq_nil_of_le (by rw [Array.length_toList]; omega)
        rw [this]; simp
    ·cases h
   ·cases h
  ·cases h
 ·cases h
end
end Go.Abs
namespace Go.Abs
open Go.RowKit
section
variable {P : Program}
theorem RE.shift {Γ : Ghost} {xs : List AV} {f g : Nat -> Option Value} {o sz d : Nat} (h : RE Γ xs f o sz) (hfg : ∀ k v, f k = some v -> g (k + d) = some v) : RE Γ xs g (o + d) sz :=
 RE.mk fun i x hx => by
  obtain ⟨v, h1, h2, h3, h4⟩ := h.get i x hx
  refine ⟨v, h1, h2, h3, fun j u hj => ?_⟩
  have := hfg _ _ (h4 j u hj)
  have e : o + i * sz + j + d = o + d + i * sz + j := by omega
  rw [<- e]; exact this
theorem RE.news {Γ : Ghost} {f : Nat -> Option Value} {sz : Nat} : ∀ (ys : List AV) (o : Nat), RE Γ ys f o sz ->
  ∃ news : List Value, news.length = ys.length * sz /\ CellsAt f o news /\ RE Γ ys (fun k => news[k]?) 0 sz /\ ∀ u ∈ news, u.oneCell' = true
 | [], o, _ => ⟨[], by simp, fun j v hj => by simp at hj, by simp only [RE], by simp⟩
 | y :: ys, o, h => by
  simp only [RE] at h
  obtain ⟨⟨v, h1, h2, h3, h4⟩, h5⟩ := h
  obtain ⟨news, k1, k2, k3, k4⟩ := RE.news ys (o + sz) h5
  have hl : v.cells.toList.length = sz := by rw [Array.length_toList]; exact h3
  refine ⟨v.cells.toList ++ news, ?_, ?_, ?_, ?_⟩
  ·rw [List.length_append, k1, hl, List.length_cons, Nat.add_mul, Nat.one_mul, Nat.add_comm]
  ·intro j u hj
   rw [List.getElem?_append] at hj
   split at hj
   ·exact h4 j u hj
   ·rename_i hlt
    have := k2 _ u hj
    have e : o + sz + (j - v.cells.toList.length) = o + j := by omega
    rw [<- e]; exact this
  ·simp only [RE]
   refine ⟨⟨v, h1, h2, h3, fun j u hj => ?_⟩, k3.shift fun k u hk => ?_⟩
   ·show (v.cells.toList ++ news)[0 + j]? = some u
    rw [Nat.zero_add, List.getElem?_append_left]
    ·exact hj
    ·exact (List.getElem?_eq_some_iff.1 hj).1
   ·show (v.cells.toList ++ news)[k + sz]? = some u
    rw [List.getElem?_append_right (by omega)]
    have e : k + sz - v.cells.toList.length = k := by omega
    rw [e]; exact hk
  ·intro u hu
   rcases List.mem_append.1 hu with hu | hu
   ·exact oneCells h1 h2 u hu
   ·exact k4 u hu
theorem RE.ext {Γ : Ghost} {xs : List AV} {f g : Nat -> Option Value} {o sz : Nat} (h : RE Γ xs f o sz) (hfg : ∀ k v, o <= k -> k < o + xs.length * sz -> f k = some v -> g k = some v) : RE Γ xs g o sz :=
 RE.mk fun i x hx => by
  obtain ⟨v, h1, h2, h3, h4⟩ := h.get i x hx
  refine ⟨v, h1, h2, h3, fun j u hj => hfg _ _ (by omega) ?_ (h4 j u hj)⟩
  have hj' : j < sz := by rw [<- h3, <- Array.length_toList]; exact (List.getElem?_eq_some_iff.1 hj).1
  have hi : i < xs.length := (List.getElem?_eq_some_iff.1 hx).1
  have : (i + 1) * sz <= xs.length * sz := Nat.mul_le_mul_right _ hi
  rw [Nat.add_mul, Nat.one_mul] at this
  omega
theorem RE.replicate {Γ : Ghost} {x : AV} {v : Value} {f : Nat -> Option Value} {o sz n : Nat} (hx : R Γ x v) (hok : x.ok = true) (hs : v.cells.size = sz)
  (h : ∀ i, i < n -> CellsAt f (o + i * sz) v.cells.toList) : RE Γ (List.replicate n x) f o sz :=
 RE.mk fun i y hy => by
  rw [List.getElem?_replicate] at hy
  split at hy
  ·rename_i hi
   cases hy
   exact ⟨v, hx, hok, hs, h i hi⟩
  ·cases hy
theorem made_get {z : Array Value} {n k : Nat} (hk : k < n) (hz : 0 < z.size) : (madeCells z n)[k]? = z[k % z.size]? := by
 have hm : k % z.size < z.size := Nat.mod_lt _ hz
 unfold madeCells
 rw [Array.getElem?_map, Array.getElem?_range, if_pos hk]
 simp only [Option.map_some]
 rw [getElem!_pos z _ hm, Array.getElem?_eq_getElem hm]
theorem zeroCells_get {z : Array Value} {n k : Nat} (hk : k < n * z.size) (hz : 0 < z.size) : (Builtin.zeroCells z n)[k]? = z[k % z.size]? := made_get (z := z) (n := n * z.size) hk hz
theorem zeros_RE {Γ : Ghost} {x : AV} {z : Value} {c : Array Value} {sz n m : Nat} (hx : R Γ x z) (hok : x.ok = true) (hs : z.cells.size = sz) (hsz : 0 < sz) (hn : n <= m)
  (h : ∀ k, k < m * sz -> c[k]? = z.cells[k % sz]?) : RE Γ (List.replicate n x) (fun k => c[k]?) 0 sz :=
 RE.replicate hx hok hs fun i hi j u hj => by
  have hj' : j < sz := by rw [<- hs, <- Array.length_toList]; exact (List.getElem?_eq_some_iff.1 hj).1
  have : (i + 1) * sz <= m * sz := Nat.mul_le_mul_right _ (by omega)
  rw [Nat.add_mul, Nat.one_mul] at this
  show c[0 + i * sz + j]? = some u
  rw [h _ (by omega)]
  have e : (0 + i * sz + j) % sz = j := by
   rw [Nat.zero_add, Nat.add_comm, Nat.add_mul_mod_self_right, Nat.mod_eq_of_lt hj']
  rw [e, <- Array.getElem?_toList]; exact hj
theorem makeSlice_sound {E : Env} (hE : ∀ t y, E.ty t = some y -> TyOk P t y) {B : Nat} {w0 w : World} {Γ : Ghost} {st st' : St} (hI : Inv B w0 Γ st w) {lit : Bool} {t : TypeId} {l c r : AV} {lv cv : Value}
  (h : makeSliceA E st lit t l c = some (r, st')) (hl : R Γ l lv) (hc : R Γ c cv) : Does P B w0 (Instr.makeSlice t lv cv) w Γ st r st' := by
 unfold makeSliceA at h
 split at h
 ·cases h
 ·rename_i ty ht
  obtain ⟨U, i', z', hu, _, _, g1, _⟩ := (hE t ty ht).ex
  have gi := tdOf_inv g1
  split at h
  ·rename_i e l c hd
   rw [hd] at gi; simp only [TDIs] at gi; subst gi
   simp only [R] at hl hc; subst hl; subst hc
   split at h
   ·cases h
   ·rename_i et he
    obtain ⟨ei, ez, hei, hez, hes, heb, hzs, hzo, hzr⟩ := (hE e et he).zero
    split at h
    ·rename_i hcond
     obtain ⟨hsz, h0, hlc, hroom⟩ := hcond
     simp only [roomA, Bool.and_eq_true, decide_eq_true_eq] at hroom
     have hbytes : (ei.bytes : Int) * c <= 281474976710656 := by
      have hc' : (c.toNat : Int) = c := Int.toNat_of_nonneg (by omega)
      rw [<- hc', heb, Int.mul_comm, <- Int.natCast_mul]
      omega
     have hrun := run_make (P := P) w t e ei ez hu hei hez .i64 .i64 l c h0 hlc hbytes (by omega)
     have hat := alloc_at w (.cells (madeCells ez.cells (c.toNat * ei.size)) e)
     have hsz' : (madeCells ez.cells (c.toNat * ei.size)).size = c.toNat * et.size := by rw [size_madeCells, hes]
     split at h
     ·rename_i hlit
      cases h
      simp only [Bool.and_eq_true, beq_iff_eq] at hlit
      obtain ⟨_, rfl⟩ := hlit
      refine ⟨_, _, _, hrun, hI.tokNew (Touch.alloc w _) hat (n := 0) (tot := c.toNat * et.size) (by rw [hsz']; exact Nat.le_refl _), ?_⟩
      simp only [R]
      refine ⟨w.heap.size, 0, c.toNat, rfl, Nat.zero_le _, hsz, .inr ⟨0, c.toNat * et.size, by simp [Ghost.addTk], by simp, by omega⟩, by simp only [RE]⟩
     ·cases h
      have hre : RE Γ (List.replicate l.toNat et.zeroV) (fun k => (madeCells ez.cells (c.toNat * ei.size))[k]?) 0 et.size :=
       zeros_RE (hzr Γ) hzo hzs hsz (m := c.toNat) (by omega) (fun k hk => by rw [made_get (by rw [hes]; exact hk) (by omega), hzs])
      refine ⟨_, _, _, hrun, hI.rowNew (Touch.alloc w _) hat hsz (tot := c.toNat) (by simp; omega) (by rw [hsz']; exact Nat.le_refl _) hre, ?_⟩
      simp only [R]
      exact ⟨w.heap.size, 0, c.toNat, 0, c.toNat, by simp [Ghost.addObj], rfl, by omega, .inr ⟨by simp, by omega⟩⟩
    ·cases h
  ·cases h
theorem makeMap_sound {B : Nat} {w0 w : World} {Γ : Ghost} {st : St} (hI : Inv B w0 Γ st w) {t : TypeId} {kt et : TypeId} {k : Option (IntKind × Int)}
  (hu : P.underlying t = some (.map kt et)) : Does P B w0 (Instr.makeMap t (k.map fun x => .int x.1 x.2)) w Γ st (.map st.next) (st.new (.map kt et [])) := by
 have hat := alloc_at w (.map #[] 0)
 refine ⟨.map (some w.heap.size), w.alloc (.map #[] 0), _, ?_, hI.mapNew (Touch.alloc w _) kt et hat, ?_⟩
 ·cases k with
  | none => simp [Instr.makeMap]
  | some x => simp [Instr.makeMap, run_under hu, asInt, asIntOf]
 ·simp only [R]
  exact ⟨w.heap.size, by simp [Ghost.addMp], rfl⟩
theorem run_setObj_map {w : World} {b : Nat} {en : Array MapEntry} {clock : Nat} (h : w.heap[b]? = some (.map en clock)) (o : Obj) :
  (setObj b o).run P w = .ok () { w with heap := w.heap.setIfInBounds b o } := by
 simp only [setObj, Sem.run, h]
theorem setObj_touch {w : World} {b : Nat} {o : Obj} (hb : b < w.heap.size) : Touch w { w with heap := w.heap.setIfInBounds b o } b /\ ({ w with heap := w.heap.setIfInBounds b o } : World).heap[b]? = some o :=
 ⟨⟨fun k _ hne => by simp [Array.getElem?_setIfInBounds, Ne.symm hne], by simp, rfl, rfl, rfl⟩, by simp [hb]⟩
theorem sameBits_sound {E : Env} {Γ : Ghost} {kty : Ty} {k : AV} {u v : Value} (hok : keyOkA E kty k = true) (hu : R Γ k u) (hv : R Γ k v) : Instr.sameBits 10000 u v = true := by
 unfold keyOkA at hok
 split at hok
 ·simp only [R] at hu hv; subst hu; subst hv; rw [show (10000 : Nat) = 9999 + 1 from rfl, Instr.sameBits]; simp
 ·simp only [R] at hu hv; subst hu; subst hv; rw [show (10000 : Nat) = 9999 + 1 from rfl, Instr.sameBits]; simp
 ·simp only [R] at hu hv; subst hu; subst hv; rw [show (10000 : Nat) = 9999 + 1 from rfl, Instr.sameBits]; simp [bytes_beq]
 ·rename_i n e cs hd
  split at hok
  ·split at hok
   ·rename_i l hl
    simp only [Bool.and_eq_true] at hok
    obtain ⟨_, hall⟩ := hok
    simp only [R] at hu hv
    obtain ⟨us, rfl, h1⟩ := hu
    obtain ⟨vs, rfl, h2⟩ := hv
    rw [show (10000 : Nat) = 9999 + 1 from rfl, Instr.sameBits]
    have key : ∀ (cs : List AV) (us vs : List Value), (cs.all (fun c => match c with | .int m _ => decide (l = m) | _ => false)) = true -> RL Γ cs us -> RL Γ cs vs -> us = vs /\ (us.zip vs).all (fun (x, y) => Instr.sameBits 9999 x y) = true := by
     intro cs
     induction cs with
     | nil => intro us vs _ a b; rw [a.of_nil, b.of_nil]; exact ⟨rfl, rfl⟩
     | cons c cs ih =>
      intro us vs ha a b
      simp only [List.all_cons, Bool.and_eq_true] at ha
      obtain ⟨u, ur, rfl, q1, q2⟩ := a.of_cons
      obtain ⟨v, vr, rfl, q3, q4⟩ := b.of_cons
      cases c <;> simp only [Bool.false_eq_true, false_and] at ha
      simp only [R] at q1 q3
      obtain ⟨e1, e2⟩ := ih ur vr ha.2 q2 q4
      subst q1; subst q3
      refine ⟨by rw [e1], ?_⟩
      simp only [List.zip_cons_cons, List.all_cons, e2, Bool.and_true]
      rw [show (9999 : Nat) = 9998 + 1 from rfl, Instr.sameBits]; simp
    obtain ⟨e1, e2⟩ := key cs us.toList vs.toList hall h1 h2
    have e3 : us = vs := by rw [<- Array.toArray_toList (xs := us), e1, Array.toArray_toList]
    subst e3
    simp only [beq_self_eq_true, Bool.true_and]
    exact e2
   ·cases hok
  ·cases hok
 ·cases hok
end
end Go.Abs
namespace Go.Abs
open Go.RowKit
section
variable {P : Program}
theorem mapPut_sound {E : Env} (hE : ∀ t y, E.ty t = some y -> TyOk P t y) {B : Nat} {w0 w : World} {Γ : Ghost} {st st' : St} (hI : Inv B w0 Γ st w) {t : TypeId} {m k x r : AV} {mv kv xv : Value}
  (h : mapOpA E st t m k x = some (r, st')) (hm : R Γ m mv) (hk : R Γ k kv) (hx : R Γ x xv) :
  ∃ w' Γ', (Instr.mapUpdate t mv kv xv).run P w = .ok () w' /\ Out B w0 Γ st Γ' st' w' /\ r = .junk := by
 unfold mapOpA at h
 split at h
 ·rename_i ty ht
  obtain ⟨U, i', z', hu, _, _, g1, _⟩ := (hE t ty ht).ex
  have gi := tdOf_inv g1
  split at h
  ·rename_i kt et b hd
   rw [hd] at gi; simp only [TDIs] at gi; subst gi
   split at h
   ·rename_i kty hkt
    simp only [Option.map_eq_some_iff] at h
    obtain ⟨s', hput, e⟩ := h
    cases e
    unfold mapPutA at hput
    split at hput
    ·rename_i kt' et' es hg
     split at hput
     ·rename_i hc
      obtain ⟨rfl, rfl, hok, hkok, hxok⟩ := hc
      simp only [R] at hm
      obtain ⟨blk, hb, rfl⟩ := hm
      obtain ⟨en, clock, hh, hs, hre⟩ := hI.maps b kt' et' es blk hg hb
      have hlt : blk < w.heap.size := (Array.getElem?_eq_some_iff.1 hh).1
      have hen : REn Γ es en.toList := ⟨by rw [Array.length_toList]; exact hs, fun i k v hi => by
       obtain ⟨e, q1, q2, q3, q4, q5, _⟩ := hre i k v hi
       exact ⟨e, by rw [Array.getElem?_toList]; exact q1, q2, q3, q4, q5⟩⟩
      have hck := checkKey_sound hE hkt hok hk false w
      split at hput
      ·rename_i hf
       cases hput
       obtain ⟨r', k1, k2⟩ := findKey_sound hE hkt hok hk w hen hf
       cases r' with
       | some _ => exact k2.elim
       | none =>
        obtain ⟨tw, hat⟩ := setObj_touch (w := w) (o := .map (en.push { key := kv, val := xv, born := clock.1 }) (clock.1 + 1)) hlt
        refine ⟨_, Γ, ?_, hI.mapPut hg hb tw ⟨_, ⟨clock.1 + 1, by simp [clock.2]⟩, hat, by simp [hs], fun i k' v hi => ?_⟩, rfl⟩
        ·simp only [Instr.mapUpdate, Sem.run_bind, run_under hu, Result.andThen_ok, run_getObj_map hh, hck, k1, run_setObj_map hh]
        ·rw [List.getElem?_append] at hi
         split at hi
         ·rename_i hil
          obtain ⟨e, q1, q2⟩ := hre i k' v hi
          refine ⟨e, ?_, q2⟩
          rw [Array.getElem?_push, if_neg (by omega)]; exact q1
         ·rename_i hil
          have : i = es.length := by
           have := (List.getElem?_eq_some_iff.1 hi).1
           simp at this; omega
          subst this
          simp only [Nat.sub_self, List.getElem?_cons_zero, Option.some.injEq, Prod.mk.injEq] at hi
          obtain ⟨rfl, rfl⟩ := hi
          refine ⟨{ key := kv, val := xv, born := clock.1 }, ?_, hk, hx, hkok, hxok, clock.2⟩
          rw [Array.getElem?_push, if_pos (by omega)]
      ·rename_i i v0 hf
       split at hput
       ·rename_i j v1 hij
        split at hput
        ·rename_i hjk
         cases hput
         have hjk' := AV.eq_of_beq _ _ hjk
         subst hjk'
         obtain ⟨r', k1, k2⟩ := findKey_sound hE hkt hok hk w hen hf
         cases r' with
         | none => exact k2.elim
         | some q =>
          obtain ⟨i2, vv⟩ := q
          obtain ⟨rfl, _, hil, _⟩ := k2
          obtain ⟨e, q1, q2, q3, q4, q5, q6⟩ := hre i j v1 hij
          have hst : (Instr.keyThatStays (((en[i]?).map (·.key)).getD kv) kv).run P w = .ok kv w := by
           simp only [q1, Option.map_some, Option.getD_some, Instr.keyThatStays, sameBits_sound hok q2 hk, if_true, Sem.run_pure]
          obtain ⟨tw, hat⟩ := setObj_touch (w := w) (o := .map (en.modify i fun e => { e with key := kv, val := xv }) clock.1) hlt
          refine ⟨_, Γ, ?_, hI.mapPut hg hb tw ⟨_, ⟨clock.1, by simp [clock.2]⟩, hat, by simp [hs], fun n k' v hi => ?_⟩, rfl⟩
          ·simp only [Instr.mapUpdate, Sem.run_bind, run_under hu, Result.andThen_ok, run_getObj_map hh, hck, k1, hst, run_setObj_map hh]
          ·rw [List.getElem?_set] at hi
           split at hi
           ·rename_i hin
            subst hin
            have hi' : (j, x) = (k', v) := by
             first
              | (rw [if_pos (by simpa using hil)] at hi; exact Option.some.inj hi)
              | exact Option.some.inj hi
            cases hi'
            refine ⟨{ e with key := kv, val := xv }, ?_, hk, hx, hkok, hxok, q6⟩
            rw [Array.getElem?_modify, if_pos rfl, q1]; rfl
           ·rename_i hin
            obtain ⟨e', p1, p2⟩ := hre n k' v hi
            refine ⟨e', ?_, p2⟩
            rw [Array.getElem?_modify, if_neg hin]; exact p1
        ·cases hput
       ·cases hput
      ·cases hput
     ·cases hput
    ·cases hput
   ·cases h
  ·cases h
 ·cases h
theorem mapEntry_sound {E : Env} (hE : ∀ t y, E.ty t = some y -> TyOk P t y) {B : Nat} {w0 w : World} {Γ : Ghost} {st st' : St} (hI : Inv B w0 Γ st w) {t : TypeId} {m k r : AV} {mv kv : Value}
  (h : mapEntryA E st t m k = some (r, st')) (hm : R Γ m mv) (hk : R Γ k kv) : Does P B w0 (Instr.mapEntry t mv kv) w Γ st r st' := by
 unfold mapEntryA at h
 split at h
 ·rename_i ty ht
  obtain ⟨U, i', z', hu, _, _, g1, _⟩ := (hE t ty ht).ex
  have gi := tdOf_inv g1
  split at h
  ·rename_i kt et b hd
   rw [hd] at gi; simp only [TDIs] at gi; subst gi
   split at h
   ·rename_i kty ety hkt het
    obtain ⟨ei, ez, hei, hez, hes, heb, hzs, hzo, hzr⟩ := (hE et ety het).zero
    split at h
    ·rename_i kt' et' es hg
     split at h
     ·rename_i hc
      obtain ⟨rfl, rfl, hok, hkok⟩ := hc
      simp only [R] at hm
      obtain ⟨blk, hb, rfl⟩ := hm
      obtain ⟨en, clock, hh, hs, hre⟩ := hI.maps b kt' et' es blk hg hb
      have hlt : blk < w.heap.size := (Array.getElem?_eq_some_iff.1 hh).1
      have hen : REn Γ es en.toList := ⟨by rw [Array.length_toList]; exact hs, fun i k v hi => by
       obtain ⟨e, q1, q2, q3, q4, q5, _⟩ := hre i k v hi
       exact ⟨e, by rw [Array.getElem?_toList]; exact q1, q2, q3, q4, q5⟩⟩
      have hck := checkKey_sound hE hkt hok hk false w
      split at h
      ·rename_i hf
       cases h
       obtain ⟨r', k1, k2⟩ := findKey_sound hE hkt hok hk w hen hf
       cases r' with
       | some _ => exact k2.elim
       | none =>
        obtain ⟨tw, hat⟩ := setObj_touch (w := w) (o := .map (en.push { key := kv, val := ez, born := clock.1 }) (clock.1 + 1)) hlt
        refine ⟨.tuple #[ez, goInt clock.1], _, Γ, ?_, hI.mapPut hg hb tw ⟨_, ⟨clock.1 + 1, by simp [clock.2]⟩, hat, by simp [hs], fun i k' v hi => ?_⟩, ?_⟩
        ·simp only [Instr.mapEntry, Sem.run_bind, run_under hu, Result.andThen_ok, run_getObj_map hh, hck, k1, run_zero hei hez, run_setObj_map hh, Sem.run_pure]
        ·rw [List.getElem?_append] at hi
         split at hi
         ·rename_i hil
          obtain ⟨e, q1, q2⟩ := hre i k' v hi
          refine ⟨e, ?_, q2⟩
          rw [Array.getElem?_push, if_neg (by omega)]; exact q1
         ·rename_i hil
          have : i = es.length := by
           have := (List.getElem?_eq_some_iff.1 hi).1
           simp at this; omega
          subst this
          simp only [Nat.sub_self, List.getElem?_cons_zero, Option.some.injEq, Prod.mk.injEq] at hi
          obtain ⟨rfl, rfl⟩ := hi
          refine ⟨{ key := kv, val := ez, born := clock.1 }, ?_, hk, hzr Γ, hkok, hzo, clock.2⟩
          rw [Array.getElem?_push, if_pos (by omega)]
        ·simp only [R]
         refine ⟨_, rfl, RL.cons (hzr Γ) (RL.cons ?_ (RL.nil Γ))⟩
         simp only [R, goInt, clock.2]
      ·rename_i i v0 hf
       split at h
       ·rename_i j v1 hij
        split at h
        ·rename_i hjk
         cases h
         have hjk' := AV.eq_of_beq _ _ hjk
         subst hjk'
         obtain ⟨r', k1, k2⟩ := findKey_sound hE hkt hok hk w hen hf
         cases r' with
         | none => exact k2.elim
         | some q =>
          obtain ⟨i2, vv⟩ := q
          obtain ⟨rfl, _, hil, hvv, _⟩ := k2
          obtain ⟨e, q1, q2, q3, q4, q5, q6⟩ := hre i j v1 hij
          have hst : (Instr.keyThatStays (((en[i]?).map (·.key)).getD kv) kv).run P w = .ok kv w := by
           simp only [q1, Option.map_some, Option.getD_some, Instr.keyThatStays, sameBits_sound hok q2 hk, if_true, Sem.run_pure]
          have hbn : (((en[i]?).map (fun x => (x.born : Int))).getD 0) = (i : Int) := by
           simp only [q1, Option.map_some, Option.getD_some, q6]
          obtain ⟨tw, hat⟩ := setObj_touch (w := w) (o := .map (en.modify i fun e => { e with key := kv }) clock.1) hlt
          refine ⟨.tuple #[vv, goInt i], _, Γ, ?_, hI.mapPut hg hb tw ⟨_, ⟨clock.1, clock.2⟩, hat, by simp [hs], fun n k' v hi => ?_⟩, ?_⟩
          ·simp only [Instr.mapEntry, Sem.run_bind, run_under hu, Result.andThen_ok, run_getObj_map hh, hck, k1, hst, hbn, run_setObj_map hh, Sem.run_pure]
          ·obtain ⟨e', p1, p2⟩ := hre n k' v hi
           by_cases hin : i = n
           ·subst hin
            rw [q1] at p1; cases p1
            rw [hij] at hi; cases hi
            refine ⟨{ e with key := kv }, ?_, hk, p2.2⟩
            rw [Array.getElem?_modify, if_pos rfl, q1]; rfl
           ·refine ⟨e', ?_, p2⟩
            rw [Array.getElem?_modify, if_neg hin]; exact p1
          ·simp only [R]
           refine ⟨_, rfl, RL.cons hvv (RL.cons ?_ (RL.nil Γ))⟩
           simp only [R, goInt]
        ·cases h
       ·cases h
      ·cases h
     ·cases h
    ·cases h
   ·cases h
  ·cases h
 ·cases h
theorem entryStore_sound {B : Nat} {w0 w : World} {Γ : Ghost} {st st' : St} (hI : Inv B w0 Γ st w) {t : TypeId} {m s x r : AV} {mv sv xv : Value}
  (h : entryStoreA st m s x = some (r, st')) (hm : R Γ m mv) (hs : R Γ s sv) (hx : R Γ x xv) :
  ∃ w' Γ', (Instr.entryStore t mv sv xv).run P w = .ok () w' /\ Out B w0 Γ st Γ' st' w' /\ r = .junk := by
 unfold entryStoreA at h
 split at h
 ·rename_i b ik i
  split at h
  ·rename_i kt et es hg
   split at h
   ·rename_i hc
    obtain ⟨h0, hxok⟩ := hc
    split at h
    ·rename_i j v0 hij
     cases h
     simp only [R] at hm hs
     subst hs
     obtain ⟨blk, hb, rfl⟩ := hm
     obtain ⟨en, clock, hh, hsz, hre⟩ := hI.maps b kt et es blk hg hb
     have hlt : blk < w.heap.size := (Array.getElem?_eq_some_iff.1 hh).1
     obtain ⟨e, q1, q2, q3, q4, q5, q6⟩ := hre i.toNat j v0 hij
     have hil : i.toNat < en.size := (Array.getElem?_eq_some_iff.1 q1).1
     have hfi : en.findIdx? (fun e => (e.born : Int) == i) = some i.toNat := by
      rw [Array.findIdx?_eq_some_iff_getElem]
      refine ⟨hil, ?_, fun n hn => ?_⟩
      ·have : en[i.toNat] = e := by rw [Array.getElem?_eq_getElem hil] at q1; exact Option.some.inj q1
       rw [this, q6]; simp; omega
      ·have hne : n < es.length := by omega
       obtain ⟨e2, p1, _, _, _, _, p6⟩ := hre n _ _ (List.getElem?_eq_getElem hne)
       have : en[n] = e2 := by rw [Array.getElem?_eq_getElem (by omega)] at p1; exact Option.some.inj p1
       rw [this, p6]; simp; omega
     obtain ⟨tw, hat⟩ := setObj_touch (w := w) (o := .map (en.modify i.toNat fun e => { e with val := xv }) clock.1) hlt
     refine ⟨_, Γ, ?_, hI.mapPut hg hb tw ⟨_, ⟨clock.1, by simp [clock.2]⟩, hat, by simp [hsz], fun n k' v hi => ?_⟩, rfl⟩
     ·simp only [Instr.entryStore, Sem.run_bind, run_getObj_map hh, Result.andThen_ok, asInt, asIntOf, Sem.run_pure, hfi, run_setObj_map hh]
     ·rw [List.getElem?_set] at hi
      split at hi
      ·rename_i hin
       subst hin
       have hi' : (j, x) = (k', v) := by
        first
         | (rw [if_pos (by have := (List.getElem?_eq_some_iff.1 hij).1; simpa using this)] at hi; exact Option.some.inj hi)
         | exact Option.some.inj hi
       cases hi'
       refine ⟨{ e with val := xv }, ?_, q2, hx, q4, hxok, q6⟩
       rw [Array.getElem?_modify, if_pos rfl, q1]; rfl
      ·rename_i hin
       obtain ⟨e', p1, p2⟩ := hre n k' v hi
       refine ⟨e', ?_, p2⟩
       rw [Array.getElem?_modify, if_neg hin]; exact p1
    ·cases h
   ·cases h
  ·cases h
 ·cases h
structure Fed (P : Program) (Γ : Ghost) (size : Nat) (tx : TypeId) (x : Value) (ys : List AV) (news : List Value) (w : World) : Prop where
 src : Src P size tx x ys.length news w
 els : RE Γ ys (fun k => news[k]?) 0 size
theorem elems_sound {E : Env} (hE : ∀ t y, E.ty t = some y -> TyOk P t y) {B : Nat} {w0 w : World} {Γ : Ghost} {st : St} (hI : Inv B w0 Γ st w) {tx : TypeId} {tyx et : Ty} {x : AV} {v : Value} {sz' : Nat} {ys : List AV}
  (ht : E.ty tx = some tyx) (hd : (∃ e, tyx.d = .slice e) \/ tyx.d = .string) (hs : (decide (tyx.d = .string) == isStrA x) = true) (hsz : 0 < et.size)
  (h : elemsA st x = some (sz', ys)) (hok : okElems et ys = true) (hsame : (ys.isEmpty || sz' == et.size) = true) (hx : R Γ x v) : ∃ news, Fed P Γ et.size tx v ys news w := by
 obtain ⟨U, i', z', hu, _, _, g1, _⟩ := (hE tx tyx ht).ex
 have gi := tdOf_inv g1
 have hsl : isStrA x = false -> ∃ e, P.underlying tx = some (.slice e) := by
  intro hf
  rw [hf] at hs
  rcases hd with ⟨e, hd⟩ | hd
  ·rw [hd] at gi; simp only [TDIs] at gi; exact ⟨e, gi ▸ hu⟩
  ·rw [hd] at hs; simp at hs
 unfold elemsA at h
 split at h
 ·rename_i s
  cases h
  simp only [R] at hx; subst hx
  have hd' : tyx.d = .string := by simpa [isStrA] using hs
  rw [hd'] at gi; simp only [TDIs] at gi; subst gi
  have hlen : (bytesA s).length = s.size := by simp [bytesA]
  by_cases he : bytesA s = []
  ·have h0 : s.size = 0 := by rw [<- hlen, he]; rfl
   refine ⟨[], ⟨⟨.inr hu, fun _ => by rw [he]; simp [Builtin.lenOf, h0], ?_, ?_, by rw [he]; simp, by simp⟩, by rw [he]; simp only [RE]⟩⟩
   ·rw [he]; simp [Builtin.firstCells]
   ·rw [he]; simp [Builtin.firstCells]
  ·have h1 : 1 = et.size := by
    cases hb : bytesA s with
    | nil => exact absurd hb he
    | cons a r => rw [hb] at hsame; simpa using hsame
   rw [<- h1]
   refine ⟨byteCells s, ⟨by rw [hlen]; exact Src.ofString w hu s, ?_⟩⟩
   refine bytesA_RE fun j b hb => ?_
   show (byteCells s)[0 + j]? = _
   rw [Nat.zero_add]
   unfold byteCells
   rw [List.getElem?_map, Array.getElem?_toList, hb]; rfl
 ·cases h
  simp only [R] at hx; subst hx
  obtain ⟨e, hu'⟩ := hsl rfl
  exact ⟨[], ⟨Src.ofNil w hu' 0, by simp only [RE]⟩⟩
 ·cases h
  simp only [R] at hx; obtain ⟨a, cap, rfl⟩ := hx
  obtain ⟨e, hu'⟩ := hsl rfl
  exact ⟨[], ⟨Src.ofSlice w hu' a 0 cap [] (by simp) (fun j u hj => by simp at hj) (by simp), by simp only [RE]⟩⟩
 ·rename_i sz own xs
  cases h
  obtain ⟨e, hu'⟩ := hsl rfl
  simp only [R] at hx
  obtain ⟨blk, o, cap, rfl, h1, h2, h3, h4⟩ := hx
  by_cases he : ys = []
  ·subst he
   exact ⟨[], ⟨Src.ofSlice w hu' _ 0 cap [] (by simp) (fun j u hj => by simp at hj) (by simp), by simp only [RE]⟩⟩
  ·have hse : sz' = et.size := by
    cases ys with
    | nil => exact absurd rfl he
    | cons a r => simpa using hsame
   subst hse
   obtain ⟨news, k1, k2, k3, k4⟩ := RE.news ys o h4
   exact ⟨news, ⟨Src.ofSlice w hu' _ ys.length cap news k1 (fun j u hj => by rw [add_mk]; exact hI.inert _ _ _ (k2 j u hj)) k4, k3⟩⟩
 ·rename_i sz b off len
  obtain ⟨e, hu'⟩ := hsl rfl
  split at h
  ·rename_i sz1 xs hg
   split at h
   ·rename_i hle
    cases h
    simp only [R] at hx
    obtain ⟨blk, base, tot, o, cap, ho, rfl, h2, h3⟩ := hx
    obtain ⟨e1, hsz1, hlt, hmem⟩ := hI.rows b sz1 xs blk base sz' tot hg ho
    subst e1
    have hyl : ((xs.drop off).take len).length = len := by rw [List.length_take, List.length_drop]; omega
    by_cases he : (xs.drop off).take len = []
    ·have h0 : len = 0 := by rw [<- hyl, he]; rfl
     subst h0
     rw [he]
     exact ⟨[], ⟨Src.ofSlice w hu' _ 0 cap [] (by simp) (fun j u hj => by simp at hj) (by simp), by simp only [RE]⟩⟩
    ·have hlen0 : 0 < len := by
      rcases Nat.eq_zero_or_pos len with h0 | h0
      ·subst h0; exact absurd (by simp) he
      ·exact h0
     have hse : sz' = et.size := by
      cases hq : (xs.drop off).take len with
      | nil => exact absurd hq he
      | cons a r => rw [hq] at hsame; simpa using hsame
     subst hse
     rcases h3 with h3 | ⟨h3, h4⟩
     ·omega
     ·subst h3
      obtain ⟨⟨c, T, hh, hcs, hre⟩, _⟩ := hmem (by omega)
      obtain ⟨news, k1, k2, k3, k4⟩ := RE.news _ _ ((hre.drop off).take len)
      rw [hyl] at k1
      refine ⟨news, ⟨?_, k3⟩⟩
      rw [hyl]
      exact Src.ofSlice w hu' _ len cap news k1 (fun j u hj => by rw [add_mk, cell_of_heap hh]; exact k2 j u hj) k4
   ·cases h
  ·cases h
 ·cases h
end
end Go.Abs
namespace Go.Abs
open Go.RowKit
section
variable {P : Program}
theorem grow_facts {Γ : Ghost} {w : World} {ts tx e rt : TypeId} {ei : TypeInfo} {ez : Value} {size : Nat} (hu : P.underlying ts = some (.slice e)) (hei : P.info? e = some ei) (hez : ei.zero = some ez)
  (hes : ei.size = size) (hzs : ez.cells.size = size) {xs ys : List AV} {news olds : List Value} {xv : Value} (fed : Fed P Γ size tx xv ys news w) {base : Option Addr} {sCap : Nat}
  (hol : olds.length = xs.length * size) (hold : (Builtin.firstCells ei.size xs.length (.slice base xs.length sCap)).run P w.drew = .ok olds.toArray w.drew) (hre : RE Γ xs (fun k => olds[k]?) 0 size)
  (hg : sCap < xs.length + ys.length) (hroom : (xs.length + ys.length) * ei.bytes <= 140737488355328) (h63 : xs.length + ys.length <= 9223372036854775807) :
  ∃ c cap, (Builtin.append_ #[ts, tx] rt #[.slice base xs.length sCap, xv]).run P w = .ok (.slice (some ⟨w.heap.size, 0, none⟩) (xs.length + ys.length) cap) (w.drew.alloc (.cells c e)) /\
   c.size = cap * size /\ xs.length + ys.length <= cap /\ RE Γ (xs ++ ys) (fun k => c[k]?) 0 size := by
 subst hes
 have hrun := run_append_grow_src (P := P) w ts tx rt e ei ez hu hei hez base xs.length sCap olds hold xv ys.length news fed.src hg (by omega) (growslice_fits hg hroom)
 have hcap := grownCap_ge w (xs.length + ys.length) sCap e
 refine ⟨_, _, hrun, ?_, hcap, ?_⟩
 ·rw [Array.size_append, List.size_toArray, List.length_append, hol, fed.src.newsLen, size_zeroCells, hzs, <- Nat.add_mul, <- Nat.add_mul]
  congr 1; omega
 ·have main : RE Γ (xs ++ ys) (fun k => (olds ++ news)[k]?) 0 ei.size := by
   refine RE.append (hre.ext fun k v _ hk hv => ?_) ?_
   ·show (olds ++ news)[k]? = some v
    rw [List.getElem?_append_left]
    ·exact hv
    ·exact (List.getElem?_eq_some_iff.1 hv).1
   ·refine fed.els.shift (d := xs.length * ei.size) fun k v hv => ?_
    show (olds ++ news)[k + xs.length * ei.size]? = some v
    rw [List.getElem?_append_right (by omega), hol, Nat.add_sub_cancel]
    exact hv
  refine main.ext fun k v _ _ hv => ?_
  show ((olds ++ news).toArray ++ _)[k]? = some v
  rw [Array.getElem?_append_left]
  ·rw [List.getElem?_toArray]; exact hv
  ·rw [List.size_toArray]; exact (List.getElem?_eq_some_iff.1 hv).1
theorem drew_alloc_touch (w : World) (o : Obj) : Touch w (w.drew.alloc o) w.heap.size := (Touch.drawn w _ _).trans (Touch.alloc w.drew o)
theorem newTok_does {B : Nat} {w0 w : World} {Γ : Ghost} {st : St} (hI : Inv B w0 Γ st w) {c : Array Value} {e : TypeId} {cap size : Nat} {xs : List AV} {n : Nat} (hn : n = xs.length) (hsz : 0 < size)
  (hc : c.size = cap * size) (hle : n <= cap) (hre : RE Γ xs (fun k => c[k]?) 0 size) :
  ∃ Γ', Out B w0 Γ st Γ' (st.newTok.ttag st.next e) (w.drew.alloc (.cells c e)) /\ R Γ' (.vs size (.tok st.next) xs) (.slice (some ⟨w.heap.size, 0, none⟩) n cap) := by
 subst hn
 have hat : (w.drew.alloc (.cells c e)).heap[w.heap.size]? = some (.cells c e (0, 0)) := alloc_at w.drew (.cells c e)
 have out := hI.tokNew (drew_alloc_touch w _) hat (n := xs.length * size) (tot := cap * size) (by rw [hc]; exact Nat.le_refl _)
 have out2 := out.inv.ttag (i := st.next) (blk := w.heap.size) (T := e) (by simp [Ghost.addTk]; exact ⟨rfl, rfl⟩) ⟨_, _, hat⟩
 refine ⟨_, out.trans out2, R.mono out2.le _ _ ?_⟩
 simp only [R]
 refine ⟨w.heap.size, 0, cap, rfl, hle, hsz, .inr ⟨xs.length * size, cap * size, by simp [Ghost.addTk], by simp, by omega⟩, ?_⟩
 refine (RE.mono out.le xs _ _ 0 size (fun _ _ k => k) hre).ext fun k v _ hk hv => ?_
 simp only [Ghost.addTk, Ghost.addInert, if_pos]
 rw [if_pos (by omega)]; exact hv
theorem tokOnA_out {B : Nat} {w0 w' : World} {Γ Γ' : Ghost} {st : St} {t : Nat} {e : TypeId} (out : Out B w0 Γ st Γ' (st.dropTok t).newTok w')
  (h : st.tty t = some e -> ∃ blk e' tot, Γ'.tk st.next = some (blk, e', tot) /\ TyAt w' blk e) : ∃ Γ2, Γ'.Le Γ2 /\ Out B w0 Γ st Γ2 (tokOnA st t e) w' := by
 unfold tokOnA
 split
 ·rename_i e2 he
  split
  ·rename_i heq
   subst heq
   obtain ⟨blk, e', tot, h1, h2⟩ := h he
   have out2 := out.inv.ttag h1 h2
   exact ⟨_, out2.le, out.trans out2⟩
  ·exact ⟨_, Ghost.Le.refl _, out⟩
 ·exact ⟨_, Ghost.Le.refl _, out⟩
theorem newRow_does {B : Nat} {w0 w : World} {Γ : Ghost} {st : St} (hI : Inv B w0 Γ st w) {c : Array Value} {e : TypeId} {cap size : Nat} {xs : List AV} {n : Nat} (hn : n = xs.length) (hsz : 0 < size)
  (hc : c.size = cap * size) (hle : n <= cap) (hre : RE Γ xs (fun k => c[k]?) 0 size) :
  ∃ Γ', Out B w0 Γ st Γ' (st.new (.row size xs)) (w.drew.alloc (.cells c e)) /\ R Γ' (.sl size st.next 0 n) (.slice (some ⟨w.heap.size, 0, none⟩) n cap) := by
 subst hn
 have hat : (w.drew.alloc (.cells c e)).heap[w.heap.size]? = some (.cells c e (0, 0)) := alloc_at w.drew (.cells c e)
 have out := hI.rowNew (drew_alloc_touch w _) hat hsz hle (by rw [hc]; exact Nat.le_refl _) hre
 refine ⟨_, out, ?_⟩
 simp only [R]
 exact ⟨w.heap.size, 0, cap, 0, cap, by simp [Ghost.addObj], rfl, hle, .inr ⟨by simp, by omega⟩⟩
theorem append_none {ts tx e rt : TypeId} {ei : TypeInfo} {size : Nat} (hu : P.underlying ts = some (.slice e)) (hei : P.info? e = some ei) (hes : ei.size = size) {Γ : Ghost} {w : World} {xv : Value} {news : List Value}
  (fed : Fed P Γ size tx xv [] news w) (base : Option Addr) {n cap : Nat} (h : n <= cap) : (Builtin.append_ #[ts, tx] rt #[.slice base n cap, xv]).run P w = .ok (.slice base n cap) w := by
 subst hes
 have hn : news = [] := List.eq_nil_of_length_eq_zero (by have := fed.src.newsLen; simpa using this)
 subst hn
 exact run_append_nothing w ts tx rt e ei hu hei base n cap h xv fed.src
set_option maxHeartbeats 1000000 in
theorem append_sound {E : Env} (hE : ∀ t y, E.ty t = some y -> TyOk P t y) {B : Nat} {w0 w : World} {Γ : Ghost} {st st' : St} (hI : Inv B w0 Γ st w) {obj : Bool} {ts tx e rt : TypeId} {tys et : Ty} {s r : AV} {sv xv : Value} {ys : List AV} {news : List Value}
  (hts : E.ty ts = some tys) (hd : tys.d = .slice e) (he : E.ty e = some et) (hsz : 0 < et.size) (fed : Fed P Γ et.size tx xv ys news w) (h : appendA obj e et st s ys = some (r, st')) (hs : R Γ s sv) :
  Does P B w0 (Builtin.append_ #[ts, tx] rt #[sv, xv]) w Γ st r st' := by
 obtain ⟨U, i', z', hu, _, _, g1, _⟩ := (hE ts tys hts).ex
 have gi := tdOf_inv g1
 rw [hd] at gi; simp only [TDIs] at gi; subst gi
 obtain ⟨ei, ez, hei, hez, hes, heb, hzs, hzo, hzr⟩ := (hE e et he).zero
 have refl0 : Out B w0 Γ st Γ st w := ⟨Ghost.Le.refl Γ, hI, Keep.refl Γ st⟩
 unfold appendA at h
 split at h
 ·-- nil
  simp only [R] at hs; subst hs
  split at h
  ·cases h
   exact ⟨_, w, Γ, append_none hu hei hes fed none (Nat.le_refl 0), refl0, by simp only [R]⟩
  ·rename_i y ys
   split at h
   ·rename_i hroom
    simp only [roomA, Bool.and_eq_true, decide_eq_true_eq] at hroom
    obtain ⟨c, cap, hrun, hc, hle, hre⟩ := grow_facts (xs := []) (olds := []) (base := none) (sCap := 0) (rt := rt) hu hei hez hes hzs fed (by simp) (by simpa using run_firstCells_none w.drew ei.size 0 0 0) (by simp only [RE]) (by simp) (by simp only [List.length_nil, Nat.zero_add, heb]; exact hroom.1) (by simp only [List.length_nil, Nat.zero_add]; exact hroom.2)
    simp only [List.length_nil, Nat.zero_add, List.nil_append] at hrun hle hre
    split at h
    ·cases h
     obtain ⟨Γ', o1, o2⟩ := newRow_does hI (e := e) rfl hsz hc hle hre
     exact ⟨_, _, Γ', hrun, o1, o2⟩
    ·cases h
     obtain ⟨Γ', o1, o2⟩ := newTok_does hI (e := e) rfl hsz hc hle hre
     exact ⟨_, _, Γ', hrun, o1, o2⟩
   ·cases h
 ·-- empty
  split at h
  ·rename_i hy
   have hy' : ys = [] := by simpa using hy
   subst hy'
   cases h
   have hs' := hs
   simp only [R] at hs
   obtain ⟨a, cap, rfl⟩ := hs
   exact ⟨_, w, Γ, append_none (rt := rt) hu hei hes fed (some a) (Nat.zero_le cap), refl0, hs'⟩
  ·cases h
 ·-- full
  rename_i sz xs
  split at h
  ·rename_i hcond
   obtain ⟨rfl, hroom⟩ := hcond
   simp only [roomA, Bool.and_eq_true, decide_eq_true_eq] at hroom
   simp only [R] at hs
   obtain ⟨blk, o, cap, rfl, k1, k2, k3, k4⟩ := hs
   have hcap : cap = xs.length := k3
   subst hcap
   obtain ⟨olds, q1, q2, q3, q4⟩ := RE.news xs o k4
   have hold : (Builtin.firstCells ei.size xs.length (.slice (some ⟨blk, o, none⟩) xs.length xs.length)).run P w.drew = .ok olds.toArray w.drew :=
    run_firstCells_some w.drew ei.size xs.length _ _ _ olds (by rw [hes]; exact q1) (fun j u hj => by rw [add_mk]; exact (hI.drawn _).inert _ _ _ (q2 j u hj))
   by_cases hy : ys = []
   ·subst hy
    have hrun := append_none (rt := rt) hu hei hes fed (some ⟨blk, o, none⟩) (Nat.le_refl xs.length)
    split at h
    ·split at h
     ·cases h
      have out := hI.rowEmpty (sz := et.size) (blk := blk) (bs := o) hsz
      refine ⟨_, w, _, hrun, out, ?_⟩
      simp only [R]
      exact ⟨blk, o, 0, o, 0, by simp [Ghost.addObj], rfl, Nat.le_refl _, .inl rfl⟩
     ·cases h
     ·rename_i hh; cases hh
    ·cases h
     refine ⟨_, w, Γ, hrun, refl0, ?_⟩
     simp only [R]
     exact ⟨blk, o, xs.length, rfl, Nat.le_refl _, k2, rfl, k4⟩
   ·have hpos : 0 < ys.length := List.length_pos_iff.2 hy
    obtain ⟨c, cap, hrun, hc, hle, hre⟩ := grow_facts (xs := xs) (olds := olds) (rt := rt) hu hei hez hes hzs fed q1 hold q3 (by omega) (by rw [heb]; exact hroom.1) hroom.2
    split at h
    ·split at h
     ·cases h
      simp only [List.nil_append, List.length_nil, Nat.zero_add] at hre hle hrun
      obtain ⟨Γ', o1, o2⟩ := newRow_does hI (e := e) rfl hsz hc hle hre
      exact ⟨_, _, Γ', hrun, o1, o2⟩
     ·exact absurd rfl hy
     ·cases h
      obtain ⟨Γ', o1, o2⟩ := newRow_does hI (e := e) (by rw [List.length_append]) hsz hc hle hre
      exact ⟨_, _, Γ', hrun, o1, o2⟩
    ·split at h
     ·exact absurd rfl hy
     ·cases h
      obtain ⟨Γ', o1, o2⟩ := newTok_does hI (e := e) (by rw [List.length_append]) hsz hc hle hre
      exact ⟨_, _, Γ', hrun, o1, o2⟩
  ·cases h
 ·-- any
  rename_i sz xs
  split at h
  ·rename_i hy
   have hy' : ys = [] := by simpa using hy
   subst hy'
   cases h
   have hs' := hs
   simp only [R] at hs
   obtain ⟨blk, o, cap, rfl, k1, k2, k3, k4⟩ := hs
   exact ⟨_, w, Γ, append_none (rt := rt) hu hei hes fed (some ⟨blk, o, none⟩) k1, refl0, hs'⟩
  ·cases h
 ·-- under a token
  rename_i sz t xs
  split at h
  ·rename_i hcond
   obtain ⟨rfl, hal, hroom⟩ := hcond
   cases h
   simp only [roomA, Bool.and_eq_true, decide_eq_true_eq] at hroom
   simp only [R] at hs
   obtain ⟨blk, o, cap, rfl, k1, k2, k3, k4⟩ := hs
   by_cases hy : ys = []
   ·subst hy
    have hrun := append_none (rt := rt) hu hei hes fed (some ⟨blk, o, none⟩) k1
    have out := hI.tokSame hal
    obtain ⟨Γ2, le2, out2⟩ := tokOnA_out (e := e) out fun hty => by
     obtain ⟨blk', e', tot, h1, h2⟩ := hI.ttys t e hty
     exact ⟨blk', e', tot, by simp [Ghost.addTk, h1], hI.ety _ _ h2⟩
    refine ⟨_, w, _, hrun, out2, R.mono le2 _ _ ?_⟩
    simp only [R, List.append_nil]
    refine ⟨blk, o, cap, rfl, k1, k2, ?_, RE.mono out.le xs _ _ _ _ (fun _ _ k => k) k4⟩
    rcases k3 with k3 | ⟨e', tot, a1, a2⟩
    ·exact .inl k3
    ·exact .inr ⟨e', tot, by simp [Ghost.addTk, a1], a2⟩
   ·have hpos : 0 < ys.length := List.length_pos_iff.2 hy
    by_cases hfit : xs.length + ys.length <= cap
    ·-- in place
     rcases k3 with k3 | ⟨e', tot, a1, a2, a3⟩
     ·omega
     ·obtain ⟨⟨c, T, hh, htot⟩, hno⟩ := hI.toks t blk e' tot hal a1
      have hnl := fed.src.newsLen
      have hmul : (xs.length + ys.length) * et.size <= cap * et.size := Nat.mul_le_mul_right _ hfit
      rw [Nat.add_mul] at hmul
      have hend : o + xs.length * et.size + news.length <= c.size := by omega
      have hcell : ∀ j, j < news.length -> (w.cell? ⟨blk, o + xs.length * ei.size + j, none⟩).isSome = true := by
       intro j hj
       rw [cell_of_heap hh, hes]
       have : o + xs.length * et.size + j < c.size := by omega
       rw [Array.getElem?_eq_getElem this]; rfl
      have hfz : ∀ j, j < news.length -> w.frozen? ⟨blk, o + xs.length * ei.size + j, none⟩ = false := by
       intro j _; simp [World.frozen?, hh]
      have hrun := run_append_room_src (P := P) w ts tx rt e ei hu hei blk o xs.length cap xv ys.length news (by rw [hes]; exact fed.src) hfit hcell hfz
      rw [hes] at hrun
      obtain ⟨tw, c', hc', hcs', hget⟩ := setCells_put news hh hend
      have hold : ∀ o' v, Γ.inert blk o' = some v -> c'[o']? = some v := by
       intro o' v hv
       have hlt : o' < e' := by
        rcases Nat.lt_or_ge o' e' with k | k
        ·exact k
        ·rw [hno o' k] at hv; cases hv
       rw [hget, if_pos (by omega), <- cell_of_heap hh]
       exact hI.inert _ _ _ hv
      have out := hI.tokOn hal a1 tw hc' (by rw [hcs']; exact htot) (e' := e' + ys.length * et.size) (by omega) hold (TyAt.same hh hc')
      obtain ⟨Γ2, le2, out2⟩ := tokOnA_out (e := e) out fun hty => by
       obtain ⟨blk2, e2, tot2, h1, h2⟩ := hI.ttys t e hty
       rw [a1] at h1
       simp only [Option.some.injEq, Prod.mk.injEq] at h1
       obtain ⟨h1, _, _⟩ := h1
       rw [<- h1] at h2
       exact ⟨blk, e' + ys.length * et.size, tot, by simp [Ghost.addTk], TyAt.same hh hc' e (hI.ety _ _ h2)⟩
      refine ⟨_, _, _, hrun, out2, R.mono le2 _ _ ?_⟩
      simp only [R]
      refine ⟨blk, o, cap, by rw [List.length_append], by rw [List.length_append]; exact hfit, k2, .inr ⟨e' + ys.length * et.size, tot, by simp [Ghost.addTk], ?_, a3⟩, ?_⟩
      ·rw [List.length_append, Nat.add_mul, <- a2, Nat.add_assoc]
      ·refine RE.append ?_ ?_
       ·refine RE.mono out.le xs _ _ o et.size (fun k v hv => ?_) k4
        exact out.le.inert blk k v hv
       ·have := RE.mono out.le ys _ (fun k => news[k]?) 0 et.size (fun _ _ k => k) fed.els
        have h2 := this.shift (g := ((Γ.addInert blk fun o' => if e' <= o' /\ o' < e' + ys.length * et.size then c'[o']? else Γ.inert blk o').addTk st.next (some (blk, e' + ys.length * et.size, tot))).inert blk) (d := o + xs.length * et.size) (fun k v hv => by
         have hk : k < news.length := (List.getElem?_eq_some_iff.1 hv).1
         simp only [Ghost.addTk, Ghost.addInert, if_pos]
         rw [if_pos (by omega), hget, if_neg (by omega), if_pos (by omega)]
         have : k + (o + xs.length * et.size) - (o + xs.length * et.size) = k := by omega
         rw [this]; exact hv)
        rw [Nat.zero_add] at h2
        exact h2
    ·-- a new array
     obtain ⟨olds, q1, q2, q3, q4⟩ := RE.news xs o k4
     have hold : (Builtin.firstCells ei.size xs.length (.slice (some ⟨blk, o, none⟩) xs.length cap)).run P w.drew = .ok olds.toArray w.drew :=
      run_firstCells_some w.drew ei.size xs.length _ _ _ olds (by rw [hes]; exact q1) (fun j u hj => by rw [add_mk]; exact (hI.drawn _).inert _ _ _ (q2 j u hj))
     obtain ⟨c, cap', hrun, hc, hle, hre⟩ := grow_facts (xs := xs) (olds := olds) (rt := rt) hu hei hez hes hzs fed q1 hold q3 (by omega) (by rw [heb]; exact hroom.1) hroom.2
     have out1 := hI.dropTok t
     have hat : (w.drew.alloc (.cells c e)).heap[w.heap.size]? = some (.cells c e (0, 0)) := alloc_at w.drew (.cells c e)
     have out3 := out1.inv.tokNew (drew_alloc_touch w _) hat (n := (xs ++ ys).length * et.size) (tot := cap' * et.size) (by rw [hc]; exact Nat.le_refl _)
     obtain ⟨Γ2, le2, out2⟩ := tokOnA_out (e := e) (out1.trans out3) fun _ => ⟨w.heap.size, _, _, by simp [Ghost.addTk]; exact ⟨rfl, rfl⟩, ⟨_, _, hat⟩⟩
     refine ⟨_, _, Γ2, hrun, out2, R.mono le2 _ _ ?_⟩
     simp only [R]
     refine ⟨w.heap.size, 0, cap', by rw [List.length_append], by rw [List.length_append]; exact hle, hsz, .inr ⟨(xs ++ ys).length * et.size, cap' * et.size, by simp [Ghost.addTk], by simp, by omega⟩, ?_⟩
     refine (RE.mono out3.le (xs ++ ys) _ _ 0 et.size (fun _ _ k => k) hre).ext fun k v _ hk hv => ?_
     simp only [Ghost.addTk, Ghost.addInert, if_pos]
     rw [if_pos (by omega)]; exact hv
  ·cases h
 ·-- a slice of a row
  rename_i sz b off len
  split at h
  ·rename_i sz' xs hg
   split at h
   ·rename_i hcond
    obtain ⟨rfl, rfl, hlen, hroom⟩ := hcond
    cases h
    simp only [roomA, Bool.and_eq_true, decide_eq_true_eq] at hroom
    simp only [R] at hs
    obtain ⟨blk, base, tot, o, cap, ho, rfl, k1, k2⟩ := hs
    obtain ⟨_, _, hlt, hmem⟩ := hI.rows b _ xs blk base _ tot hg ho
    have hxl : ((xs.drop off).take len).length = len := by rw [List.length_take, List.length_drop]; omega
    -- in the same memory
    have inPlace : ∀ {w' : World} {c' : Array Value} {T : TypeId}, Touch w w' blk -> w'.heap[blk]? = some (.cells c' T (0, 0)) -> 0 < tot -> o = base + off * et.size -> off + cap <= tot -> base + tot * et.size <= c'.size ->
      len + ys.length <= cap -> RE Γ ((xs.drop off).take len ++ ys) (fun k => c'[k]?) (base + off * et.size) et.size -> (∀ T', TyAt w blk T' -> TyAt w' blk T') ->
      ∃ Γ', Out B w0 Γ st Γ' ((st.drop b).new (.row et.size ((xs.drop off).take len ++ ys))) w' /\ R Γ' (.sl et.size st.next 0 (len + ys.length)) (.slice (some ⟨blk, o, none⟩) (len + ys.length) cap) := by
     intro w' c' T tw hc' h0 hoo hcap hcs hle hre hty
     have hmul : (off + cap) * et.size <= tot * et.size := Nat.mul_le_mul_right _ hcap
     rw [Nat.add_mul] at hmul
     have hsub : (tot - off) * et.size = tot * et.size - off * et.size := Nat.sub_mul _ _ _
     have out := hI.rowOn hg ho h0 tw hc' (bs' := base + off * et.size) (tot' := tot - off) (by omega) (by rw [List.length_append, hxl]; omega) hre hty
     refine ⟨_, out, ?_⟩
     simp only [R]
     exact ⟨blk, base + off * et.size, tot - off, o, cap, by simp [Ghost.addObj], rfl, hle, .inr ⟨by rw [hoo]; simp, by omega⟩⟩
    by_cases hy : ys = []
    ·subst hy
     have hrun := append_none (rt := rt) hu hei hes fed (some ⟨blk, o, none⟩) k1
     simp only [List.append_nil, List.length_nil, Nat.add_zero] at inPlace ⊢
     by_cases hc0 : cap = 0
     ·have hl0 : len = 0 := by omega
      subst hl0
      have out1 := hI.dropObj ho
      have out2 := out1.inv.rowEmpty (sz := et.size) (blk := blk) (bs := o) hsz
      refine ⟨_, w, Γ.addObj (st.drop b).next (blk, o, et.size, 0), hrun, ?_, ?_⟩
      ·have : List.take 0 (List.drop off xs) = [] := rfl
       rw [this]
       exact out1.trans out2
      ·simp only [R]
       exact ⟨blk, o, 0, o, cap, by simp [Ghost.addObj], rfl, k1, .inl hc0⟩
     ·rcases k2 with k2 | ⟨k2, k3⟩
      ·exact absurd k2 hc0
      ·have h0 : 0 < tot := by omega
       obtain ⟨⟨c, T, hh, hcs, hre⟩, _⟩ := hmem h0
       obtain ⟨Γ', o1, o2⟩ := inPlace (Touch.refl w blk) hh h0 k2 k3 hcs k1 ((hre.drop off).take len) (fun _ k => k)
       exact ⟨_, w, Γ', hrun, o1, o2⟩
    ·have hpos : 0 < ys.length := List.length_pos_iff.2 hy
     by_cases hfit : len + ys.length <= cap
     ·rcases k2 with k2 | ⟨k2, k3⟩
      ·omega
      ·have h0 : 0 < tot := by omega
       obtain ⟨⟨c, T, hh, hcs, hre⟩, _⟩ := hmem h0
       have hnl := fed.src.newsLen
       have hmul : (len + ys.length) * et.size <= cap * et.size := Nat.mul_le_mul_right _ hfit
       rw [Nat.add_mul] at hmul
       have hmul2 : (off + cap) * et.size <= tot * et.size := Nat.mul_le_mul_right _ k3
       rw [Nat.add_mul] at hmul2
       have hend : o + len * et.size + news.length <= c.size := by omega
       have hcell : ∀ j, j < news.length -> (w.cell? ⟨blk, o + len * ei.size + j, none⟩).isSome = true := by
        intro j hj
        rw [cell_of_heap hh, hes]
        have : o + len * et.size + j < c.size := by omega
        rw [Array.getElem?_eq_getElem this]; rfl
       have hfz : ∀ j, j < news.length -> w.frozen? ⟨blk, o + len * ei.size + j, none⟩ = false := by
        intro j _; simp [World.frozen?, hh]
       have hrun := run_append_room_src (P := P) w ts tx rt e ei hu hei blk o len cap xv ys.length news (by rw [hes]; exact fed.src) hfit hcell hfz
       rw [hes] at hrun
       obtain ⟨tw, c', hc', hcs', hget⟩ := setCells_put news hh hend
       obtain ⟨Γ', o1, o2⟩ := inPlace tw hc' h0 k2 k3 (by rw [hcs']; exact hcs) hfit (by
        refine RE.append ?_ ?_
        ·refine ((hre.drop off).take len).ext fun k v h1 h2 hv => ?_
         show c'[k]? = some v
         rw [hxl] at h2
         rw [hget, if_pos (by omega)]; exact hv
        ·rw [hxl]
         have h2 := fed.els.shift (g := fun k => c'[k]?) (d := base + off * et.size + len * et.size) (fun k v hv => by
          have hk : k < news.length := (List.getElem?_eq_some_iff.1 hv).1
          show c'[k + (base + off * et.size + len * et.size)]? = some v
          rw [hget, if_neg (by omega), if_pos (by omega)]
          have : k + (base + off * et.size + len * et.size) - (o + len * et.size) = k := by omega
          rw [this]; exact hv)
         rw [Nat.zero_add] at h2
         exact h2) (TyAt.same hh hc')
       exact ⟨_, _, Γ', hrun, o1, o2⟩
     ·-- a new array
      have hgrow : ∃ olds : List Value, olds.length = len * et.size /\ (Builtin.firstCells ei.size len (.slice (some ⟨blk, o, none⟩) len cap)).run P w.drew = .ok olds.toArray w.drew /\ RE Γ ((xs.drop off).take len) (fun k => olds[k]?) 0 et.size := by
       by_cases hl0 : len = 0
       ·subst hl0
        refine ⟨[], by simp, ?_, by simp only [List.take_zero, RE]⟩
        exact run_firstCells_some w.drew ei.size 0 _ _ _ [] (by simp) (fun j u hj => by simp at hj)
       ·rcases k2 with k2 | ⟨k2, k3⟩
        ·omega
        ·obtain ⟨⟨c, T, hh, hcs, hre⟩, _⟩ := hmem (by omega)
         obtain ⟨olds, q1, q2, q3, q4⟩ := RE.news _ _ ((hre.drop off).take len)
         rw [hxl] at q1
         refine ⟨olds, q1, ?_, q3⟩
         refine run_firstCells_some w.drew ei.size len _ _ _ olds (by rw [hes]; exact q1) (fun j u hj => ?_)
         rw [add_mk, k2, cell_of_heap (w := w.drew) hh]
         exact q2 j u hj
      obtain ⟨olds, q1, q2, q3⟩ := hgrow
      obtain ⟨c, cap', hrun, hc, hle, hre⟩ := grow_facts (xs := (xs.drop off).take len) (olds := olds) (base := some ⟨blk, o, none⟩) (sCap := cap) (rt := rt) hu hei hez hes hzs fed (by rw [hxl]; exact q1) (by rw [hxl]; exact q2) q3 (by rw [hxl]; omega) (by rw [hxl, heb]; exact hroom.1) (by rw [hxl]; exact hroom.2)
      rw [hxl] at hrun hle
      have out1 := hI.dropObj ho
      obtain ⟨Γ', o1, o2⟩ := newRow_does out1.inv (e := e) (by rw [List.length_append, hxl]) hsz hc hle hre
      exact ⟨_, _, Γ', hrun, out1.trans o1, o2⟩
   ·cases h
  ·cases h
 ·cases h
end
end Go.Abs
namespace Go.Abs
open Go.RowKit
section
variable {P : Program}
theorem cells_read {B : Nat} {w0 w : World} {Γ : Ghost} {st : St} (hI : Inv B w0 Γ st w) {x : AV} {v : Value} {ys : List AV} {sz : Nat} (h : elemsA st x = some (sz, ys)) (hstr : isStrA x = false) (hne : ys ≠ []) (hx : R Γ x v) :
  ∃ (a : Addr) (cap : Nat) (news : List Value), v = .slice (some a) ys.length cap /\ news.length = ys.length * sz /\ (∀ (j : Nat) (u : Value), news[j]? = some u -> w.cell? (a.add j) = some u) /\ RE Γ ys (fun k => news[k]?) 0 sz /\ ∀ u ∈ news, u.oneCell' = true := by
 unfold elemsA at h
 split at h
 ·cases hstr
 ·cases h; exact absurd rfl hne
 ·cases h; exact absurd rfl hne
 ·rename_i sz own xs
  cases h
  simp only [R] at hx
  obtain ⟨blk, o, cap, rfl, h1, h2, h3, h4⟩ := hx
  obtain ⟨news, k1, k2, k3, k4⟩ := RE.news ys o h4
  exact ⟨⟨blk, o, none⟩, cap, news, rfl, k1, fun j u hj => by rw [add_mk]; exact hI.inert _ _ _ (k2 j u hj), k3, k4⟩
 ·rename_i sz b off len
  split at h
  ·rename_i sz1 xs hg
   split at h
   ·rename_i hle
    cases h
    simp only [R] at hx
    obtain ⟨blk, base, tot, o, cap, ho, rfl, h2, h3⟩ := hx
    obtain ⟨e1, hsz1, hlt, hmem⟩ := hI.rows b sz1 xs blk base _ tot hg ho
    subst e1
    have hyl : ((xs.drop off).take len).length = len := by rw [List.length_take, List.length_drop]; omega
    have hlen0 : 0 < len := by
     rcases Nat.eq_zero_or_pos len with h0 | h0
     ·subst h0; exact absurd (by simp) hne
     ·exact h0
    rcases h3 with h3 | ⟨h3, h4⟩
    ·omega
    ·subst h3
     obtain ⟨⟨c, T, hh, hcs, hre⟩, _⟩ := hmem (by omega)
     obtain ⟨news, k1, k2, k3, k4⟩ := RE.news _ _ ((hre.drop off).take len)
     refine ⟨_, cap, news, by rw [hyl], k1, fun j u hj => by rw [add_mk, cell_of_heap hh]; exact k2 j u hj, k3, k4⟩
   ·cases h
  ·cases h
 ·cases h
theorem copy_sound {E : Env} (hE : ∀ t y, E.ty t = some y -> TyOk P t y) {B : Nat} {w0 w : World} {Γ : Ghost} {st st' : St} (hI : Inv B w0 Γ st w) {td tx rt : TypeId} {d x r : AV} {dv xv : Value}
  (h : copyA E st td tx d x = some (r, st')) (hd : R Γ d dv) (hx : R Γ x xv) : Does P B w0 (Builtin.copy_ #[td, tx] rt #[dv, xv]) w Γ st r st' := by
 have refl0 : Out B w0 Γ st Γ st w := ⟨Ghost.Le.refl Γ, hI, Keep.refl Γ st⟩
 unfold copyA at h
 split at h
 ·rename_i tyd tyx htd htx
  split at h
  ·rename_i e e2 sz b off len hde hdx
   split at h
   ·cases h
   ·rename_i et he
    obtain ⟨U, i', z', hu, _, _, g1, _⟩ := (hE td tyd htd).ex
    have gi := tdOf_inv g1
    rw [hde] at gi; simp only [TDIs] at gi; subst gi
    obtain ⟨ei, ez, hei, hez, hes, heb, hzs, hzo, hzr⟩ := (hE e et he).zero
    split at h
    ·rename_i sz' xs sz2 ys hg hel
     split at h
     ·rename_i hc
      obtain ⟨c1, c2, c3, c4, c5, c6, c7⟩ := hc
      subst c2; subst c3
      have hsz : (P.info? e).map (·.size) = some 1 := by rw [hei, Option.map_some, hes, c1]
      simp only [R] at hd
      obtain ⟨blk, base, tot, o, cap, ho, rfl, h2, h3⟩ := hd
      by_cases hy : ys = []
      ·subst hy
       simp only [List.length_nil, Nat.zero_min, if_true, Option.some.injEq, Prod.mk.injEq] at h
       obtain ⟨rfl, rfl⟩ := h
       -- nothing
       have hxv : ∃ a c, xv = .slice a 0 c := by
        unfold elemsA at hel
        split at hel
        ·cases c7
        ·simp only [R] at hx; exact ⟨_, _, hx⟩
        ·simp only [R] at hx; obtain ⟨a, c, rfl⟩ := hx; exact ⟨_, _, rfl⟩
        ·cases hel
         simp only [R] at hx
         obtain ⟨b1, o1, cp, rfl, _⟩ := hx
         exact ⟨_, _, rfl⟩
        ·rename_i s1 b1 of1 l1
         split at hel
         ·rename_i z1 x1 g1
          split at hel
          ·rename_i hle
           simp only [Option.some.injEq, Prod.mk.injEq] at hel
           have hl0 : l1 = 0 := by
            have := congrArg List.length hel.2
            rw [List.length_take, List.length_drop] at this
            simp at this; omega
           subst hl0
           simp only [R] at hx
           obtain ⟨k1, k2, k3, k4, k5, k6, rfl, _⟩ := hx
           exact ⟨_, _, rfl⟩
          ·cases hel
         ·cases hel
        ·cases hel
       obtain ⟨a, cp, rfl⟩ := hxv
       refine ⟨_, w, Γ, run_copy_none w td tx rt e _ a len cap 0 cp hu hsz (by simp), refl0, ?_⟩
       simp only [R]; rfl
      ·obtain ⟨a, cp, news, rfl, k1, k2, k3, k4⟩ := cells_read hI hel c7 hy hx
       have hs2 : sz2 = 1 := by
        cases ys with
        | nil => exact absurd rfl hy
        | cons y ys => simpa using c6
       subst hs2
       rw [Nat.mul_one] at k1
       split at h
       ·rename_i hm
        simp only [Option.some.injEq, Prod.mk.injEq] at h
        obtain ⟨rfl, rfl⟩ := h
        refine ⟨_, w, Γ, run_copy_none w td tx rt e _ _ len cap _ cp hu hsz hm, refl0, ?_⟩
        simp only [R]; rfl
       ·rename_i hm
        simp only [Option.some.injEq, Prod.mk.injEq] at h
        obtain ⟨rfl, rfl⟩ := h
        generalize hn : min ys.length len = n at *
        have hnl : n <= len := by omega
        have hny : n <= ys.length := by omega
        have hcl : (news.take n).length = n := by rw [List.length_take]; omega
        rcases h3 with h3 | ⟨h3, h4⟩
        ·omega
        ·obtain ⟨e1, hsz1, hlt, hmem⟩ := hI.rows b 1 xs blk base _ tot hg ho
         obtain ⟨⟨c, T, hh, hcs, hre⟩, hno⟩ := hmem (by omega)
         rw [Nat.mul_one] at h3
         subst h3
         have hfit : base + off + (news.take n).length <= c.size := by rw [hcl]; omega
         have hrun := run_copy_cells (P := P) w td tx rt e blk (base + off) len cap a ys.length cp (news.take n) hu hsz (by rw [hcl]; exact hn.symm)
          (fun j u hj => k2 j u (by
           rw [List.getElem?_take] at hj
           split at hj
           ·exact hj
           ·cases hj))
          (fun j hj => by rw [cell_of_heap hh, Array.getElem?_eq_getElem (by omega)]; rfl)
          (fun j _ => by simp [World.frozen?, hh])
          (fun u hu => k4 u (List.mem_of_mem_take hu))
         obtain ⟨tw, c', hc', hcs', hget⟩ := setCells_put (news.take n) hh hfit
         rw [hcl] at hrun hget
         refine ⟨_, _, Γ, hrun, hI.rowPut hg ho (by omega) tw hc' (by rw [hcs']; exact hcs) ?_ (RE.mk fun i y hi => ?_) (TyAt.same hh hc'), by simp only [R]; rfl⟩
         ·simp only [List.length_append, List.length_take, List.length_drop]; omega
         ·have htl : (xs.take off).length = off := by rw [List.length_take]; omega
          have hyl : (ys.take n).length = n := by rw [List.length_take]; omega
          have one : ∀ {ev : Value}, ev.cells.size = 1 -> ∀ {k : Nat} {u : Value}, ev.cells.toList[k]? = some u -> k = 0 := by
           intro ev h1 k u hk
           have := (List.getElem?_eq_some_iff.1 hk).1
           rw [Array.length_toList] at this; omega
          rw [List.getElem?_append, List.length_append, htl, hyl] at hi
          split at hi
          ·rename_i hi1
           rw [List.getElem?_append, htl] at hi
           split at hi
           ·rename_i hi2
            rw [List.getElem?_take_of_lt hi2] at hi
            obtain ⟨ev, p1, p2, p3, p4⟩ := hre.get i y hi
            refine ⟨ev, p1, p2, p3, fun k u hk => ?_⟩
            have hk0 := one p3 hk
            subst hk0
            show c'[base + i * 1 + 0]? = some u
            rw [hget, if_pos (by omega)]
            exact p4 0 u hk
           ·rename_i hi2
            rw [List.getElem?_take_of_lt (by omega)] at hi
            obtain ⟨ev, p1, p2, p3, p4⟩ := k3.get _ y hi
            refine ⟨ev, p1, p2, p3, fun k u hk => ?_⟩
            have hk0 := one p3 hk
            subst hk0
            show c'[base + i * 1 + 0]? = some u
            rw [hget, if_neg (by omega), if_pos (by omega), List.getElem?_take_of_lt (by omega)]
            have := p4 0 u hk
            have e1 : base + i * 1 + 0 - (base + off) = 0 + (i - off) * 1 + 0 := by omega
            rw [e1]; exact this
          ·rename_i hi1
           rw [List.getElem?_drop] at hi
           have e0 : off + n + (i - (off + n)) = i := by omega
           rw [e0] at hi
           obtain ⟨ev, p1, p2, p3, p4⟩ := hre.get i y hi
           refine ⟨ev, p1, p2, p3, fun k u hk => ?_⟩
           have hk0 := one p3 hk
           subst hk0
           show c'[base + i * 1 + 0]? = some u
           rw [hget, if_neg (by omega), if_neg (by omega)]
           exact p4 0 u hk
     ·cases h
    ·cases h
  ·cases h
 ·cases h
end
end Go.Abs
