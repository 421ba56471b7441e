/- Own text of this claim: part 4 of an interpreter that is proved sound against the model, and of what it shows of the law. -/
import Derived.Tactics
import Derived.Orders
import Derived.Test.YthomnnnhkfjbdaaGreatAbs3
namespace Go.Abs
open Go.RowKit
section
variable {P : Program}
theorem freezeC_sound {B : Nat} {w0 w : World} {Γ : Ghost} {st st' : St} (hI : Inv B w0 Γ st w) {x r : AV} {v : Value} (h : freezeC st x = some (r, st')) (hx : R Γ x v) :
  ∃ Γ', Out B w0 Γ st Γ' st' w /\ R Γ' r v := by
 unfold freezeC at h
 split at h
 ·rename_i sz b off len
  split at h
  ·rename_i sz' xs hg
   split at h
   ·rename_i hc
    obtain ⟨rfl, hle⟩ := hc
    simp only [R] at hx
    obtain ⟨blk, base, tot, o, cap, ho, rfl, k1, k2⟩ := hx
    obtain ⟨_, hsz, hlt, hmem⟩ := hI.rows b _ xs blk base _ tot hg ho
    have hxl : ((xs.drop off).take len).length = len := by rw [List.length_take, List.length_drop]; omega
    have key : ∀ own, (own = .any \/ (off + len = xs.length /\ own = .tok st.next)) -> r = .vs sz' own ((xs.drop off).take len) -> st' = (st.drop b).newTok -> ∃ Γ', Out B w0 Γ st Γ' st' w /\ R Γ' r (.slice (some ⟨blk, o, none⟩) len cap) := by
     intro own hown hr hst
     subst hr; subst hst
     by_cases h0 : 0 < tot
     ·obtain ⟨⟨c, T, hh, hcs, hre⟩, _⟩ := hmem h0
      have out := hI.freezeTok hg ho h0 hh
      refine ⟨_, out, ?_⟩
      simp only [R]
      refine ⟨blk, o, cap, by rw [hxl], by rw [hxl]; exact k1, hsz, ?_, ?_⟩
      ·rcases hown with rfl | ⟨hend, rfl⟩
       ·trivial
       ·rw [hxl]
        rcases k2 with k2 | ⟨k2, k3⟩
        ·exact .inl (by omega)
        ·refine .inr ⟨base + xs.length * sz', base + tot * sz', by simp [Ghost.addTk], ?_, ?_⟩
         ·rw [k2, <- hend, Nat.add_mul, Nat.add_assoc]
         ·have hmul : (off + cap) * sz' <= tot * sz' := Nat.mul_le_mul_right _ k3
          rw [Nat.add_mul] at hmul
          omega
      ·by_cases hl0 : len = 0
       ·subst hl0; simp only [List.take_zero, RE]
       ·rcases k2 with k2 | ⟨k2, k3⟩
        ·omega
        ·subst k2
         refine (RE.mono out.le _ _ _ _ _ (fun _ _ k => k) ((hre.drop off).take len)).ext fun k v h1 h2 hv => ?_
         rw [hxl] at h2
         have hmul : (off + len) * sz' <= xs.length * sz' := Nat.mul_le_mul_right _ hle
         rw [Nat.add_mul] at hmul
         simp only [Ghost.addTk, Ghost.addInert, if_pos]
         rw [if_pos (by omega)]; exact hv
     ·have hx0 : xs = [] := List.eq_nil_of_length_eq_zero (by omega)
      have out1 := hI.dropObj ho
      refine ⟨Γ, out1.trans out1.inv.tokFree, ?_⟩
      have hl0 : len = 0 := by rw [hx0] at hle; simp at hle; omega
      subst hl0
      have hc0 : cap = 0 := by
       rcases k2 with k2 | ⟨_, k3⟩
       ·exact k2
       ·omega
      simp only [R, List.take_zero, List.length_nil]
      refine ⟨blk, o, cap, rfl, Nat.zero_le _, hsz, ?_, by simp only [RE]⟩
      rcases hown with rfl | ⟨_, rfl⟩
      ·trivial
      ·exact .inl hc0
    split at h
    ·rename_i hend
     cases h
     exact key _ (.inr ⟨hend, rfl⟩) rfl rfl
    ·cases h
     exact key _ (.inl rfl) rfl rfl
   ·cases h
  ·cases h
 ·cases h
  exact ⟨Γ, ⟨Ghost.Le.refl Γ, hI, Keep.refl Γ st⟩, hx⟩
theorem freezeL_sound {B : Nat} {w0 w : World} : ∀ (xs : List AV) {Γ : Ghost} {st st' : St} {rs : List AV} {vs : List Value}, Inv B w0 Γ st w -> freezeL st xs = some (rs, st') -> RL Γ xs vs ->
  ∃ Γ', Out B w0 Γ st Γ' st' w /\ RL Γ' rs vs
 | [], Γ, st, st', rs, vs, hI, h, hx => by
  simp only [freezeL, Option.some.injEq, Prod.mk.injEq] at h
  obtain ⟨rfl, rfl⟩ := h
  exact ⟨Γ, ⟨Ghost.Le.refl Γ, hI, Keep.refl Γ st⟩, hx⟩
 | x :: xs, Γ, st, st', rs, vs, hI, h, hx => by
  simp only [freezeL] at h
  obtain ⟨v, vr, rfl, h1, h2⟩ := hx.of_cons
  split at h
  ·cases h
  ·rename_i y st1 hy
   split at h
   ·cases h
   ·rename_i ys st2 hys
    cases h
    obtain ⟨Γ1, o1, r1⟩ := freezeC_sound hI hy h1
    obtain ⟨Γ2, o2, r2⟩ := freezeL_sound xs o1.inv hys (RL.mono o1.le xs _ h2)
    exact ⟨Γ2, o1.trans o2, RL.cons (r1.mono o2.le) r2⟩
theorem freezeB_sound {B : Nat} {w0 w : World} {Γ : Ghost} {st st' : St} (hI : Inv B w0 Γ st w) {x r : AV} {v : Value} (h : freezeB st x = some (r, st')) (hx : R Γ x v) :
  ∃ Γ', Out B w0 Γ st Γ' st' w /\ R Γ' r v := by
 unfold freezeB at h
 split at h
 ·simp only [Option.map_eq_some_iff, Prod.exists] at h
  obtain ⟨ys, st1, h1, e⟩ := h
  cases e
  simp only [R] at hx
  obtain ⟨vs, rfl, h2⟩ := hx
  obtain ⟨Γ', o1, r1⟩ := freezeL_sound _ hI h1 h2
  exact ⟨Γ', o1, by simp only [R]; exact ⟨vs, rfl, r1⟩⟩
 ·exact freezeC_sound hI h hx
theorem freezeM_sound {B : Nat} {w0 w : World} : ∀ (xs : List AV) {Γ : Ghost} {st st' : St} {rs : List AV} {vs : List Value}, Inv B w0 Γ st w -> freezeM st xs = some (rs, st') -> RL Γ xs vs ->
  ∃ Γ', Out B w0 Γ st Γ' st' w /\ RL Γ' rs vs
 | [], Γ, st, st', rs, vs, hI, h, hx => by
  simp only [freezeM, Option.some.injEq, Prod.mk.injEq] at h
  obtain ⟨rfl, rfl⟩ := h
  exact ⟨Γ, ⟨Ghost.Le.refl Γ, hI, Keep.refl Γ st⟩, hx⟩
 | x :: xs, Γ, st, st', rs, vs, hI, h, hx => by
  simp only [freezeM] at h
  obtain ⟨v, vr, rfl, h1, h2⟩ := hx.of_cons
  split at h
  ·cases h
  ·rename_i y st1 hy
   split at h
   ·cases h
   ·rename_i ys st2 hys
    cases h
    obtain ⟨Γ1, o1, r1⟩ := freezeB_sound hI hy h1
    obtain ⟨Γ2, o2, r2⟩ := freezeM_sound xs o1.inv hys (RL.mono o1.le xs _ h2)
    exact ⟨Γ2, o1.trans o2, RL.cons (r1.mono o2.le) r2⟩
theorem freeze_sound {B : Nat} {w0 w : World} {Γ : Ghost} {st st' : St} (hI : Inv B w0 Γ st w) {x r : AV} {v : Value} (h : freezeA st x = some (r, st')) (hx : R Γ x v) :
  ∃ Γ', Out B w0 Γ st Γ' st' w /\ R Γ' r v := by
 unfold freezeA at h
 split at h
 ·simp only [Option.map_eq_some_iff, Prod.exists] at h
  obtain ⟨ys, st1, h1, e⟩ := h
  cases e
  simp only [R] at hx
  obtain ⟨vs, rfl, h2⟩ := hx
  obtain ⟨Γ', o1, r1⟩ := freezeM_sound _ hI h1 h2
  exact ⟨Γ', o1, by simp only [R]; exact ⟨vs, rfl, r1⟩⟩
 ·simp only [Option.map_eq_some_iff, Prod.exists] at h
  obtain ⟨ys, st1, h1, e⟩ := h
  cases e
  simp only [R] at hx
  obtain ⟨vs, rfl, h2⟩ := hx
  obtain ⟨Γ', o1, r1⟩ := freezeL_sound _ hI h1 h2
  exact ⟨Γ', o1, by simp only [R]; exact ⟨vs, rfl, r1⟩⟩
 ·exact freezeC_sound hI h hx
def CallsOk (P : Program) (B : Nat) (w0 : World) (call : Call1) : Prop :=
 ∀ f args st r st', call f args st = some (r, st') -> (∀ (w : World) (vargs : Array Value), (callFunc f vargs).run P w = .ok (.enter f vargs) w) /\
  ∀ Γ w (vargs : Array Value), Inv B w0 Γ st w -> RL Γ args vargs.toList ->
   Calls P f vargs w fun e w' => ∃ v Γ', e = .returned v /\ Out B w0 Γ st Γ' st' w' /\ R Γ' r v
set_option maxHeartbeats 1000000 in
theorem step_sound {E : Env} (hE : EnvOk P E) {B : Nat} {w0 w : World} {call : Call1} (hcall : CallsOk P B w0 call) {Γ : Ghost} {st st' : St} (hI : Inv B w0 Γ st w) {tm : TM} {a : Act} (hF : RT Γ tm a.tmps)
  {pol : Nat} {o : Oper} {r : AV} (h : stepOp E call pol tm st o = some (r, st')) {K : Act -> World -> Prop} {Q : Exit -> Act -> World -> Prop}
  (hK : ∀ u w' Γ', Out B w0 Γ st Γ' st' w' -> R Γ' r u -> K (a.put o.dst u) w') : o.wp P a w K Q := by
 unfold stepOp at h
 split at h
 ·rename_i hloud
  clear hloud
  split at h
  ·rename_i v st1 hl
   -- all but a call: no freezing
   have plain : isFnCall o.op = false -> v = r /\ st1 = st' := by
    intro hf
    rw [hf] at h
    simp at h
    exact h
   have value : ∀ {s : Sem Value}, isFnCall o.op = false -> Does P B w0 s w Γ st v st1 -> (execOp a.eval o = do pure (Next.value (<- s))) -> o.wp P a w K Q := by
    intro s hf hs he
    obtain ⟨e1, e2⟩ := plain hf
    subst e1; subst e2
    obtain ⟨u, w', Γ', k1, k2, k3⟩ := hs
    unfold Oper.wp
    rw [he]
    simp only [Sem.run_bind, k1, Result.andThen_ok, Sem.run_pure]
    exact hK u w' Γ' k2 k3
   have unit : ∀ {s : Sem Unit}, isFnCall o.op = false -> (∃ w' Γ', s.run P w = .ok () w' /\ Out B w0 Γ st Γ' st1 w') -> v = .junk -> (execOp a.eval o = do s; pure Next.skip) -> o.wp P a w K Q := by
    intro s hf hs hv he
    obtain ⟨e1, e2⟩ := plain hf
    subst e1; subst e2
    obtain ⟨w', Γ', k1, k2⟩ := hs
    unfold Oper.wp
    rw [he]
    simp only [Sem.run_bind, k1, Result.andThen_ok, Sem.run_pure]
    exact hK undef w' Γ' k2 (by rw [hv]; simp only [R])
   obtain ⟨dst, op, ty, pos, after, guard⟩ := o
   cases op <;> simp only [loud] at hl <;> (try (cases hl; done))
   case alloc t => exact value rfl (alloc_sound hE.ty hI hl) rfl
   case box t x => exact value rfl (box_sound hI hl (hF.eval x)) rfl
   case store t ad x =>
    split at hl
    ·rename_i ty' ht
     split at hl
     ·rename_i hlen
      simp only [Option.map_eq_some_iff] at hl
      obtain ⟨s1, hs, e⟩ := hl
      cases e
      exact unit rfl (store_sound hE.ty hI ht hlen hs (hF.eval ad) (hF.eval x)) rfl rfl
     ·cases hl
    ·cases hl
   case makeMap t k =>
    cases k with
    | none =>
     dsimp only at hl
     split at hl
     ·rename_i ty' ht
      split at hl
      ·rename_i kt et hd
       cases hl
       obtain ⟨U, _, _, hu, _, _, g1, _⟩ := (hE.ty t ty' ht).ex
       have gi := tdOf_inv g1
       rw [hd] at gi; simp only [TDIs] at gi; subst gi
       exact value rfl (makeMap_sound (k := none) hI hu) rfl
      ·cases hl
     ·cases hl
    | some x =>
     dsimp only at hl
     split at hl
     ·rename_i ty' k n ht he
      split at hl
      ·rename_i kt et hd
       cases hl
       obtain ⟨U, _, _, hu, _, _, g1, _⟩ := (hE.ty t ty' ht).ex
       have gi := tdOf_inv g1
       rw [hd] at gi; simp only [TDIs] at gi; subst gi
       have hx := hF.eval x
       rw [he] at hx; simp only [R] at hx
       exact value rfl (makeMap_sound (k := some (k, n)) hI hu) (by simp only [execOp, Option.map_some, hx])
      ·cases hl
     ·cases hl
   case makeSlice t l c => exact value rfl (makeSlice_sound hE.ty hI hl (hF.eval l) (hF.eval c)) rfl
   case mapUpdate t m k x =>
    obtain ⟨w', Γ', k1, k2, k3⟩ := mapPut_sound hE.ty hI hl (hF.eval m) (hF.eval k) (hF.eval x)
    exact unit rfl ⟨w', Γ', k1, k2⟩ k3 rfl
   case insert t m k x =>
    obtain ⟨w', Γ', k1, k2, k3⟩ := mapPut_sound hE.ty hI hl (hF.eval m) (hF.eval k) (hF.eval x)
    exact unit rfl ⟨w', Γ', k1, k2⟩ k3 rfl
   case mapEntry t m k => exact value rfl (mapEntry_sound hE.ty hI hl (hF.eval m) (hF.eval k)) rfl
   case entryStore t m s x =>
    obtain ⟨w', Γ', k1, k2, k3⟩ := entryStore_sound (t := t) hI hl (hF.eval m) (hF.eval s) (hF.eval x)
    exact unit rfl ⟨w', Γ', k1, k2⟩ k3 rfl
   case call c =>
    obtain ⟨callee, args, argTypes⟩ := c
    cases callee with
    | invoke rv m => cases hl
    | builtin b =>
     cases b <;> (try (cases hl; done)) <;> dsimp only at hl
     ·split at hl
      ·rename_i s x ts tx hargs htys
       have ha : args = #[s, x] := by rw [<- Array.toArray_toList (xs := args), hargs]
       have hb : argTypes = #[ts, tx] := by rw [<- Array.toArray_toList (xs := argTypes), htys]
       subst ha; subst hb
       refine value (s := Builtin.append_ #[ts, tx] ty #[a.eval s, a.eval x]) rfl ?_ (by simp [execOp, resolve, invoke, builtin])
       unfold appendOpA at hl
       split at hl
       ·rename_i tys tyx hts htx
        split at hl
        ·rename_i e hd
         split at hl
         ·cases hl
         ·rename_i et he
          split at hl
          ·rename_i hsz
           split at hl
           ·-- zeros
            rename_i kn hdx
            split at hl
            ·rename_i n hs0 hx0
             split at hl
             ·rename_i hc
              obtain ⟨hn, hroom⟩ := hc
              cases hl
              simp only [roomA, Bool.and_eq_true, decide_eq_true_eq] at hroom
              obtain ⟨U, _, _, hu, _, _, g1, _⟩ := (hE.ty ts tys hts).ex
              have gi := tdOf_inv g1
              rw [hd] at gi; simp only [TDIs] at gi; subst gi
              obtain ⟨U2, _, _, hu2, _, _, g2, _⟩ := (hE.ty tx tyx htx).ex
              have gi2 := tdOf_inv g2
              rw [hdx] at gi2; simp only [TDIs] at gi2; subst gi2
              obtain ⟨ei, ez, hei, hez, hes, heb, hzs, hzo, hzr⟩ := (hE.ty e et he).zero
              have hs := hF.eval s
              have hx := hF.eval x
              rw [hs0] at hs; rw [hx0] at hx
              simp only [R] at hs hx
              have hnn : (n.toNat : Int) = n := Int.toNat_of_nonneg (by omega)
              have hrun := Lib.run_append_nil_zeros (P := P) w ts tx ty e ei ez .i64 kn hu hu2 hei hez n.toNat (by omega) (by omega) (by omega) (by rw [heb]; omega)
              rw [hnn] at hrun
              rw [hs, hx]
              have hcap := grownCap_ge w n.toNat 0 e
              obtain ⟨Γ', o1, o2⟩ := newRow_does hI (e := e) (c := Builtin.zeroCells ez.cells n.toNat ++ Builtin.zeroCells ez.cells (grownCap w n.toNat 0 e - n.toNat)) (cap := grownCap w n.toNat 0 e) (n := n.toNat) (xs := List.replicate n.toNat et.zeroV) (size := et.size) (by simp) hsz
               (by rw [Array.size_append, size_zeroCells, size_zeroCells, hzs, <- Nat.add_mul]; congr 1; omega) hcap
               (zeros_RE (hzr Γ) hzo hzs hsz (m := n.toNat) (Nat.le_refl _) (fun k hk => by
                rw [Array.getElem?_append_left (by rw [size_zeroCells, hzs]; exact hk), zeroCells_get (by rw [hzs]; exact hk) (by omega), hzs]))
              exact ⟨_, _, Γ', hrun, o1, o2⟩
             ·cases hl
            ·cases hl
           ·rename_i e2 hdx
            split at hl
            ·rename_i sz' ys hel
             split at hl
             ·rename_i hc
              obtain ⟨c1, c2, c3⟩ := hc
              obtain ⟨news, fed⟩ := elems_sound hE.ty hI htx (.inl ⟨e2, hdx⟩) (by simpa using c3) hsz hel c1 c2 (hF.eval x)
              exact append_sound hE.ty hI hts hd he hsz fed hl (hF.eval s)
             ·cases hl
            ·cases hl
           ·rename_i hdx
            split at hl
            ·rename_i sz' ys hel
             split at hl
             ·rename_i hc
              obtain ⟨c1, c2, c3⟩ := hc
              obtain ⟨news, fed⟩ := elems_sound hE.ty hI htx (.inr hdx) (by simpa using c3) hsz hel c1 c2 (hF.eval x)
              exact append_sound hE.ty hI hts hd he hsz fed hl (hF.eval s)
             ·cases hl
            ·cases hl
           ·cases hl
          ·cases hl
        ·cases hl
       ·cases hl
      ·cases hl
     ·split at hl
      ·rename_i s x ts tx hargs htys
       have ha : args = #[s, x] := by rw [<- Array.toArray_toList (xs := args), hargs]
       have hb : argTypes = #[ts, tx] := by rw [<- Array.toArray_toList (xs := argTypes), htys]
       subst ha; subst hb
       refine value (s := Builtin.copy_ #[ts, tx] ty #[a.eval s, a.eval x]) rfl ?_ (by simp [execOp, resolve, invoke, builtin])
       exact copy_sound hE.ty hI hl (hF.eval s) (hF.eval x)
      ·cases hl
    | value f =>
     dsimp only at hl
     split at hl
     ·rename_i g first cap he
      obtain ⟨hent, hcl⟩ := hcall _ _ _ _ _ hl
      have hf := hF.eval f
      rw [he] at hf; simp only [R] at hf
      obtain ⟨vf, vc, hv, hr1, hr2⟩ := hf
      have hargs : RL Γ (first ++ args.toList.map (evalO tm) ++ cap) ((vf ++ args.map a.eval) ++ vc).toList := by
       rw [Array.toList_append, Array.toList_append, Array.toList_map]
       exact (hr1.append (hF.evals args.toList)).append hr2
      unfold Oper.wp
      simp only [execOp, resolve, Sem.run_bind, hv, Deferred.ofValue, Sem.run_pure, Result.andThen_ok, invoke, hent]
      show Calls P g _ w _
      refine (hcl Γ w _ hI hargs).mono ?_
      rintro e w' ⟨u, Γ', rfl, o1, r1⟩
      by_cases hp : pol = 2
      ·subst hp
       simp only [isFnCall, decide_true, Bool.and_self, if_true] at h
       obtain ⟨Γ2, o2, r2⟩ := freeze_sound o1.inv h r1
       exact hK u w' Γ2 (o1.trans o2) r2
      ·have e1 : v = r /\ st1 = st' := by
        simp only [hp, decide_false, Bool.false_and, Bool.false_eq_true, if_false, Option.some.injEq, Prod.mk.injEq] at h
        exact h
       obtain ⟨rfl, rfl⟩ := e1
       exact hK u w' Γ' o1 r1
     ·cases hl
  ·cases h
 ·simp only [Option.map_eq_some_iff] at h
  obtain ⟨v, hq, e⟩ := h
  cases e
  obtain ⟨u, w', Γ', k1, k2, k3⟩ := quiet_sound hE hI hF hq
  unfold Oper.wp
  rw [k1]
  exact hK u w' Γ' k2 k3
end
end Go.Abs
namespace Go.Abs
open Go.RowKit
section
variable {P : Program}
theorem wanted_sound {Γ : Ghost} {ops : Array Oper} {tm : TM} {a : Act} {o : Oper} {b : Bool} (hF : RT Γ tm a.tmps) (h : wantedA ops tm o = some b) :
  Region.wanted o (yielded ops a.tmps) = b := by
 unfold wantedA at h
 unfold Region.wanted
 split at h
 ·rename_i hg; cases h; rw [hg]
 ·rename_i j want hg
  rw [hg]
  simp only [yielded]
  split at h
  ·rename_i hd; cases h; rw [hd]; simp
  ·rename_i d hd
   rw [hd]
   simp only [Option.bind_some]
   have hg := hF.get d
   rw [Array.getD_eq_getD_getElem?] at hg
   split at h
   ·rename_i b' ht
    cases h
    rw [ht] at hg; simp only [R] at hg
    cases hv : a.tmps[d]? with
    | none => rw [hv] at hg; cases hg
    | some v =>
     rw [hv] at hg
     simp only [Option.getD_some] at hg
     subst hg
     simp
   ·cases h
   ·rename_i y hb hj
    cases h
    cases hv : a.tmps[d]? with
    | none => simp
    | some v =>
     rw [hv] at hg
     simp only [Option.getD_some] at hg
     have htag := hg.tag (fun e => hj e)
     cases v <;> first | (simp; done) | skip
     generalize tm.get d = z at *
     cases z <;> simp [tagA, tagV] at htag
     exact absurd rfl (hb _)
theorem undef_R (Γ : Ghost) : R Γ (.tup []) undef := by
 simp only [R]; exact ⟨#[], rfl, RL.nil Γ⟩
theorem runOps_sound {E : Env} (hE : EnvOk P E) {B : Nat} {w0 : World} {call : Call1} (hcall : CallsOk P B w0 call) {pol : Nat -> Nat} {ops : Array Oper} {Q : Exit -> Act -> World -> Prop} :
  ∀ (l : List Oper) (i : Nat) {Γ : Ghost} {st st' : St} {w : World} {tm tm' : TM} {a : Act}, Inv B w0 Γ st w -> RT Γ tm a.tmps -> runOps E call none pol ops l i tm st = some (tm', st') ->
   (∀ Γ' a' w', Out B w0 Γ st Γ' st' w' -> RT Γ' tm' a'.tmps -> a'.defers = a.defers -> Q .normal a' w') -> wpList P ops Q l a w
 | [], i, Γ, st, st', w, tm, tm', a, hI, hF, h, hQ => by
  simp only [runOps, Option.some.injEq, Prod.mk.injEq] at h
  obtain ⟨rfl, rfl⟩ := h
  exact hQ Γ a w ⟨Ghost.Le.refl Γ, hI, Keep.refl Γ st⟩ hF rfl
 | o :: l, i, Γ, st, st', w, tm, tm', a, hI, hF, h, hQ => by
  simp only [runOps] at h
  split at h
  ·rename_i hw
   split at h
   ·rename_i v st1 hs
    unfold wpList
    rw [wanted_sound hF hw, if_pos rfl]
    refine .inl (step_sound hE hcall hI hF hs fun u w1 Γ1 o1 r1 => ?_)
    exact runOps_sound hE hcall l (i + 1) o1.inv ((RT.mono o1.le hF).put o.dst r1) h fun Γ2 a2 w2 o2 f2 d2 => hQ Γ2 a2 w2 (o1.trans o2) f2 (by rw [d2, put_defers])
   ·cases h
  ·rename_i hw
   unfold wpList
   rw [wanted_sound hF hw]
   simp only [Bool.false_eq_true, if_false]
   exact runOps_sound hE hcall l (i + 1) hI (hF.put o.dst (undef_R Γ)) h fun Γ2 a2 w2 o2 f2 d2 => hQ Γ2 a2 w2 o2 f2 (by rw [d2, put_defers])
  ·cases h
end
end Go.Abs
namespace Go.Abs
open Go.RowKit
theorem evalO_congr {tm tm' : TM} {x : Operand} (h : ∀ t, x = .tmp t -> tm.get t = tm'.get t) : evalO tm x = evalO tm' x := by
 cases x with
 | tmp t => exact h t rfl
 | _ => rfl
theorem pairs_congr {f g : Operand -> AV} {ps : Array (Nat × Operand)} (h : ∀ x ∈ (ps.toList.map (·.2)).toArray, f x = g x) :
  (ps.toList.map fun (p : Nat × Operand) => (p.1, f p.2)) = ps.toList.map fun (p : Nat × Operand) => (p.1, g p.2) :=
 List.map_congr_left fun p hp => by rw [h p.2 (by simpa using ⟨p.1, by simpa using hp⟩)]
theorem args_congr {f g : Operand -> AV} {l : Array Operand} (h : ∀ x ∈ l, f x = g x) : l.toList.map f = l.toList.map g :=
 List.map_congr_left fun x hx => h x (by simpa using hx)
theorem quiet_congr {E : Env} {tm tm' : TM} {st : St} {o : Oper} (h : ∀ x ∈ o.op.operands, evalO tm x = evalO tm' x) : quiet E tm st o = quiet E tm' st o := by
 obtain ⟨dst, op, ty, pos, after, guard⟩ := o
 dsimp only at h
 cases op <;> simp only [Op.operands] at h <;> simp only [quiet]
 case build t ps => rw [pairs_congr h]
 case buildSlice t n ps => rw [pairs_congr h]
 case makeFunc fn first captured =>
  cases fn with
  | func f => dsimp only; rw [args_congr (l := first) fun x hx => h x (by simp [hx]), args_congr (l := captured) fun x hx => h x (by simp [hx])]
  | _ => rfl
 case slice t x lo hi mx => cases lo <;> cases hi <;> cases mx <;> simp_all
 case call c =>
  obtain ⟨callee, args, tys⟩ := c
  cases callee with
  | value f => rfl
  | invoke r m => rfl
  | builtin b =>
   have ha : args.toList.map (evalO tm) = args.toList.map (evalO tm') := args_congr fun x hx => h x (by simp [Call.operands, hx])
   have hb : ∀ x, args.toList = [x] -> evalO tm x = evalO tm' x := fun x hx => h x (by
    have : x ∈ args.toList := by rw [hx]; simp
    simpa [Call.operands] using this)
   cases b <;> dsimp only <;> (try rfl) <;> (try rw [ha])
   all_goals (split <;> first | rfl | (rename_i hx _; rw [hb _ hx]))
 all_goals (first | rfl | (simp_all; done))
theorem loud_congr {E : Env} {call : Call1} {pol : Nat} {tm tm' : TM} {st : St} {o : Oper} (h : ∀ x ∈ o.op.operands, evalO tm x = evalO tm' x) : loud E call pol tm st o = loud E call pol tm' st o := by
 obtain ⟨dst, op, ty, pos, after, guard⟩ := o
 dsimp only at h
 cases op <;> simp only [Op.operands] at h <;> simp only [loud]
 case makeMap t x => cases x <;> simp_all
 case call c =>
  obtain ⟨callee, args, tys⟩ := c
  have ha : args.toList.map (evalO tm) = args.toList.map (evalO tm') := args_congr fun x hx => h x (by simp [Call.operands, hx])
  cases callee with
  | value f =>
   have hf := h f (by simp [Call.operands])
   simp only [hf, ha]
  | invoke r m => rfl
  | builtin b =>
   cases b <;> dsimp only <;> (try rfl)
   all_goals
    split
    ·rename_i s x ts tx hx _
     have h1 := h s (by
      have : s ∈ args.toList := by rw [hx]; simp
      simpa [Call.operands] using this)
     have h2 := h x (by
      have : x ∈ args.toList := by rw [hx]; simp
      simpa [Call.operands] using this)
     rw [h1, h2]
    ·rfl
 all_goals (first | rfl | (simp_all; done))
theorem stepOp_congr {E : Env} {call : Call1} {pol : Nat} {tm tm' : TM} {st : St} {o : Oper} (h : ∀ x ∈ o.op.operands, evalO tm x = evalO tm' x) : stepOp E call pol tm st o = stepOp E call pol tm' st o := by
 unfold stepOp
 rw [quiet_congr h, loud_congr h]
theorem wantedA_congr {ops : Array Oper} {tm tm' : TM} {o : Oper} (h : ∀ g w t, o.guard = some (g, w) -> (ops[g]?).bind (·.dst) = some t -> tm.get t = tm'.get t) : wantedA ops tm o = wantedA ops tm' o := by
 unfold wantedA
 split
 ·rfl
 ·rename_i j want hg
  split
  ·rfl
  ·rename_i d hd
   rw [h j want d hg hd]
theorem quiet_any {E : Env} {tm : TM} {st st' : St} {o : Oper} (h : readsSt o.op = false) : quiet E tm st o = quiet E tm st' o := by
 obtain ⟨dst, op, ty, pos, after, guard⟩ := o
 dsimp only at h
 cases op <;> (try (simp [readsSt] at h; done)) <;> (try rfl)
 case makeFunc fn first cap => cases fn <;> rfl
 case call c =>
  obtain ⟨callee, args, tys⟩ := c
  cases callee with
  | value f => rfl
  | invoke r m => rfl
  | builtin b => cases b <;> first | rfl | (simp [readsSt] at h; done)
theorem looks_of_mem {ops : Array Oper} {o : Oper} {t : Tmp} (h : Operand.tmp t ∈ o.op.operands) : t ∈ o.looksAt ops :=
 List.mem_append_left _ (List.mem_filterMap.2 ⟨.tmp t, by simpa using h, rfl⟩)
theorem step_looks {E : Env} {call : Call1} {ops : Array Oper} {pol : Nat} {tm tm' : TM} {st : St} {o : Oper} (h : ∀ t ∈ o.looksAt ops, tm.get t = tm'.get t) : stepOp E call pol tm st o = stepOp E call pol tm' st o :=
 stepOp_congr fun _ hx => evalO_congr fun t e => h t (looks_of_mem (e ▸ hx))
theorem quiet_looks {E : Env} {ops : Array Oper} {tm tm' : TM} {st : St} {o : Oper} (h : ∀ t ∈ o.looksAt ops, tm.get t = tm'.get t) : quiet E tm st o = quiet E tm' st o :=
 quiet_congr fun _ hx => evalO_congr fun t e => h t (looks_of_mem (e ▸ hx))
theorem wanted_looks {ops : Array Oper} {tm tm' : TM} {o : Oper} (h : ∀ t ∈ o.looksAt ops, tm.get t = tm'.get t) : wantedA ops tm o = wantedA ops tm' o :=
 wantedA_congr fun g w t hg hd => h t (by simp [Oper.looksAt, hg, hd])
theorem before_foldl (c : Edge -> Bool) (acc : Array Nat) (es : List Edge) (s x : Nat) :
  (es.foldl (fun s e => if c e then s ||| 2 ^ e.on ||| acc.getD e.on 0 else s) s).testBit x = true ↔
   s.testBit x = true \/ ∃ e ∈ es, c e = true /\ (x = e.on \/ (acc.getD e.on 0).testBit x = true) := by
 induction es generalizing s with
 | nil => simp
 | cons e es ih =>
  rw [List.foldl_cons, ih]
  by_cases hc : c e = true
  ·simp only [hc, if_true, Nat.testBit_or, Nat.testBit_two_pow, Bool.or_eq_true, decide_eq_true_eq, List.mem_cons, exists_eq_or_imp, true_and]
   constructor
   ·rintro ((h | h) | h) 
    ·rcases h with h | h
     ·exact .inl h
     ·exact .inr (.inl (.inl h.symm))
    ·exact .inr (.inl (.inr h))
    ·exact .inr (.inr h)
   ·rintro (h | (h | h) | h)
    ·exact .inl (.inl (.inl h))
    ·exact .inl (.inl (.inr h.symm))
    ·exact .inl (.inr h)
    ·exact .inr h
  ·simp only [hc, Bool.false_eq_true, if_false, List.mem_cons, exists_eq_or_imp, false_and, false_or]
def beforeL (l : List Oper) (acc : Array Nat) : Array Nat :=
 l.foldl (init := acc) fun acc o => acc.push (o.after.foldl (fun s e => if Region.binds .any e then s ||| 2 ^ e.on ||| acc.getD e.on 0 else s) 0)
theorem beforeL_spec : ∀ (l : List Oper) (acc : Array Nat), (beforeL l acc).size = acc.size + l.length /\ (∀ i, i < acc.size -> (beforeL l acc).getD i 0 = acc.getD i 0)
 | [], acc => ⟨rfl, fun _ _ => rfl⟩
 | o :: l, acc => by
  let a2 := acc.push (o.after.foldl (fun s e => if Region.binds .any e then s ||| 2 ^ e.on ||| acc.getD e.on 0 else s) 0)
  obtain ⟨h1, h2⟩ := beforeL_spec l a2
  have hs : a2.size = acc.size + 1 := Array.size_push ..
  refine ⟨?_, fun i hi => ?_⟩
  ·show (beforeL l a2).size = _
   rw [h1, hs, List.length_cons]; omega
  ·show (beforeL l a2).getD i 0 = _
   rw [h2 i (by omega)]
   simp only [a2, Array.getD_eq_getD_getElem?]
   rw [Array.getElem?_push_lt hi, Array.getElem?_eq_getElem hi]
theorem isBefore_step : ∀ (l : List Oper) (acc : Array Nat) (j : Nat) (o : Oper), l[j]? = some o -> (∀ e ∈ o.after, Region.binds .any e = true -> e.on < acc.size + j) -> ∀ i,
  isBefore (beforeL l acc) i (acc.size + j) = true -> ∃ e ∈ o.after, Region.binds .any e = true /\ (i = e.on \/ isBefore (beforeL l acc) i e.on = true)
 | [], _, _, _, h, _, _, _ => by simp at h
 | p :: l, acc, j, o, h, hl, i, hb => by
  let a2 := acc.push (p.after.foldl (fun s e => if Region.binds .any e then s ||| 2 ^ e.on ||| acc.getD e.on 0 else s) 0)
  have hs : a2.size = acc.size + 1 := Array.size_push ..
  have hbl : beforeL (p :: l) acc = beforeL l a2 := rfl
  rw [hbl] at hb ⊢
  cases j with
  | zero =>
   simp only [List.getElem?_cons_zero, Option.some.injEq] at h
   subst h
   unfold isBefore at hb
   rw [(beforeL_spec l a2).2 _ (by omega)] at hb
   have hv : a2.getD (acc.size + 0) 0 = p.after.foldl (fun s e => if Region.binds .any e then s ||| 2 ^ e.on ||| acc.getD e.on 0 else s) 0 := by
    simp only [a2, Array.getD_eq_getD_getElem?, Nat.add_zero, Array.getElem?_push_size, Option.getD_some]
   rw [hv, <- Array.foldl_toList, before_foldl] at hb
   rcases hb with hb | ⟨e, he, hc, hb⟩
   ·simp at hb
   ·have hlt := hl e (by simpa using he) hc
    refine ⟨e, by simpa using he, hc, hb.imp id fun hb => ?_⟩
    unfold isBefore
    rw [(beforeL_spec l a2).2 _ (by omega)]
    simp only [a2, Array.getD_eq_getD_getElem?] at hb ⊢
    rw [Array.getElem?_push_lt (by omega), <- Array.getElem?_eq_getElem (by omega)]
    exact hb
  | succ j =>
   have hj : acc.size + (j + 1) = a2.size + j := by omega
   rw [hj] at hb hl
   exact isBefore_step l a2 j o (by simpa using h) hl i hb
theorem before_eq (ops : Array Oper) : Region.before ops = beforeL ops.toList #[] := by
 unfold Region.before beforeL
 rw [<- Array.foldl_toList]
theorem isBefore_edge {ops : Array Oper} {i j : Nat} {o : Oper} (hj : ops[j]? = some o) (hl : ∀ e ∈ o.after, Region.binds .any e = true -> e.on < j)
  (h : isBefore (Region.before ops) i j = true) : ∃ e ∈ o.after, Region.binds .any e = true /\ (i = e.on \/ isBefore (Region.before ops) i e.on = true) := by
 rw [before_eq] at h ⊢
 have := isBefore_step ops.toList #[] j o (by simpa using hj) (by simpa using hl) i (by simpa using h)
 simpa using this
end Go.Abs
namespace Go.Abs
open Go.RowKit
def tmS (S : Nat -> Bool) : List (Option Tmp × AV) -> Nat -> TM -> TM
 | [], _, tm => tm
 | p :: r, i, tm => tmS S r (i + 1) (if S i then putO tm p.1 p.2 else tm)
def dsOf (r : List Oper) (l : List Tr) : List (Option Tmp × AV) := List.zipWith (fun o e => (o.dst, e.v)) r l
def stA (st : St) : List Tr -> Nat -> St
 | [], _ => st
 | _ :: _, 0 => st
 | e :: l, k + 1 => stA e.now l k
theorem stA_zero (st : St) (l : List Tr) : stA st l 0 = st := by cases l <;> rfl
theorem tmS_congr {S S' : Nat -> Bool} : ∀ (ds : List (Option Tmp × AV)) (i : Nat) (tm : TM), (∀ m, i <= m -> S m = S' m) -> tmS S ds i tm = tmS S' ds i tm
 | [], _, _, _ => rfl
 | p :: r, i, tm, h => by
  simp only [tmS]
  rw [h i (Nat.le_refl _)]
  exact tmS_congr r (i + 1) _ fun m hm => h m (by omega)
theorem tmS_none {S : Nat -> Bool} : ∀ (ds : List (Option Tmp × AV)) (i : Nat) (tm : TM), (∀ m, i <= m -> S m = false) -> tmS S ds i tm = tm
 | [], _, _, _ => rfl
 | p :: r, i, tm, h => by
  simp only [tmS]
  rw [h i (Nat.le_refl _)]
  exact tmS_none r (i + 1) _ fun m hm => h m (by omega)
theorem putO_get (tm : TM) (d : Option Tmp) (v : AV) (t : Nat) : (putO tm d v).get t = if d = some t /\ t < tm.n then v else tm.get t := by
 cases d with
 | none => simp [putO]
 | some d =>
  simp only [putO, TM.get_put]
  by_cases h : t = d
  ·subst h; simp
  ·rw [if_neg (fun k => h k.1), if_neg (fun k => h (Option.some.inj k.1).symm)]
def Same (a b : TM) : Prop := a.n = b.n /\ ∀ t, a.get t = b.get t
theorem Same.refl (a : TM) : Same a a := ⟨rfl, fun _ => rfl⟩
theorem Same.trans {a b c : TM} (h : Same a b) (k : Same b c) : Same a c := ⟨h.1.trans k.1, fun t => (h.2 t).trans (k.2 t)⟩
theorem Same.symm {a b : TM} (h : Same a b) : Same b a := ⟨h.1.symm, fun t => (h.2 t).symm⟩
theorem Same.put {a b : TM} (h : Same a b) (d : Option Tmp) (v : AV) : Same (putO a d v) (putO b d v) :=
 ⟨by simp [h.1], fun t => by rw [putO_get, putO_get, h.1, h.2 t]⟩
theorem RT.same {Γ : Ghost} {a b : TM} {vs : Array Value} (h : Same a b) (k : RT Γ a vs) : RT Γ b vs :=
 ⟨k.size.trans h.1, fun t => (h.2 t) ▸ k.get t⟩
theorem tmS_n {S : Nat -> Bool} : ∀ (ds : List (Option Tmp × AV)) (i : Nat) (tm : TM), (tmS S ds i tm).n = tm.n
 | [], _, _ => rfl
 | p :: r, i, tm => by
  simp only [tmS]
  rw [tmS_n r (i + 1)]
  split
  ·exact putO_n _ _ _
  ·rfl
theorem tmS_same {S : Nat -> Bool} : ∀ (ds : List (Option Tmp × AV)) (i : Nat) {a b : TM}, Same a b -> Same (tmS S ds i a) (tmS S ds i b)
 | [], _, _, _, h => h
 | p :: r, i, a, b, h => by
  simp only [tmS]
  refine tmS_same r (i + 1) ?_
  split
  ·exact h.put _ _
  ·exact h
theorem tmS_at {S S' : Nat -> Bool} {t : Nat} : ∀ (ds : List (Option Tmp × AV)) (i : Nat) (tm tm' : TM), tm.n = tm'.n -> tm.get t = tm'.get t ->
  (∀ k v, ds[k]? = some (some t, v) -> S (i + k) = S' (i + k)) -> (tmS S ds i tm).get t = (tmS S' ds i tm').get t
 | [], _, _, _, _, h, _ => h
 | (d, v) :: r, i, tm, tm', hn, h, hk => by
  simp only [tmS]
  refine tmS_at r (i + 1) _ _ ?_ ?_ fun k v hv => by
   have := hk (k + 1) v (by simpa using hv)
   have e1 : i + 1 + k = i + (k + 1) := by omega
   rw [e1]; exact this
  ·split <;> split <;> simp [hn]
  ·by_cases hd : d = some t
   ·have := hk 0 v (by simp [hd])
    rw [Nat.add_zero] at this
    rw [this]
    split
    ·rw [putO_get, putO_get, h, hn]
    ·exact h
   ·have hf : ∀ x : TM, (putO x d v).get t = x.get t := fun x => by rw [putO_get, if_neg (fun k => hd k.1)]
    split <;> split <;> (try rw [hf]) <;> (try rw [hf]) <;> exact h
theorem putO_comm (tm : TM) {d e : Option Tmp} (v u : AV) (h : ∀ t, d = some t -> e ≠ some t) : Same (putO (putO tm d v) e u) (putO (putO tm e u) d v) := by
 refine ⟨by simp, fun t => ?_⟩
 rw [putO_get, putO_get, putO_get, putO_get]
 simp only [putO_n]
 by_cases h1 : d = some t
 ·have h2 := h t h1
  rw [if_neg (fun k => h2 k.1)]
  by_cases h3 : t < tm.n
  ·rw [if_pos ⟨h1, h3⟩, if_pos ⟨h1, h3⟩]
  ·rw [if_neg (fun k => h3 k.2), if_neg (fun k => h3 k.2), if_neg (fun k => h3 k.2)]
 ·have e1 : ∀ x y : AV, (if d = some t /\ t < tm.n then x else y) = y := fun x y => if_neg (fun k => h1 k.1)
  rw [e1, e1]
theorem tmS_comm {S : Nat -> Bool} {d : Option Tmp} {v : AV} : ∀ (ds : List (Option Tmp × AV)) (i : Nat) (tm : TM),
  (∀ m p, ds[m]? = some p -> S (i + m) = true -> ∀ t, d = some t -> p.1 ≠ some t) -> Same (tmS S ds i (putO tm d v)) (putO (tmS S ds i tm) d v)
 | [], _, _, _ => Same.refl _
 | p :: r, i, tm, h => by
  simp only [tmS]
  have hr : ∀ tm, Same (tmS S r (i + 1) (putO tm d v)) (putO (tmS S r (i + 1) tm) d v) := fun tm =>
   tmS_comm r (i + 1) tm fun m q hq hs => h (m + 1) q (by simpa using hq) (by rw [Nat.add_right_comm] at hs; exact hs)
  split
  ·rename_i hs
   exact (tmS_same r (i + 1) (putO_comm tm v p.2 (h 0 p rfl (by simpa using hs)))).trans (hr _)
  ·exact hr tm
theorem tmS_put {S : Nat -> Bool} {j : Nat} {d : Option Tmp} {v : AV} (hj : S j = false) : ∀ (ds : List (Option Tmp × AV)) (i k : Nat) (tm : TM), i + k = j -> ds[k]? = some (d, v) ->
  (∀ m p, k < m -> ds[m]? = some p -> S (i + m) = true -> ∀ t, d = some t -> p.1 ≠ some t) -> Same (tmS (fun m => m == j || S m) ds i tm) (putO (tmS S ds i tm) d v)
 | [], _, _, _, _, h, _ => by simp at h
 | p :: r, i, 0, tm, hi, h, hd => by
  simp only [List.getElem?_cons_zero, Option.some.injEq] at h
  subst h
  have hij : i = j := by omega
  subst hij
  simp only [tmS, BEq.rfl, Bool.true_or, if_true, hj, Bool.false_eq_true, if_false]
  rw [tmS_congr (S' := S) r (i + 1) _ fun m hm => by
   have : (m == i) = false := by simp; omega
   simp [this]]
  exact tmS_comm r (i + 1) tm fun m q hq hs => hd (m + 1) q (by omega) (by simpa using hq) (by rw [Nat.add_right_comm] at hs; exact hs)
 | p :: r, i, k + 1, tm, hi, h, hd => by
  simp only [tmS]
  have : (i == j) = false := by simp; omega
  simp only [this, Bool.false_or]
  exact tmS_put hj r (i + 1) k _ (by omega) (by simpa using h) fun m q hm hq hs => hd (m + 1) q (by omega) (by simpa using hq) (by rw [Nat.add_right_comm] at hs; exact hs)
theorem runOps_trace {E : Env} {call : Call1} {pre : Pre} {pol : Nat -> Nat} {ops : Array Oper} : ∀ (r : List Oper) (i : Nat) (tm : TM) (st : St) {q : TM × St},
  runOps E call pre pol ops r i tm st = some q -> ∃ l, runOpsT E call pre pol ops r i tm st = some (l, q)
 | [], _, _, _, _, h => by
  simp only [runOps, Option.some.injEq] at h
  subst h
  exact ⟨[], rfl⟩
 | o :: r, i, tm, st, q, h => by
  simp only [runOps] at h
  simp only [runOpsT]
  split at h
  ·rename_i hw
   split at h
   ·rename_i v st' hs
    obtain ⟨l, hl⟩ := runOps_trace r (i + 1) _ _ h
    simp only [hl]
    exact ⟨_, rfl⟩
   ·cases h
  ·rename_i hw
   obtain ⟨l, hl⟩ := runOps_trace r (i + 1) _ _ h
   simp only [hl]
   exact ⟨_, rfl⟩
  ·cases h
structure TrOk (E : Env) (call : Call1) (pre : Pre) (pol : Nat -> Nat) (ops : Array Oper) (ds : List (Option Tmp × AV)) (i : Nat) (tm : TM) (st : St) (l : List Tr) (k : Nat) (o : Oper) (e : Tr) : Prop where
 at_ : l[k]? = some e
 tm : e.tm = tmS (fun m => decide (m < i + k)) ds i tm
 was : e.was = stA st l k
 now : e.now = stA st l (k + 1)
 did : wantedA ops e.tm o = some e.did
 done : e.did = true -> stepPre E call pre (pol (i + k)) (i + k) e.tm e.was o = some (e.v, e.now)
 not : e.did = false -> e.v = .tup [] /\ e.now = e.was
theorem TrOk.shift {E : Env} {call : Call1} {pre : Pre} {pol : Nat -> Nat} {ops : Array Oper} {r : List Oper} {i : Nat} {tm : TM} {st : St} {l : List Tr} {o : Oper} {e : Tr}
  (h : ∀ k p, r[k]? = some p -> ∃ q, TrOk E call pre pol ops (dsOf r l) (i + 1) (putO tm o.dst e.v) e.now l k p q) {k : Nat} {p : Oper} (hk : r[k]? = some p) :
  ∃ q, TrOk E call pre pol ops (dsOf (o :: r) (e :: l)) i tm st (e :: l) (k + 1) p q := by
 obtain ⟨q, h1, h2, h3, h4, h5, h6, h7⟩ := h k p hk
 have hik : i + 1 + k = i + (k + 1) := by omega
 refine ⟨q, by simpa using h1, ?_, h3, h4, h5, ?_, h7⟩
 ·rw [h2, hik]
  show _ = tmS _ ((o.dst, e.v) :: dsOf r l) i tm
  simp only [tmS]
  have : decide (i < i + (k + 1)) = true := by simp
  rw [this]; rfl
 ·rw [<- hik]; exact h6
theorem runOpsT_ok {E : Env} {call : Call1} {pre : Pre} {pol : Nat -> Nat} {ops : Array Oper} : ∀ (r : List Oper) (i : Nat) (tm : TM) (st : St) {l : List Tr} {q : TM × St},
  runOpsT E call pre pol ops r i tm st = some (l, q) ->
   l.length = r.length /\ q.1 = tmS (fun _ => true) (dsOf r l) i tm /\ q.2 = stA st l l.length /\ ∀ k o, r[k]? = some o -> ∃ e, TrOk E call pre pol ops (dsOf r l) i tm st l k o e
 | [], i, tm, st, l, q, h => by
  simp only [runOpsT, Option.some.injEq, Prod.mk.injEq] at h
  obtain ⟨rfl, rfl⟩ := h
  exact ⟨rfl, rfl, rfl, fun k o hk => by simp at hk⟩
 | o :: r, i, tm, st, l, q, h => by
  have first : ∀ (e : Tr) (l : List Tr), e.tm = tm -> e.tm = tmS (fun m => decide (m < i + 0)) (dsOf (o :: r) (e :: l)) i tm := fun e l he => by
   rw [he, tmS_none]
   intro m hm; simp; omega
  simp only [runOpsT] at h
  split at h
  ·rename_i hw
   split at h
   ·rename_i v st' hs
    split at h
    ·rename_i l' q' hl
     simp only [Option.some.injEq, Prod.mk.injEq] at h
     obtain ⟨rfl, rfl⟩ := h
     obtain ⟨h1, h2, h3, h4⟩ := runOpsT_ok r (i + 1) _ _ hl
     refine ⟨by simp [h1], h2, h3, fun k p hk => ?_⟩
     cases k with
     | zero =>
      simp only [List.getElem?_cons_zero, Option.some.injEq] at hk
      subst hk
      exact ⟨⟨tm, st, st', v, true⟩, ⟨rfl, first _ _ rfl, rfl, (stA_zero _ _).symm, hw, fun _ => hs, fun hd => by cases hd⟩⟩
     | succ k => exact TrOk.shift (e := ⟨tm, st, st', v, true⟩) h4 (by simpa using hk)
    ·cases h
   ·cases h
  ·rename_i hw
   split at h
   ·rename_i l' q' hl
    simp only [Option.some.injEq, Prod.mk.injEq] at h
    obtain ⟨rfl, rfl⟩ := h
    obtain ⟨h1, h2, h3, h4⟩ := runOpsT_ok r (i + 1) _ _ hl
    refine ⟨by simp [h1], h2, h3, fun k p hk => ?_⟩
    cases k with
    | zero =>
     simp only [List.getElem?_cons_zero, Option.some.injEq] at hk
     subst hk
     exact ⟨⟨tm, st, st, .tup [], false⟩, ⟨rfl, first _ _ rfl, rfl, (stA_zero _ _).symm, hw, fun hd => (by cases hd), fun _ => ⟨rfl, rfl⟩⟩⟩
    | succ k => exact TrOk.shift (e := ⟨tm, st, st, .tup [], false⟩) h4 (by simpa using hk)
   ·cases h
  ·cases h
structure Facts (E : Env) (call : Call1) (base : Nat) (fl : Bool) (pol : Nat -> Nat) (ops : Array Oper) (l : List Tr) (tm : TM) (st : St) : Prop where
 edges : ∀ (j : Nat) (o : Oper), ops[j]? = some o -> ∀ e ∈ o.after, Region.binds .any e = true -> e.on < j
 pairs : ∀ (i j : Nat) (p o : Oper), i < j -> ops[i]? = some p -> ops[j]? = some o -> isBefore (Region.before ops) i j = true \/
  ((∀ d, p.dst = some d -> d ∉ namesOf ops o) /\ (∀ d, o.dst = some d -> d ∉ namesOf ops p) /\ ¬ (turns fl o.op = true /\ turns fl p.op = true))
 len : l.length = ops.size
 tr : ∀ (k : Nat) (o : Oper), ops[k]? = some o -> ∃ e, TrOk E call (some (base, fl)) pol ops (dsOf ops.toList l) 0 tm st l k o e
 dyn : ∀ (i j : Nat) (o p : Oper) (e q : Tr), ops[i]? = some o -> ops[j]? = some p -> turns fl o.op = true -> readsSt p.op = true -> i ≠ j ->
  ¬ (i < j /\ isBefore (Region.before ops) i j = true) -> ¬ (j < i /\ isBefore (Region.before ops) j i = true) -> l[i]? = some e -> l[j]? = some q -> e.did = true -> q.did = true ->
  quiet E q.tm e.was p = some q.v /\ quiet E q.tm e.now p = some q.v
theorem drawStatic_spec {fl : Bool} {ops : Array Oper} (h : drawStatic fl ops = true) :
  (∀ (j : Nat) (o : Oper), ops[j]? = some o -> ∀ e ∈ o.after, Region.binds .any e = true -> e.on < j) /\
  (∀ (i j : Nat) (p o : Oper), i < j -> ops[i]? = some p -> ops[j]? = some o -> isBefore (Region.before ops) i j = true \/
   ((∀ d, p.dst = some d -> d ∉ namesOf ops o) /\ (∀ d, o.dst = some d -> d ∉ namesOf ops p) /\ ¬ (turns fl o.op = true /\ turns fl p.op = true))) := by
 have mem : ∀ (j : Nat) (o : Oper), ops[j]? = some o -> (o, j) ∈ ops.toList.zipIdx := fun j o h => by
  rw [List.mem_zipIdx_iff_getElem?]; simpa using h
 simp only [drawStatic, Bool.and_eq_true, List.all_eq_true] at h
 obtain ⟨h1, h2⟩ := h
 refine ⟨fun j o hj e he hb => ?_, fun i j p o hij hi hj => ?_⟩
 ·have := h1 (o, j) (mem j o hj)
  simp only [Array.all_eq_true_iff_forall_mem] at this
  have := this e he
  simpa [hb] using this
 ·have := h2 (o, j) (mem j o hj) (p, i) (mem i p hi)
  simp only [Bool.or_eq_true, decide_eq_true_eq, Bool.and_eq_true, Bool.not_eq_true', Bool.and_eq_false_imp] at this
  rcases this with (h | h) | ⟨⟨h3, h4⟩, h5⟩
  ·omega
  ·exact .inl h
  ·refine .inr ⟨fun d hd => ?_, fun d hd => ?_, fun ⟨x, y⟩ => ?_⟩
   ·rw [hd] at h3
    simpa using h3
   ·rw [hd] at h4
    simpa using h4
   ·rw [h5 x] at y; cases y
theorem Facts.mk' {E : Env} {call : Call1} {base : Nat} {fl : Bool} {pol : Nat -> Nat} {ops : Array Oper} {l : List Tr} {tm : TM} {st : St} {q : TM × St}
  (hs : drawStatic fl ops = true) (hr : runOpsT E call (some (base, fl)) pol ops ops.toList 0 tm st = some (l, q)) (hd : (dynPairs fl ops).all (dynOk E ops l) = true) : Facts E call base fl pol ops l tm st := by
 obtain ⟨h1, h2⟩ := drawStatic_spec hs
 obtain ⟨h3, _, _, h4⟩ := runOpsT_ok _ _ _ _ hr
 refine ⟨h1, h2, by simpa using h3, fun k o hk => h4 k o (by simpa using hk), ?_⟩
 intro i j o p e q hi hj ht hre hne hn1 hn2 he hq hed hqd
 have mem : ∀ (j : Nat) (o : Oper), ops[j]? = some o -> (o, j) ∈ ops.toList.zipIdx := fun j o h => by
  rw [List.mem_zipIdx_iff_getElem?]; simpa using h
 have hm : (i, j) ∈ dynPairs fl ops := by
  simp only [dynPairs, List.mem_flatMap]
  refine ⟨(o, i), mem i o hi, ?_⟩
  simp only [ht, if_true, List.mem_filterMap]
  refine ⟨(p, j), mem j p hj, ?_⟩
  have c1 : (decide (i < j) && isBefore (Region.before ops) i j) = false := by
   rw [Bool.eq_false_iff]; intro h
   simp only [Bool.and_eq_true, decide_eq_true_eq] at h
   exact hn1 h
  have c2 : (decide (j < i) && isBefore (Region.before ops) j i) = false := by
   rw [Bool.eq_false_iff]; intro h
   simp only [Bool.and_eq_true, decide_eq_true_eq] at h
   exact hn2 h
  have c3 : (i != j) = true := by simpa using hne
  simp only [hre, c1, c2, c3]
  rfl
 have := List.all_eq_true.1 hd _ hm
 simp only [dynOk, he, hq, hj, hed, hqd, Bool.not_true, Bool.false_or] at this
 split at this
 ·rename_i a b ha hb
  simp only [Bool.and_eq_true] at this
  rw [ha, hb, AV.eq_of_beq _ _ this.1, AV.eq_of_beq _ _ this.2]
  exact ⟨rfl, rfl⟩
 ·cases this
def Made (E : Env) (b : Nat) (tm : TM) (o : Oper) (v : AV) : Prop :=
 match o.op with
 | .makeSlice t l c => makePre E b (isConstO l) t (evalO tm l) (evalO tm c) = some v
 | .makeMap t none => mapPre E b t = some v
 | _ => False
theorem stepPre_cases {E : Env} {call : Call1} {base : Nat} {fl : Bool} {pol i : Nat} {tm : TM} {st : St} {o : Oper} {r : AV × St} (h : stepPre E call (some (base, fl)) pol i tm st o = some r) :
  (∃ t, o.op = .alloc t /\ r = (.ptr (base + i) 0 0, st)) \/ (fl = true /\ isMake o.op = true /\ ∃ v, r = (v, st) /\ Made E (base + i) tm o v) \/
  ((∀ t, o.op ≠ .alloc t) /\ ¬ (fl = true /\ isMake o.op = true) /\ stepOp E call pol tm st o = some r) := by
 unfold stepPre at h
 split at h
 ·rename_i b f t h1 h2
  cases h1
  exact .inl ⟨t, h2, (Option.some.inj h).symm⟩
 ·rename_i b t l c h1 h2
  cases h1
  obtain ⟨v, h3, h4⟩ := Option.map_eq_some_iff.1 h
  refine .inr (.inl ⟨rfl, by rw [h2]; rfl, v, h4.symm, ?_⟩)
  unfold Made
  rw [h2]; exact h3
 ·rename_i b t h1 h2
  cases h1
  obtain ⟨v, h3, h4⟩ := Option.map_eq_some_iff.1 h
  refine .inr (.inl ⟨rfl, by rw [h2]; rfl, v, h4.symm, ?_⟩)
  unfold Made
  rw [h2]; exact h3
 ·rename_i n1 n2 n3
  refine .inr (.inr ⟨fun t ht => n1 base fl t rfl ht, fun ⟨hf, hm⟩ => ?_, h⟩)
  subst hf
  unfold isMake at hm
  split at hm
  ·rename_i t l c ht; exact n2 base t l c rfl ht
  ·rename_i t ht; exact n3 base t rfl ht
  ·cases hm
theorem turns_quiet {fl : Bool} {op : Op} (h : turns fl op = false) (h1 : ∀ t, op ≠ .alloc t) (h2 : ¬ (fl = true /\ isMake op = true)) : isLoud op = false := by
 unfold turns at h
 split at h
 ·exact absurd rfl (h1 _)
 ·cases hl : isLoud op with
  | false => rfl
  | true =>
   rw [hl] at h
   simp only [Bool.true_and, Bool.not_eq_false', Bool.and_eq_true] at h
   exact absurd h h2
end Go.Abs
namespace Go.Abs
open Go.RowKit
section
variable {P : Program} {E : Env} {call : Call1} {base : Nat} {fl : Bool} {pol : Nat -> Nat} {ops : Array Oper} {l : List Tr} {tm : TM} {st : St}
def Closed (ops : Array Oper) (S : Nat -> Bool) : Prop := ∀ i j, S j = true -> isBefore (Region.before ops) i j = true -> S i = true
theorem ds_get {k : Nat} {p : Option Tmp × AV} (h : (dsOf ops.toList l)[k]? = some p) : ∃ o e, ops[k]? = some o /\ l[k]? = some e /\ p = (o.dst, e.v) := by
 unfold dsOf at h
 rw [List.getElem?_zipWith] at h
 cases h1 : ops.toList[k]? with
 | none => rw [h1] at h; simp at h
 | some o =>
  cases h2 : l[k]? with
  | none => rw [h1, h2] at h; simp at h
  | some e =>
   rw [h1, h2] at h
   simp only [Option.some.injEq] at h
   exact ⟨o, e, by simpa using h1, rfl, h.symm⟩
theorem ds_of {k : Nat} {o : Oper} {e : Tr} (h1 : ops[k]? = some o) (h2 : l[k]? = some e) : (dsOf ops.toList l)[k]? = some (o.dst, e.v) := by
 unfold dsOf
 rw [List.getElem?_zipWith]
 have : ops.toList[k]? = some o := by simpa using h1
 rw [this, h2]
theorem before_in {S : Nat -> Bool} (F : Facts E call base fl pol ops l tm st) (hc : Closed ops S) {j : Nat} {o : Oper} (hj : ops[j]? = some o) (hr : ∀ e ∈ o.after, Region.binds .any e = true -> S e.on = true) :
  ∀ i, isBefore (Region.before ops) i j = true -> S i = true := by
 intro i hi
 obtain ⟨e, he, hb, h⟩ := isBefore_edge hj (F.edges j o hj) hi
 have := hr e he hb
 rcases h with rfl | h
 ·exact this
 ·exact hc i e.on this h
theorem Closed.add {S : Nat -> Bool} (F : Facts E call base fl pol ops l tm st) (hc : Closed ops S) {j : Nat} {o : Oper} (hj : ops[j]? = some o) (hr : ∀ e ∈ o.after, Region.binds .any e = true -> S e.on = true) :
  Closed ops (fun m => m == j || S m) := by
 intro i k hk hb
 simp only [Bool.or_eq_true, beq_iff_eq] at hk ⊢
 rcases hk with rfl | hk
 ·exact .inr (before_in F hc hj hr i hb)
 ·exact .inr (hc i k hk hb)
theorem names_same {S : Nat -> Bool} (F : Facts E call base fl pol ops l tm st) (hc : Closed ops S) {j : Nat} {o : Oper} {e : Tr} (hj : ops[j]? = some o) (hSj : S j = false)
  (hr : ∀ e ∈ o.after, Region.binds .any e = true -> S e.on = true) (he : TrOk E call (some (base, fl)) pol ops (dsOf ops.toList l) 0 tm st l j o e) :
  ∀ t ∈ namesOf ops o, (tmS S (dsOf ops.toList l) 0 tm).get t = e.tm.get t := by
 intro t ht
 rw [he.tm]
 refine tmS_at _ 0 tm tm rfl rfl fun k v hk => ?_
 obtain ⟨p, q, hp, hq, heq⟩ := ds_get hk
 have hd : p.dst = some t := (congrArg Prod.fst heq).symm
 rw [Nat.zero_add, Nat.zero_add]
 rcases Nat.lt_trichotomy k j with h | h | h
 ·rcases F.pairs k j p o h hp hj with hb | ⟨hb, _, _⟩
  ·rw [before_in F hc hj hr k hb]; simp [h]
  ·exact absurd ht (hb t hd)
 ·subst h; rw [hSj]; simp
 ·have hS : S k = false := by
   rcases F.pairs j k o p h hj hp with hb | ⟨_, hb, _⟩
   ·cases hk : S k with
    | false => rfl
    | true => rw [hc j k hk hb] at hSj; cases hSj
   ·exact absurd ht (hb t hd)
  rw [hS]
  have : ¬ k < j := by omega
  simp [this]
theorem put_same {S : Nat -> Bool} (F : Facts E call base fl pol ops l tm st) (hc : Closed ops S) {j : Nat} {o : Oper} {e : Tr} (hj : ops[j]? = some o) (hSj : S j = false) (he : l[j]? = some e) :
  Same (tmS (fun m => m == j || S m) (dsOf ops.toList l) 0 tm) (putO (tmS S (dsOf ops.toList l) 0 tm) o.dst e.v) := by
 refine tmS_put hSj _ 0 j tm (Nat.zero_add j) (ds_of hj he) ?_
 intro m p hm hp hS t hd hpd
 obtain ⟨o', e', h1, h2, rfl⟩ := ds_get hp
 dsimp only at hpd
 rw [Nat.zero_add] at hS
 rcases F.pairs j m o o' hm hj h1 with hb | ⟨hb, _, _⟩
 ·rw [hc j m hS hb] at hSj; cases hSj
 ·exact absurd (by rw [namesOf, hpd]; simp) (hb t hd)
theorem quiet_state {k : Nat} {o : Oper} {e : Tr} (he : TrOk E call (some (base, fl)) pol ops (dsOf ops.toList l) 0 tm st l k o e) (ht : turns fl o.op = false \/ e.did = false) : e.now = e.was := by
 cases hd : e.did with
 | false => exact (he.not hd).2
 | true =>
  rcases ht with ht | ht
  ·rcases stepPre_cases (he.done hd) with ⟨t, _, h⟩ | ⟨_, _, v, h, _⟩ | ⟨n1, n2, h⟩
   ·exact congrArg Prod.snd h
   ·exact congrArg Prod.snd h
   ·have hl := turns_quiet ht n1 n2
    unfold stepOp at h
    rw [hl] at h
    simp only [Bool.false_eq_true, if_false, Option.map_eq_some_iff, Prod.mk.injEq] at h
    obtain ⟨_, _, _, h⟩ := h
    exact h.symm
  ·rw [hd] at ht; cases ht
theorem state_step (F : Facts E call base fl pol ops l tm st) {k : Nat} {o : Oper} (hk : ops[k]? = some o) (ht : turns fl o.op = false) : stA st l (k + 1) = stA st l k := by
 obtain ⟨e, he⟩ := F.tr k o hk
 rw [<- he.now, <- he.was]
 exact quiet_state he (.inl ht)
theorem state_same (F : Facts E call base fl pol ops l tm st) {a : Nat} : ∀ (n : Nat), a + n <= ops.size -> (∀ i o, a <= i -> i < a + n -> ops[i]? = some o -> turns fl o.op = false) -> stA st l (a + n) = stA st l a
 | 0, _, _ => rfl
 | n + 1, hn, h => by
  rw [<- Nat.add_assoc, state_step F (Array.getElem?_eq_getElem (by omega : a + n < ops.size)) (h (a + n) _ (by omega) (by omega) (Array.getElem?_eq_getElem (by omega)))]
  exact state_same F n (by omega) fun i o h1 h2 => h i o h1 (by omega)
def UpTo (fl : Bool) (ops : Array Oper) (S : Nat -> Bool) (k : Nat) : Prop := k <= ops.size /\ ∀ i o, ops[i]? = some o -> turns fl o.op = true -> (S i = true ↔ i < k)
theorem turn_state {S : Nat -> Bool} (F : Facts E call base fl pol ops l tm st) (hc : Closed ops S) {k : Nat} (hk : UpTo fl ops S k) {j : Nat} {o : Oper} (hj : ops[j]? = some o) (hSj : S j = false)
  (hr : ∀ e ∈ o.after, Region.binds .any e = true -> S e.on = true) (ht : turns fl o.op = true) : stA st l k = stA st l j /\ UpTo fl ops (fun m => m == j || S m) (j + 1) := by
 have hlt : j < ops.size := (Array.getElem?_eq_some_iff.1 hj).1
 have hkj : k <= j := by
  have := (hk.2 j o hj ht)
  rcases Nat.lt_or_ge j k with h | h
  ·rw [this.2 h] at hSj; cases hSj
  ·exact h
 have hno : ∀ i p, k <= i -> i < j -> ops[i]? = some p -> turns fl p.op = false := by
  intro i p h1 h2 hp
  cases htp : turns fl p.op with
  | false => rfl
  | true =>
   have hS : S i = true := by
    rcases F.pairs i j p o h2 hp hj with hb | ⟨_, _, hb⟩
    ·exact before_in F hc hj hr i hb
    ·exact absurd ⟨ht, htp⟩ hb
   have := (hk.2 i p hp htp).1 hS
   omega
 refine ⟨?_, by omega, fun i p hp htp => ?_⟩
 ·have := state_same F (a := k) (j - k) (by omega) fun i p h1 h2 hp => hno i p h1 (by omega) hp
  rw [Nat.add_sub_cancel' hkj] at this
  exact this.symm
 ·simp only [Bool.or_eq_true, beq_iff_eq]
  rcases Nat.lt_trichotomy i j with h | h | h
  ·have : i < k := by
    rcases Nat.lt_or_ge i k with h' | h'
    ·exact h'
    ·rw [hno i p h' h hp] at htp; cases htp
   constructor
   ·intro _; omega
   ·intro _; exact .inr ((hk.2 i p hp htp).2 this)
  ·subst h; simp
  ·have hS := hk.2 i p hp htp
   constructor
   ·rintro (h' | h')
    ·omega
    ·have := hS.1 h'; omega
   ·intro h'; omega
theorem UpTo.add {S : Nat -> Bool} {k j : Nat} (hk : UpTo fl ops S k) {o : Oper} (hj : ops[j]? = some o) (ht : turns fl o.op = false) : UpTo fl ops (fun m => m == j || S m) k := by
 refine ⟨hk.1, fun i p hp htp => ?_⟩
 simp only [Bool.or_eq_true, beq_iff_eq]
 have := hk.2 i p hp htp
 constructor
 ·rintro (rfl | h)
  ·rw [hj] at hp; cases hp; rw [ht] at htp; cases htp
  ·exact this.1 h
 ·exact fun h => .inr (this.2 h)
theorem quiet_same {S : Nat -> Bool} (F : Facts E call base fl pol ops l tm st) (hc : Closed ops S) {k : Nat} (hk : UpTo fl ops S k) {j : Nat} {o : Oper} {q : Tr} (hj : ops[j]? = some o) (hSj : S j = false)
  (hr : ∀ e ∈ o.after, Region.binds .any e = true -> S e.on = true) (hl : isLoud o.op = false) (he : TrOk E call (some (base, fl)) pol ops (dsOf ops.toList l) 0 tm st l j o q) (hd : q.did = true) :
  quiet E q.tm (stA st l k) o = some q.v := by
 have hlt : j < ops.size := (Array.getElem?_eq_some_iff.1 hj).1
 have hown : quiet E q.tm (stA st l j) o = some q.v := by
  rcases stepPre_cases (he.done hd) with ⟨t, h2, _⟩ | ⟨_, h2, _⟩ | ⟨_, _, h⟩
  ·rw [h2] at hl; simp [isLoud] at hl
  ·cases hop : o.op <;> rw [hop] at hl h2 <;> first | (simp [isLoud] at hl; done) | (simp [isMake] at h2; done)
  ·unfold stepOp at h
   rw [hl] at h
   simp only [Bool.false_eq_true, if_false, Option.map_eq_some_iff, Prod.mk.injEq] at h
   obtain ⟨v, h1, rfl, _⟩ := h
   rw [<- he.was]; exact h1
 cases hre : readsSt o.op with
 | false => rw [quiet_any hre]; exact hown
 | true =>
  have hjt : turns fl o.op = false := by
   unfold turns
   split
   ·rfl
   ·rw [hl]; rfl
  -- downwards from j
  have down : ∀ (n : Nat) (a : Nat), a + n = j -> k <= a -> quiet E q.tm (stA st l a) o = some q.v := by
   intro n
   induction n with
   | zero => intro a ha _; rw [show a = j by omega]; exact hown
   | succ n ih =>
    intro a ha hka
    have hal : a < ops.size := by omega
    obtain ⟨p, hp⟩ : ∃ p, ops[a]? = some p := ⟨_, Array.getElem?_eq_getElem hal⟩
    obtain ⟨e, hte⟩ := F.tr a p hp
    have hnext := ih (a + 1) (by omega) (by omega)
    cases htp : turns fl p.op with
    | false => rw [<- state_step F hp htp]; exact hnext
    | true =>
     cases hed : e.did with
     | false =>
      have := quiet_state hte (.inr hed)
      rw [hte.now, hte.was] at this
      rw [<- this]; exact hnext
     | true =>
      have := (F.dyn a j p o e q hp hj htp hre (by omega) (fun ⟨_, hb⟩ => by
       have := before_in F hc hj hr a hb
       have := (hk.2 a p hp htp).1 this
       omega) (fun ⟨h, _⟩ => by omega) hte.at_ he.at_ hed hd).1
      rw [hte.was] at this; exact this
  have up : ∀ (n : Nat), j + n <= k -> quiet E q.tm (stA st l (j + n)) o = some q.v := by
   intro n
   induction n with
   | zero => intro _; exact hown
   | succ n ih =>
    intro hn
    have hal : j + n < ops.size := by have := hk.1; omega
    obtain ⟨p, hp⟩ : ∃ p, ops[j + n]? = some p := ⟨_, Array.getElem?_eq_getElem hal⟩
    obtain ⟨e, hte⟩ := F.tr (j + n) p hp
    have hprev := ih (by omega)
    rw [<- Nat.add_assoc]
    cases htp : turns fl p.op with
    | false => rw [state_step F hp htp]; exact hprev
    | true =>
     cases hed : e.did with
     | false =>
      have := quiet_state hte (.inr hed)
      rw [hte.now, hte.was] at this
      rw [this]; exact hprev
     | true =>
      have hnj : j + n ≠ j := by
       intro h
       rw [h] at hp; rw [hj] at hp; cases hp
       rw [hjt] at htp; cases htp
      have hS := (hk.2 _ p hp htp).2 (by omega)
      have := (F.dyn (j + n) j p o e q hp hj htp hre hnj (fun ⟨h, _⟩ => by omega) (fun ⟨_, hb⟩ => by
       have := hc j (j + n) hS hb
       rw [hSj] at this; cases this) hte.at_ he.at_ hed hd).2
      rw [hte.now] at this; exact this
  rcases Nat.le_total k j with h | h
  ·exact down (j - k) k (by omega) (Nat.le_refl _)
  ·have := up (k - j) (by omega)
   rw [Nat.add_sub_cancel' h] at this; exact this
end
end Go.Abs
namespace Go.Abs
open Go.RowKit
section
variable {P : Program} {E : Env} {call : Call1} {base : Nat} {fl : Bool} {pol : Nat -> Nat} {ops : Array Oper} {l : List Tr} {tm : TM} {st : St}
theorem preObjs_ok {base : Nat} : ∀ (r : List Oper) (i : Nat) {acc objs : List (Nat × AObj)}, preObjs E base r i acc = some objs ->
  (∀ b, (b < base + i \/ base + i + r.length <= b) -> getL objs b = getL acc b) /\
  (∀ (k : Nat) (o : Oper) (t : TypeId), r[k]? = some o -> o.op = .alloc t -> ∃ ty, E.ty t = some ty /\ 0 < ty.size /\ getL objs (base + (i + k)) = some (.row ty.size [ty.zeroV])) /\
  (∀ b, getL objs b = getL acc b \/ ∃ sz xs, getL objs b = some (.row sz xs))
 | [], i, acc, objs, h => by
  simp only [preObjs, Option.some.injEq] at h
  subst h
  exact ⟨fun _ _ => rfl, fun k o t hk => by simp at hk, fun _ => .inl rfl⟩
 | o :: r, i, acc, objs, h => by
  simp only [preObjs] at h
  have other : preObjs E base r (i + 1) acc = some objs -> (∀ t, o.op ≠ .alloc t) -> _ := fun h hn => by
   obtain ⟨h1, h2, h3⟩ := preObjs_ok r (i + 1) h
   refine (⟨fun b hb => h1 b (by simp only [List.length_cons] at hb; omega), fun k p t hk hp => ?_, h3⟩ :
    (∀ b, (b < base + i \/ base + i + (o :: r).length <= b) -> getL objs b = getL acc b) /\
    (∀ (k : Nat) (p : Oper) (t : TypeId), (o :: r)[k]? = some p -> p.op = .alloc t -> ∃ ty, E.ty t = some ty /\ 0 < ty.size /\ getL objs (base + (i + k)) = some (.row ty.size [ty.zeroV])) /\
    (∀ b, getL objs b = getL acc b \/ ∃ sz xs, getL objs b = some (.row sz xs)))
   cases k with
   | zero =>
    simp only [List.getElem?_cons_zero, Option.some.injEq] at hk
    subst hk
    exact absurd hp (hn t)
   | succ k =>
    have e1 : i + (k + 1) = i + 1 + k := by omega
    rw [e1]; exact h2 k p t (by simpa using hk) hp
  split at h
  ·rename_i t hop
   split at h
   ·rename_i ty ht
    split at h
    ·rename_i hsz
     obtain ⟨h1, h2, h3⟩ := preObjs_ok r (i + 1) h
     have own : getL objs (base + i) = some (.row ty.size [ty.zeroV]) := by
      rw [h1 _ (.inl (by omega)), getL_cons, if_pos rfl]
     refine ⟨fun b hb => ?_, fun k p t' hk hp => ?_, fun b => ?_⟩
     ·simp only [List.length_cons] at hb
      rw [h1 b (by omega), getL_cons, if_neg (by omega)]
     ·cases k with
      | zero =>
       simp only [List.getElem?_cons_zero, Option.some.injEq] at hk
       subst hk
       rw [hop] at hp; cases hp
       exact ⟨ty, ht, hsz, own⟩
      | succ k =>
       have e1 : i + (k + 1) = i + 1 + k := by omega
       rw [e1]; exact h2 k p t' (by simpa using hk) hp
     ·rcases h3 b with h | h
      ·rw [getL_cons] at h
       split at h
       ·exact .inr ⟨_, _, h⟩
       ·exact .inl h
      ·exact .inr h
    ·cases h
   ·cases h
  ·rename_i hn
   exact other h hn
theorem Inv.pre {B : Nat} {w0 w : World} {Γ : Ghost} {st st' : St} (hI : Inv B w0 Γ st w) {n : Nat} (hn : st'.next = st.next + n) (ht : st'.toks = st.toks) (hy : st'.tys = st.tys)
  (h1 : ∀ b, (b < st.next \/ st.next + n <= b) -> st'.get b = st.get b) : Out B w0 Γ st Γ st' w := by
 have ha : ∀ j, st'.alive j = st.alive j := fun j => by simp only [St.alive, ht]
 have hnew : ∀ j, st'.get j = st.get j \/ st.next <= j := by
  intro j
  rcases Nat.lt_or_ge j st.next with h | h
  ·exact .inl (h1 j (.inl h))
  ·exact .inr h
 have hown : ∀ j b, OwnB Γ st' j b -> OwnB Γ st j b := by
  rintro j b (⟨sz, xs, bs, sz', tot, k1, k2, k3⟩ | ⟨kt, et, es, k1, k2⟩ | ⟨k1, e, tot, k2⟩)
  ·rcases hnew j with h | h
   ·exact .inl ⟨sz, xs, bs, sz', tot, h ▸ k1, k2, k3⟩
   ·rw [(hI.fresh j h).1] at k2; cases k2
  ·rcases hnew j with h | h
   ·exact .inr (.inl ⟨kt, et, es, h ▸ k1, k2⟩)
   ·rw [(hI.fresh j h).2.1] at k2; cases k2
  ·exact .inr (.inr ⟨(ha j) ▸ k1, e, tot, k2⟩)
 refine ⟨Ghost.Le.refl Γ, ⟨hI.below, hI.base, hI.inert, ?_, ?_, ?_, ?_, ?_, ?_, ?_, hI.ety, ?_, ?_, hI.old⟩, ?_⟩
 ·intro j hj
  rw [hn] at hj
  obtain ⟨f1, f2, f3, f4, f5⟩ := hI.fresh j (by omega)
  exact ⟨f1, f2, f3, (h1 j (.inr hj)).trans f4, (ha j).trans f5⟩
 ·intro j sz xs blk bs sz' tot k1 k2
  rcases hnew j with h | h
  ·exact hI.rows j sz xs blk bs sz' tot (h ▸ k1) k2
  ·rw [(hI.fresh j h).1] at k2; cases k2
 ·intro j kt et es blk k1 k2
  rcases hnew j with h | h
  ·exact hI.maps j kt et es blk (h ▸ k1) k2
  ·rw [(hI.fresh j h).2.1] at k2; cases k2
 ·intro j blk e tot k1 k2
  exact hI.toks j blk e tot ((ha j) ▸ k1) k2
 ·exact fun i j b hi hj => hI.uniq i j b (hown i b hi) (hown j b hj)
 ·exact fun i b hi => hI.above i b (hown i b hi)
 ·intro i hi
  have hi' : st.alive i = true := (ha i) ▸ hi
  rcases hnew i with h | h
  ·exact h.trans (hI.disj i hi')
  ·rw [(hI.fresh i h).2.2.2.2] at hi'; cases hi'
 ·intro j T k
  exact hI.tys j T (by simpa only [St.ty, hy] using k)
 ·intro j T k
  exact hI.ttys j T (by simpa only [St.tty, hy] using k)
 ·exact ⟨by omega, fun j hj k1 k2 => ⟨k1, k2, h1 j (.inl hj)⟩⟩
theorem Inv.comesMap {B : Nat} {w0 w w' : World} {Γ : Ghost} {st : St} (h : Inv B w0 Γ st w) (t : Touch w w' w.heap.size) {i : Nat} {kt et : TypeId} (hg : st.get i = some (.map kt et [])) (ho : Γ.mp i = none)
  (hc : w'.heap[w.heap.size]? = some (.map #[] 0)) : Inv B w0 (Γ.addMp i w.heap.size) st w' := by
 have hle : Γ.Le (Γ.addMp i w.heap.size) := Ghost.le_addMp ho
 have hlt : i < st.next := by
  rcases Nat.lt_or_ge i st.next with k | k
  ·exact k
  ·rw [(h.fresh i k).2.2.2.1] at hg; cases hg
 have hna : st.alive i = false := by
  cases ha : st.alive i with
  | false => rfl
  | true => rw [h.disj i ha] at hg; cases hg
 refine h.change i w.heap.size hle (.inl rfl) t.other t.size t.os t.tape t.out ?_ ?_ ?_ ?_ ?_ ?_ ?_ ?_ (.inl (by omega))
 ·exact fun b o v k => .inr ⟨Nat.ne_of_lt (h.inert_lt k), k⟩
 ·intro j hj
  obtain ⟨h1, h2, h3, h4, h5⟩ := h.fresh j hj
  refine ⟨h1, ?_, h3, h4, h5⟩
  simp only [Ghost.addMp]; rw [if_neg (by omega)]; exact h2
 ·intro j h1 h2
  refine ⟨.inl rfl, .inl rfl, rfl, ?_, rfl⟩
  simp only [Ghost.addMp]; rw [if_neg h1]
 ·rintro j hj sz1 xs1 b bs sz' tot1 k1 k2
  rcases hj with rfl | rfl
  ·rw [hg] at k1; cases k1
  ·rw [h.noGet] at k1; cases k1
 ·rintro j hj kt' et' es k1
  rcases hj with rfl | rfl
  ·rw [hg] at k1; cases k1
   refine ⟨by simp [Ghost.addMp], #[], ⟨0, rfl⟩, hc, rfl, fun i k v hi => ?_⟩
   simp at hi
  ·rw [h.noGet] at k1; cases k1
 ·rintro j hj b e tot k1 k2
  rcases hj with rfl | rfl
  ·rw [hna] at k1; cases k1
  ·rw [h.noAlive] at k1; cases k1
 ·rintro j hj k
  rcases hj with rfl | rfl
  ·rw [hna] at k; cases k
  ·rw [h.noAlive] at k; cases k
 ·intro b1 _ o2
  rcases o2 with ⟨sz1, xs1, bs1, sz', tot1, k1, _⟩ | ⟨kt, et, es, k1, _⟩ | ⟨k1, _⟩
  ·rw [h.noGet] at k1; cases k1
  ·rw [h.noGet] at k1; cases k1
  ·rw [h.noAlive] at k1; cases k1
theorem slice_comes (hE : ∀ t y, E.ty t = some y -> TyOk P t y) {B : Nat} {w0 w : World} {Γ : Ghost} {st : St} (hI : Inv B w0 Γ st w) {t : TypeId} {lit : Bool} {l c v : AV} {lv cv : Value} {i : Nat}
  (hm : makePre E i lit t l c = some v) (hl : R Γ l lv) (hc : R Γ c cv)
  (hg : ∀ ty a et sz n, E.ty t = some ty -> ty.d = .slice a -> E.ty a = some et -> v = .sl sz i 0 n -> st.get i = some (.row sz (List.replicate n et.zeroV))) (ho : Γ.obj i = none) :
  ∃ u w' Γ', (Instr.makeSlice t lv cv).run P w = .ok u w' /\ Γ.Le Γ' /\ (∀ j, j ≠ i -> Γ'.obj j = Γ.obj j) /\ Γ'.mp = Γ.mp /\ Inv B w0 Γ' st w' /\ R Γ' v u := by
 unfold makePre at hm
 split at hm
 ·cases hm
 ·rename_i ty ht
  obtain ⟨U, i', z', hu, _, _, g1, _⟩ := (hE t ty ht).ex
  have gi := tdOf_inv g1
  split at hm
  ·rename_i e l c hd
   have hgg := hg ty e
   rw [hd] at gi; simp only [TDIs] at gi; subst gi
   simp only [R] at hl hc; subst hl; subst hc
   split at hm
   ·cases hm
   ·rename_i et he
    obtain ⟨ei, ez, hei, hez, hes, heb, hzs, hzo, hzr⟩ := (hE e et he).zero
    split at hm
    ·rename_i hcond
     obtain ⟨⟨hsz, h0, hlc, hroom⟩, _⟩ := hcond
     cases hm
     have hgi := hgg et et.size l.toNat ht hd he rfl
     simp only [roomA, Bool.and_eq_true, decide_eq_true_eq] at hroom
     have hbytes : (ei.bytes : Int) * c <= 281474976710656 := by
      have hc' : (c.toNat : Int) = c := Int.toNat_of_nonneg (by omega)
      rw [<- hc', heb, Int.mul_comm, <- Int.natCast_mul]
      omega
     have hrun := run_make (P := P) w t e ei ez hu hei hez .i64 .i64 l c h0 hlc hbytes (by omega)
     have hat := alloc_at w (.cells (madeCells ez.cells (c.toNat * ei.size)) e)
     have hsz' : (madeCells ez.cells (c.toNat * ei.size)).size = c.toNat * et.size := by rw [size_madeCells, hes]
     have hre : RE Γ (List.replicate l.toNat et.zeroV) (fun k => (madeCells ez.cells (c.toNat * ei.size))[k]?) 0 et.size :=
      zeros_RE (hzr Γ) hzo hzs hsz (m := c.toNat) (by omega) (fun k hk => by rw [made_get (by rw [hes]; exact hk) (by omega), hzs])
     have hle : Γ.Le (Γ.addObj i (w.heap.size, 0, et.size, c.toNat)) := Ghost.le_addObj ho
     refine ⟨_, _, _, hrun, hle, fun j hj => ?_, rfl, hI.comes (Touch.alloc w _) hgi ho hat hsz (tot := c.toNat) (by simp; omega) (by rw [hsz']; exact Nat.le_refl _) hre, ?_⟩
     ·simp only [Ghost.addObj]; rw [if_neg hj]
     ·simp only [R]
      exact ⟨w.heap.size, 0, c.toNat, 0, c.toNat, by simp [Ghost.addObj], rfl, by omega, .inr ⟨by simp, by omega⟩⟩
    ·cases hm
  ·cases hm
theorem map_comes (hE : ∀ t y, E.ty t = some y -> TyOk P t y) {B : Nat} {w0 w : World} {Γ : Ghost} {st : St} (hI : Inv B w0 Γ st w) {t : TypeId} {v : AV} {i : Nat} (hm : mapPre E i t = some v)
  (hg : ∃ kt et, st.get i = some (.map kt et [])) (ho : Γ.mp i = none) :
  ∃ u w' Γ', (Instr.makeMap t none).run P w = .ok u w' /\ Γ.Le Γ' /\ Γ'.obj = Γ.obj /\ (∀ j, j ≠ i -> Γ'.mp j = Γ.mp j) /\ Inv B w0 Γ' st w' /\ R Γ' v u := by
 have hv : v = .map i := by
  unfold mapPre at hm
  split at hm
  ·split at hm
   ·cases hm; rfl
   ·cases hm
  ·cases hm
 subst hv
 obtain ⟨kt, et, hg⟩ := hg
 have hat := alloc_at w (.map #[] 0)
 have hle : Γ.Le (Γ.addMp i w.heap.size) := Ghost.le_addMp ho
 refine ⟨.map (some w.heap.size), w.alloc (.map #[] 0), _, by simp [Instr.makeMap], hle, rfl, fun j hj => ?_, hI.comesMap (Touch.alloc w _) hg ho hat, ?_⟩
 ·simp only [Ghost.addMp]; rw [if_neg hj]
 ·simp only [R]
  exact ⟨w.heap.size, by simp [Ghost.addMp], rfl⟩
theorem alloc_comes (hE : ∀ t y, E.ty t = some y -> TyOk P t y) {B : Nat} {w0 w : World} {Γ : Ghost} {st : St} (hI : Inv B w0 Γ st w) {t : TypeId} {ty : Ty} {i : Nat}
  (ht : E.ty t = some ty) (hsz : 0 < ty.size) (hg : st.get i = some (.row ty.size [ty.zeroV])) (ho : Γ.obj i = none) :
  ∃ u w', (Instr.alloc t true (.tuple #[])).run P w = .ok u w' /\ Inv B w0 (Γ.addObj i (w.heap.size, 0, ty.size, 1)) st w' /\ R (Γ.addObj i (w.heap.size, 0, ty.size, 1)) (.ptr i 0 0) u := by
 obtain ⟨inf, z, hi, hz, hs, _, hzs, hzo, hzr⟩ := (hE t ty ht).zero
 have hat := alloc_at w (.cells z.cells t)
 refine ⟨.pointer (some ⟨w.heap.size, 0, none⟩), w.alloc (.cells z.cells t), ?_, hI.comes (Touch.alloc w _) hg ho hat hsz (Nat.le_refl 1) (by rw [Nat.one_mul, hzs]; exact Nat.le_refl _) (RE.one (hzr Γ) hzo hzs ?_), ?_⟩
 ·simp [Instr.alloc, run_zero hi hz, newVar, newRow]
 ·intro j v hj
  show z.cells[0 + j]? = some v
  rw [Nat.zero_add, <- Array.getElem?_toList]; exact hj
 ·simp only [R]
  exact ⟨w.heap.size, 0, ty.size, 1, by simp [Ghost.addObj], by simp⟩
def isPend (fl : Bool) : Op -> Bool
 | .alloc _ => true
 | op => fl && isMake op
theorem pend_turns {fl : Bool} {op : Op} (h : isPend fl op = true) : turns fl op = false := by
 unfold isPend at h
 split at h
 ·rfl
 ·unfold turns
  split
  ·rfl
  ·rw [h]; simp
structure DI (E : Env) (base : Nat) (fl : Bool) (ops : Array Oper) (l : List Tr) (tm : TM) (st : St) (B : Nat) (w0 : World) (Γ0 : Ghost) (stO : St) (ds : List Deferred) (S : Nat -> Bool) (k : Nat) (Γ : Ghost) (a : Act) (w : World) : Prop where
 closed : Closed ops S
 upto : UpTo fl ops S k
 out : Out B w0 Γ0 stO Γ (stA st l k) w
 tmps : RT Γ (tmS S (dsOf ops.toList l) 0 tm) a.tmps
 defers : a.defers = ds
 low : base + ops.size <= (stA st l k).next
 pend : ∀ (i : Nat) (o : Oper), ops[i]? = some o -> isPend fl o.op = true -> S i = false -> Γ.obj (base + i) = none /\ Γ.mp (base + i) = none /\ (stA st l k).get (base + i) = st.get (base + i)
structure Laid (E : Env) (base : Nat) (fl : Bool) (ops : Array Oper) (l : List Tr) (st : St) : Prop where
 alloc : ∀ (i : Nat) (o : Oper) (t : TypeId), ops[i]? = some o -> o.op = .alloc t -> ∃ ty, E.ty t = some ty /\ 0 < ty.size /\ st.get (base + i) = some (.row ty.size [ty.zeroV])
 make : ∀ (i : Nat) (o : Oper) (e : Tr), ops[i]? = some o -> l[i]? = some e -> fl = true -> makeOk E base st i o e = true
theorem makeOk_slice {E : Env} {base : Nat} {st : St} {i : Nat} {o : Oper} {e : Tr} (h : makeOk E base st i o e = true) (hd : e.did = true) {t : TypeId} {x y : Operand} (ho : o.op = .makeSlice t x y) :
  ∀ ty a et sz b n, E.ty t = some ty -> ty.d = .slice a -> E.ty a = some et -> e.v = .sl sz b 0 n -> st.get (base + i) = some (.row sz (List.replicate n et.zeroV)) := by
 intro ty a et sz b n h1 h2 h3 h4
 unfold makeOk at h
 rw [hd, ho, h4] at h
 simp only [Bool.not_true, Bool.false_or, h1, h2, h3] at h
 split at h
 ·rename_i ty' sz' xs hty hg
  cases hty
  rw [h2] at h
  simp only [h3, Bool.and_eq_true, beq_iff_eq] at h
  rw [hg, h.1, AV.eqL_of_beq _ _ h.2]
 ·cases h
theorem makeOk_map {E : Env} {base : Nat} {st : St} {i : Nat} {o : Oper} {e : Tr} (h : makeOk E base st i o e = true) (hd : e.did = true) {t : TypeId} (ho : o.op = .makeMap t none) : ∃ kt et, st.get (base + i) = some (.map kt et []) := by
 unfold makeOk at h
 rw [hd, ho] at h
 simp only [Bool.not_true, Bool.false_or] at h
 split at h
 ·rename_i ty' kt' et' es hty hg
  split at h
  ·simp only [Bool.and_eq_true, beq_iff_eq, List.isEmpty_iff] at h
   exact ⟨kt', et', by rw [hg, h.2]⟩
  ·cases h
 ·cases h
theorem Made_looks {E : Env} {b : Nat} {ops : Array Oper} {tm tm' : TM} {o : Oper} {v : AV} (h : ∀ t ∈ o.looksAt ops, tm.get t = tm'.get t) (hm : Made E b tm' o v) : Made E b tm o v := by
 have hx : ∀ x ∈ o.op.operands, evalO tm x = evalO tm' x := fun _ hx => evalO_congr fun t e => h t (looks_of_mem (e ▸ hx))
 unfold Made at hm ⊢
 split at hm
 ·rename_i t l c ho
  rw [ho] at hx
  rw [hx l (by simp [Op.operands]), hx c (by simp [Op.operands])]
  exact hm
 ·exact hm
 ·exact hm.elim
theorem DI.step (hE : EnvOk P E) {B : Nat} {w0 : World} (hcall : CallsOk P B w0 call) (F : Facts E call base fl pol ops l tm st) (hL : Laid E base fl ops l st) {Γ0 : Ghost} {stO : St} {ds : List Deferred} (hbase : base = stO.next)
  {S : Nat -> Bool} {k : Nat} {Γ : Ghost} {a : Act} {w : World} (D : DI E base fl ops l tm st B w0 Γ0 stO ds S k Γ a w) {j : Nat} {o : Oper} (hj : ops[j]? = some o) (hSj : S j = false)
  (hr : ∀ e ∈ o.after, Region.binds .any e = true -> S e.on = true) {Q : Exit -> Act -> World -> Prop} {K : Act -> World -> Prop}
  (hK : ∀ k' Γ' a' w', DI E base fl ops l tm st B w0 Γ0 stO ds (fun m => m == j || S m) k' Γ' a' w' -> K a' w') : wpOp P ops Q j K a w := by
 have hlt : j < ops.size := (Array.getElem?_eq_some_iff.1 hj).1
 obtain ⟨e, he⟩ := F.tr j o hj
 have hnames := names_same F D.closed hj hSj hr he
 have hlooks : ∀ t ∈ o.looksAt ops, (tmS S (dsOf ops.toList l) 0 tm).get t = e.tm.get t := fun t ht => hnames t (List.mem_append_right _ ht)
 have hput := put_same F D.closed hj hSj he.at_
 have hclosed := D.closed.add F hj hr
 have hpend : ∀ i (o : Oper), ops[i]? = some o -> isPend fl o.op = true -> (i == j || S i) = false -> i ≠ j /\ S i = false := fun i o _ _ h => by
  simp only [Bool.or_eq_false_iff, beq_eq_false_iff_ne] at h; exact h
 have hwant : wantedA ops (tmS S (dsOf ops.toList l) 0 tm) o = some e.did := by rw [wanted_looks hlooks]; exact he.did
 unfold wpOp
 simp only [hj]
 rw [wanted_sound D.tmps hwant]
 cases hdid : e.did with
 | false =>
  simp only [Bool.false_eq_true, if_false]
  obtain ⟨hv, hnow⟩ := he.not hdid
  have htm : RT Γ (tmS (fun m => m == j || S m) (dsOf ops.toList l) 0 tm) (a.put o.dst undef).tmps := by
   rw [hv] at hput; exact (D.tmps.put o.dst (undef_R Γ)).same hput.symm
  cases ht : turns fl o.op with
  | false =>
   exact hK k Γ _ w ⟨hclosed, D.upto.add hj ht, D.out, htm, by rw [put_defers]; exact D.defers, D.low, fun i p hi hp hs => D.pend i p hi hp (hpend i p hi hp hs).2⟩
  | true =>
   obtain ⟨hst, hup⟩ := turn_state F D.closed D.upto hj hSj hr ht
   have hs2 : stA st l (j + 1) = stA st l k := by rw [hst, <- he.now, <- he.was]; exact hnow
   exact hK (j + 1) Γ _ w ⟨hclosed, hup, hs2 ▸ D.out, htm, by rw [put_defers]; exact D.defers, hs2 ▸ D.low, fun i p hi hp hs => hs2 ▸ D.pend i p hi hp (hpend i p hi hp hs).2⟩
 | true =>
  simp only [if_true]
  refine .inl ?_
  have hdone := he.done hdid
  rw [Nat.zero_add] at hdone
  rcases stepPre_cases hdone with ⟨t, hop, hres⟩ | ⟨hfl, hmk, v, hres, hmade⟩ | ⟨hna, hnm, hstep⟩
  ·have hpe : isPend fl o.op = true := by rw [hop]; rfl
   have ht := pend_turns hpe
   obtain ⟨p1, p2, p3⟩ := D.pend j o hj hpe hSj
   obtain ⟨ty, hty, hsz, p4⟩ := hL.alloc j o t hj hop
   obtain ⟨u, w', hrun, hinv, hru⟩ := alloc_comes hE.ty D.out.inv hty hsz (p3.trans p4) p1
   have hv : e.v = .ptr (base + j) 0 0 := congrArg Prod.fst hres
   have hex : (execOp a.eval o).run P w = .ok (.value u) w' := by
    have : execOp a.eval o = (do pure (Next.value (<- Instr.alloc t true (.tuple #[]))) : Sem Next) := by
     obtain ⟨dst, op, ty, pos, after, guard⟩ := o
     dsimp only at hop; subst hop; rfl
    rw [this]
    simp only [Sem.run_bind, hrun, Result.andThen_ok, Sem.run_pure]
   unfold Oper.wp
   rw [hex]
   have hle : Γ.Le (Γ.addObj (base + j) (w.heap.size, 0, ty.size, 1)) := Ghost.le_addObj p1
   refine hK k _ _ w' ⟨hclosed, D.upto.add hj ht, ⟨D.out.le.trans hle, hinv, ⟨D.out.keep.1, fun i hi k1 k2 => ?_⟩⟩, ?_, by rw [put_defers]; exact D.defers, D.low, fun i p hi hp hs => ?_⟩
   ·obtain ⟨x1, x2, x3⟩ := D.out.keep.2 i hi k1 k2
    refine ⟨?_, x2, x3⟩
    simp only [Ghost.addObj]
    rw [if_neg (by omega)]; exact x1
   ·rw [hv] at hput
    exact ((RT.mono hle D.tmps).put o.dst hru).same hput.symm
   ·obtain ⟨hne, hs'⟩ := hpend i p hi hp hs
    obtain ⟨y3, y4, y5⟩ := D.pend i p hi hp hs'
    refine ⟨?_, y4, y5⟩
    simp only [Ghost.addObj]
    rw [if_neg (by omega)]; exact y3
  ·have hpe : isPend fl o.op = true := by
    unfold isPend
    split
    ·rfl
    ·rw [hfl, hmk]; rfl
   have ht := pend_turns hpe
   obtain ⟨p1, p2, p3⟩ := D.pend j o hj hpe hSj
   have hok := hL.make j o e hj he.at_ hfl
   have hv : e.v = v := congrArg Prod.fst hres
   have hmade2 := Made_looks hlooks hmade
   have done : ∀ (u : Value) (w' : World) (Γ' : Ghost), (execOp a.eval o).run P w = .ok (.value u) w' -> Γ.Le Γ' -> (∀ i, i ≠ base + j -> Γ'.obj i = Γ.obj i) -> (∀ i, i ≠ base + j -> Γ'.mp i = Γ.mp i) -> Inv B w0 Γ' (stA st l k) w' -> R Γ' v u -> o.wp P a w K Q := by
    intro u w' Γ' hex hle ho hm hinv hru
    unfold Oper.wp
    rw [hex]
    refine hK k _ _ w' ⟨hclosed, D.upto.add hj ht, ⟨D.out.le.trans hle, hinv, ⟨D.out.keep.1, fun i hi k1 k2 => ?_⟩⟩, ?_, by rw [put_defers]; exact D.defers, D.low, fun i p hi hp hs => ?_⟩
    ·obtain ⟨x1, x2, x3⟩ := D.out.keep.2 i hi k1 k2
     exact ⟨(ho i (by omega)).trans x1, (hm i (by omega)).trans x2, x3⟩
    ·rw [hv] at hput
     exact ((RT.mono hle D.tmps).put o.dst hru).same hput.symm
    ·obtain ⟨hne, hs'⟩ := hpend i p hi hp hs
     obtain ⟨y3, y4, y5⟩ := D.pend i p hi hp hs'
     exact ⟨(ho _ (by omega)).trans y3, (hm _ (by omega)).trans y4, y5⟩
   unfold Made at hmade2
   split at hmade2
   ·rename_i t x y hop
    obtain ⟨u, w', Γ', hrun, hle, ho, hm, hinv, hru⟩ := slice_comes hE.ty D.out.inv hmade2 (D.tmps.eval x) (D.tmps.eval y) (fun ty b et sz n q1 q2 q3 q4 => p3.trans (makeOk_slice hok hdid hop ty b et sz _ n q1 q2 q3 (hv.trans q4))) p1
    refine done u w' Γ' ?_ hle ho (fun i _ => by rw [hm]) hinv hru
    have : execOp a.eval o = (do pure (Next.value (<- Instr.makeSlice t (a.eval x) (a.eval y))) : Sem Next) := by
     obtain ⟨dst, op, ty, pos, after, guard⟩ := o
     dsimp only at hop; subst hop; rfl
    rw [this]
    simp only [Sem.run_bind, hrun, Result.andThen_ok, Sem.run_pure]
   ·rename_i t hop
    obtain ⟨kt, et, hg⟩ := makeOk_map hok hdid hop
    obtain ⟨u, w', Γ', hrun, hle, ho, hm, hinv, hru⟩ := map_comes hE.ty D.out.inv hmade2 ⟨kt, et, p3.trans hg⟩ p2
    refine done u w' Γ' ?_ hle (fun i _ => by rw [ho]) hm hinv hru
    have : execOp a.eval o = (do pure (Next.value (<- Instr.makeMap t none)) : Sem Next) := by
     obtain ⟨dst, op, ty, pos, after, guard⟩ := o
     dsimp only at hop; subst hop; rfl
    rw [this]
    simp only [Sem.run_bind, hrun, Result.andThen_ok, Sem.run_pure]
   ·exact hmade2.elim
  ·have hal : ¬ ∃ t, o.op = .alloc t := fun ⟨t, h⟩ => hna t h
   have fin : ∀ (k' : Nat), UpTo fl ops (fun m => m == j || S m) k' -> stepOp E call (pol j) (tmS S (dsOf ops.toList l) 0 tm) (stA st l k) o = some (e.v, stA st l k') ->
     (o.wp P a w K Q) := by
    intro k' hup hs
    refine step_sound hE hcall D.out.inv D.tmps hs fun u w' Γ' o1 r1 => ?_
    refine hK k' Γ' _ w' ⟨hclosed, hup, D.out.trans o1, ?_, by rw [put_defers]; exact D.defers, Nat.le_trans D.low o1.keep.1, fun i p hi hp hs => ?_⟩
    ·exact ((RT.mono o1.le D.tmps).put o.dst r1).same hput.symm
    ·obtain ⟨hne, hs'⟩ := hpend i p hi hp hs
     obtain ⟨y3, y4, y5⟩ := D.pend i p hi hp hs'
     have hil : i < ops.size := (Array.getElem?_eq_some_iff.1 hi).1
     obtain ⟨z1, z2, z3⟩ := o1.keep.2 (base + i) (by have := D.low; omega) y3 y4
     exact ⟨z1, z2, z3.trans y5⟩
   cases ht : turns fl o.op with
   | true =>
    obtain ⟨hst, hup⟩ := turn_state F D.closed D.upto hj hSj hr ht
    refine fin (j + 1) hup ?_
    rw [step_looks hlooks, hst, <- he.now, <- he.was]
    exact hstep
   | false =>
    refine fin k (D.upto.add hj ht) ?_
    have hl : isLoud o.op = false := turns_quiet ht hna hnm
    have hq := quiet_same F D.closed D.upto hj hSj hr hl he hdid
    unfold stepOp
    rw [hl]
    simp only [Bool.false_eq_true, if_false]
    rw [quiet_looks hlooks, hq]
    rfl
end
end Go.Abs
namespace Go.Abs
open Go.RowKit
theorem count_set : ∀ (l : List Bool) (j : Nat), l[j]? = some false -> (l.set j true).count false + 1 = l.count false
 | [], j, h => by simp at h
 | b :: l, 0, h => by
  simp only [List.getElem?_cons_zero, Option.some.injEq] at h
  subst h
  simp
 | b :: l, j + 1, h => by
  have := count_set l j (by simpa using h)
  simp only [List.set_cons_succ, List.count_cons]
  omega
section
variable {P : Program} {E : Env} {call : Call1} {base : Nat} {fl : Bool} {pol : Nat -> Nat} {ops : Array Oper} {l : List Tr} {tm : TM} {st : St}
theorem all_listed (F : Facts E call base fl pol ops l tm st) {listed : Array Bool} (hs : listed.size = ops.size) (hr : Region.ready .any ops listed = []) : ∀ j, j < ops.size -> listed.getD j false = true := by
 intro j
 induction j using Nat.strongRecOn with
 | ind j ih =>
  intro hj
  cases hb : listed.getD j false with
  | true => rfl
  | false =>
   have hm : j ∈ Region.ready .any ops listed := by
    rw [mem_ready]
    refine ⟨?_, ops[j], Array.getElem?_eq_getElem hj, fun e he hb => ih e.on (F.edges j _ (Array.getElem?_eq_getElem hj) e he hb) ?_⟩
    ·rw [Array.getD_eq_getD_getElem?] at hb ⊢
     rw [Array.getElem?_eq_getElem (by omega)] at hb ⊢
     exact hb
    ·have := F.edges j _ (Array.getElem?_eq_getElem hj) e he hb
     omega
   rw [hr] at hm; cases hm
theorem draw_any (hE : EnvOk P E) {B : Nat} {w0 : World} (hcall : CallsOk P B w0 call) (F : Facts E call base fl pol ops l tm st) (hL : Laid E base fl ops l st) {Γ0 : Ghost} {stO : St} {ds : List Deferred} (hbase : base = stO.next)
  {Q : Exit -> Act -> World -> Prop}
  (hQ : ∀ Γ' a' w', Out B w0 Γ0 stO Γ' (stA st l l.length) w' -> RT Γ' (tmS (fun _ => true) (dsOf ops.toList l) 0 tm) a'.tmps -> a'.defers = ds -> Q .normal a' w') :
  ∀ (fuel : Nat) (listed : Array Bool) (k : Nat) (Γ : Ghost) (a : Act) (w : World), listed.size = ops.size -> listed.toList.count false <= fuel ->
   DI E base fl ops l tm st B w0 Γ0 stO ds (fun m => listed.getD m false) k Γ a w -> wpAny P .any ops Q fuel listed a w := by
 have done : ∀ (listed : Array Bool) (k : Nat) (Γ : Ghost) (a : Act) (w : World), listed.size = ops.size -> Region.ready .any ops listed = [] ->
   DI E base fl ops l tm st B w0 Γ0 stO ds (fun m => listed.getD m false) k Γ a w -> Q .normal a w := by
  intro listed k Γ a w hs hr D
  have hall := all_listed F hs hr
  have hst : stA st l l.length = stA st l k := by
   rw [F.len]
   have := state_same F (a := k) (ops.size - k) (by have := D.upto.1; omega) fun i o h1 h2 ho => by
    cases ht : turns fl o.op with
    | false => rfl
    | true =>
     have := (D.upto.2 i o ho ht).1 (hall i (by omega))
     omega
   rw [Nat.add_sub_cancel' D.upto.1] at this
   exact this
  refine hQ Γ a w (hst ▸ D.out) ?_ D.defers
  have : Same (tmS (fun _ => true) (dsOf ops.toList l) 0 tm) (tmS (fun m => listed.getD m false) (dsOf ops.toList l) 0 tm) := by
   refine ⟨by rw [tmS_n, tmS_n], fun t => tmS_at _ 0 tm tm rfl rfl fun j v hj => ?_⟩
   obtain ⟨o, e, h1, _, _⟩ := ds_get hj
   rw [Nat.zero_add]
   exact (hall j (Array.getElem?_eq_some_iff.1 h1).1).symm
  exact D.tmps.same this.symm
 intro fuel
 induction fuel with
 | zero =>
  intro listed k Γ a w hs hc D
  have hr : Region.ready .any ops listed = [] := by
   cases hr : Region.ready .any ops listed with
   | nil => rfl
   | cons j r =>
    have hm : j ∈ Region.ready .any ops listed := by rw [hr]; simp
    obtain ⟨h1, o, h2, _⟩ := mem_ready.1 hm
    have hlt : j < listed.size := by rw [hs]; exact (Array.getElem?_eq_some_iff.1 h2).1
    rw [Array.getD_eq_getD_getElem?, Array.getElem?_eq_getElem hlt] at h1
    have : false ∈ listed.toList := by
     have h1' : listed[j] = false := h1
     rw [<- h1']
     simp
    have := List.count_pos_iff.2 this
    omega
  exact ⟨hr, done listed k Γ a w hs hr D⟩
 | succ fuel ih =>
  intro listed k Γ a w hs hc D
  refine ⟨fun hr => done listed k Γ a w hs hr D, fun j hj => ?_⟩
  obtain ⟨h1, o, h2, h3⟩ := mem_ready.1 hj
  have hlt : j < ops.size := (Array.getElem?_eq_some_iff.1 h2).1
  have hf : listed[j]? = some false := by
   rw [Array.getD_eq_getD_getElem?, Array.getElem?_eq_getElem (by omega)] at h1
   rw [Array.getElem?_eq_getElem (by omega)]
   exact congrArg some h1
  have hfun : (fun m => m == j || listed.getD m false) = fun m => (listed.setIfInBounds j true).getD m false := by
   funext m
   simp only [Array.getD_eq_getD_getElem?, Array.getElem?_setIfInBounds]
   by_cases h : j = m
   ·subst h
    rw [if_pos rfl, if_pos (by omega)]
    simp
   ·rw [if_neg h]
    have : (m == j) = false := by simp; omega
    rw [this, Bool.false_or]
  refine D.step hE hcall F hL hbase h2 (by rw [Array.getD_eq_getD_getElem?, hf]; rfl) h3 fun k' Γ' a' w' D' => ?_
  rw [hfun] at D'
  refine ih _ k' Γ' a' w' (by simpa using hs) ?_ D'
  have := count_set listed.toList j (by simpa using hf)
  rw [Array.toList_setIfInBounds]
  omega
theorem fill_ok {base : Nat} : ∀ (r : List Oper) (l : List Tr) (i : Nat) (st : St), (fillMakes E base r l i st).next = st.next /\ (fillMakes E base r l i st).toks = st.toks /\ (fillMakes E base r l i st).tys = st.tys /\
  (∀ b, (b < base + i \/ base + i + r.length <= b) -> (fillMakes E base r l i st).get b = st.get b) /\
  (∀ (k : Nat) (o : Oper) (t : TypeId), r[k]? = some o -> o.op = .alloc t -> (fillMakes E base r l i st).get (base + (i + k)) = st.get (base + (i + k)))
 | [], l, i, st => by simp [fillMakes]
 | o :: r, [], i, st => by simp [fillMakes]
 | o :: r, e :: l, i, st => by
  have keep : ∀ st1 : St, st1.next = st.next -> st1.toks = st.toks -> st1.tys = st.tys -> (∀ b, b ≠ base + i -> st1.get b = st.get b) -> ((∀ t, o.op ≠ .alloc t) \/ st1 = st) ->
    (fillMakes E base r l (i + 1) st1).next = st.next /\ (fillMakes E base r l (i + 1) st1).toks = st.toks /\ (fillMakes E base r l (i + 1) st1).tys = st.tys /\
    (∀ b, (b < base + i \/ base + i + (o :: r).length <= b) -> (fillMakes E base r l (i + 1) st1).get b = st.get b) /\
    (∀ (k : Nat) (p : Oper) (t : TypeId), (o :: r)[k]? = some p -> p.op = .alloc t -> (fillMakes E base r l (i + 1) st1).get (base + (i + k)) = st.get (base + (i + k))) := by
   intro st1 h1 h2 h3 h4 h5
   obtain ⟨a1, a2, a3, a4, a5⟩ := fill_ok (base := base) r l (i + 1) st1
   refine ⟨a1.trans h1, a2.trans h2, a3.trans h3, fun b hb => ?_, fun k p t hk hp => ?_⟩
   ·simp only [List.length_cons] at hb
    rw [a4 b (by omega), h4 b (by omega)]
   ·cases k with
    | zero =>
     simp only [List.getElem?_cons_zero, Option.some.injEq] at hk
     subst hk
     rcases h5 with h5 | h5
     ·exact absurd hp (h5 t)
     ·subst h5
      rw [a4 _ (by omega)]
    | succ k =>
     have e1 : i + (k + 1) = i + 1 + k := by omega
     rw [e1, a5 k p t (by simpa using hk) hp, h4 _ (by omega)]
  have same := keep st rfl rfl rfl (fun _ _ => rfl) (.inr rfl)
  have put : ∀ ob : AObj, (∀ t, o.op ≠ .alloc t) -> _ := fun ob hn => keep (st.put (base + i) ob) rfl rfl rfl (fun b hb => by rw [St.get_put, if_neg (Ne.symm hb)]) (.inl hn)
  unfold fillMakes
  split
  ·rename_i t _ _ sz _ _ n ho _
   split
   ·split
    ·split
     ·exact put _ (fun t h => by rw [ho] at h; cases h)
     ·exact same
    ·exact same
   ·exact same
  ·rename_i t _ ho _
   split
   ·split
    ·exact put _ (fun t h => by rw [ho] at h; cases h)
    ·exact same
   ·exact same
  ·exact same
theorem makes_spec {base : Nat} {st : St} : ∀ (r : List Oper) (l : List Tr) (i : Nat), makesOk E base st r l i = true -> ∀ (k : Nat) (o : Oper) (e : Tr), r[k]? = some o -> l[k]? = some e -> makeOk E base st (i + k) o e = true
 | [], _, _, _, k, o, e, h, _ => by simp at h
 | _ :: _, [], _, _, k, o, e, _, h => by simp at h
 | o :: r, e :: l, i, h, k, p, q, hk, hl => by
  simp only [makesOk, Bool.and_eq_true] at h
  cases k with
  | zero =>
   simp only [List.getElem?_cons_zero, Option.some.injEq] at hk hl
   subst hk; subst hl
   exact h.1
  | succ k =>
   have := makes_spec r l (i + 1) h.2 k p q (by simpa using hk) (by simpa using hl)
   rw [show i + (k + 1) = i + 1 + k by omega]; exact this
theorem draw_sound (hE : EnvOk P E) {B : Nat} {w0 : World} (hcall : CallsOk P B w0 call) {st st' st2 : St} {Γ : Ghost} {w : World} {a : Act} {tm tm' : TM} {l : List Tr}
  (hI : Inv B w0 Γ st w) (hF : RT Γ tm a.tmps) (hs : drawStatic fl ops = true) (hn : st2.next = st.next + ops.size) (htk : st2.toks = st.toks) (hty : st2.tys = st.tys)
  (p1 : ∀ b, (b < st.next \/ st.next + ops.size <= b) -> st2.get b = st.get b)
  (p2 : ∀ (i : Nat) (o : Oper) (t : TypeId), ops[i]? = some o -> o.op = .alloc t -> ∃ ty, E.ty t = some ty /\ 0 < ty.size /\ st2.get (st.next + i) = some (.row ty.size [ty.zeroV]))
  (hr : runOpsT E call (some (st.next, fl)) pol ops ops.toList 0 tm st2 = some (l, (tm', st'))) (hd : (dynPairs fl ops).all (dynOk E ops l) = true) (hm : fl = true -> makesOk E st.next st2 ops.toList l 0 = true) {Q : Exit -> Act -> World -> Prop} {id : Nat}
  (hQ : ∀ Γ' a' w', Out B w0 Γ st Γ' st' w' -> RT Γ' tm' a'.tmps -> a'.defers = a.defers -> Q .normal a' w') : (Code.region id ops true).wp P Q a w := by
 refine wp_region_any hE.mixed ?_
 have F := Facts.mk' hs hr hd
 have hL : Laid E st.next fl ops l st2 := ⟨p2, fun i o e h1 h2 h3 => by
  have := makes_spec _ _ _ (hm h3) i o e (by simpa using h1) h2
  rwa [Nat.zero_add] at this⟩
 obtain ⟨_, h2, h3, _⟩ := runOpsT_ok _ _ _ _ hr
 have o1 := (hI.drawn (w.drawn + 1)).pre (n := ops.size) hn htk hty p1
 dsimp only at h2 h3
 refine draw_any hE hcall F hL (ds := a.defers) (Γ0 := Γ) (stO := st) rfl (fun Γ' a' w' q1 q2 q3 => hQ Γ' a' w' (by rw [h3]; exact q1) (by rw [h2]; exact q2) q3) ops.size _ 0 Γ a _ (by simp) (by simp) ?_
 have hS : (fun m => (Array.replicate ops.size false).getD m false) = fun _ => false := by
  funext m
  simp only [Array.getD_eq_getD_getElem?, Array.getElem?_replicate]
  split <;> rfl
 rw [hS]
 refine ⟨fun i j h => (by cases h), ⟨Nat.zero_le _, fun i o _ _ => by simp⟩, ?_, ?_, rfl, ?_, fun i o hi _ _ => ?_⟩
 ·rw [stA_zero]; exact o1
 ·rw [tmS_none _ _ _ fun _ _ => rfl]; exact hF
 ·rw [stA_zero, hn]; exact Nat.le_refl _
 ·rw [stA_zero]
  have hf := hI.fresh (st.next + i) (Nat.le_add_right _ _)
  exact ⟨hf.1, hf.2.1, rfl⟩
theorem region_sound (hE : EnvOk P E) {B : Nat} {w0 : World} (hcall : CallsOk P B w0 call) {st st' : St} {Γ : Ghost} {w : World} {a : Act} {tm tm' : TM} {draw : Bool} {dy : List (Nat × Nat)}
  (hI : Inv B w0 Γ st w) (hF : RT Γ tm a.tmps) (hok : draw = true -> drawStatic fl ops = true /\ dynPairs fl ops = dy) (h : execReg E call pol dy fl ops draw tm st = some (tm', st')) {Q : Exit -> Act -> World -> Prop} {id : Nat}
  (hQ : ∀ Γ' a' w', Out B w0 Γ st Γ' st' w' -> RT Γ' tm' a'.tmps -> a'.defers = a.defers -> Q .normal a' w') : (Code.region id ops draw).wp P Q a w := by
 unfold execReg at h
 cases draw with
 | false =>
  simp only [Bool.false_eq_true, if_false] at h
  exact wp_region_list (runOps_sound hE hcall _ 0 hI hF h hQ)
 | true =>
  obtain ⟨hs, hdy⟩ := hok rfl
  simp only [if_true] at h
  split at h
  ·cases h
  ·rename_i objs hp
   obtain ⟨p1, p2, _⟩ := preObjs_ok _ 0 hp
   have q1 : ∀ b, (b < st.next \/ st.next + ops.size <= b) -> ({ st with next := st.next + ops.size, objs := objs } : St).get b = st.get b := fun b hb => p1 b (by simpa using hb)
   have q2 : ∀ (i : Nat) (o : Oper) (t : TypeId), ops[i]? = some o -> o.op = .alloc t -> ∃ ty, E.ty t = some ty /\ 0 < ty.size /\ ({ st with next := st.next + ops.size, objs := objs } : St).get (st.next + i) = some (.row ty.size [ty.zeroV]) := fun i o t hi hop => by
    obtain ⟨ty, y1, y2, y3⟩ := p2 i o t (by simpa using hi) hop
    rw [Nat.zero_add] at y3
    exact ⟨ty, y1, y2, y3⟩
   cases fl with
   | true =>
    dsimp only at h
    split at h
    ·rename_i l1 _ _
     split at h
     ·rename_i l q hl
      split at h
      ·rename_i hok
       cases h
       simp only [Bool.and_eq_true] at hok
       obtain ⟨f1, f2, f3, f4, f5⟩ := fill_ok (E := E) (base := st.next) ops.toList l1 0 { st with next := st.next + ops.size, objs := objs }
       refine draw_sound hE hcall hI hF hs f1 f2 f3 (fun b hb => (f4 b (by simpa using hb)).trans (q1 b hb)) (fun i o t hi hop => ?_) hl (by rw [hdy]; exact hok.1) (fun _ => hok.2) hQ
       obtain ⟨ty, y1, y2, y3⟩ := q2 i o t hi hop
       have := f5 i o t (by simpa using hi) hop
       rw [Nat.zero_add] at this
       exact ⟨ty, y1, y2, this.trans y3⟩
      ·cases h
     ·cases h
    ·cases h
   | false =>
    dsimp only at h
    split at h
    ·obtain ⟨l, hl⟩ := runOps_trace _ _ _ _ h
     exact draw_sound (st2 := { st with next := st.next + ops.size, objs := objs }) hE hcall hI hF hs rfl rfl rfl q1 q2 hl (by rw [hdy]; rfl) (fun h => by cases h) hQ
    ·rename_i d ds
     split at h
     ·rename_i l q hl
      split at h
      ·rename_i hok
       cases h
       exact draw_sound (st2 := { st with next := st.next + ops.size, objs := objs }) hE hcall hI hF hs rfl rfl rfl q1 q2 hl (by rw [hdy]; exact hok) (fun h => by cases h) hQ
      ·cases h
     ·cases h
end
end Go.Abs
namespace Go.Abs
open Go.RowKit
theorem exists_least (p : Nat -> Prop) (h : ∃ n, p n) : ∃ n, p n /\ ∀ m, p m -> n <= m := by
 obtain ⟨n, hn⟩ := h
 induction n using Nat.strongRecOn with
 | ind n ih =>
  by_cases hm : ∃ m, m < n /\ p m
  ·obtain ⟨m, h1, h2⟩ := hm
   exact ih m h1 h2
  ·exact ⟨n, hn, fun m hp => Nat.le_of_not_lt fun hlt => hm ⟨m, hlt, hp⟩⟩
section
variable {P : Program}
theorem wp_loop_n {c : Code} {Q : Exit -> Act -> World -> Prop} (I : Nat -> Act -> World -> Prop) {n : Nat} {a : Act} {w : World} (h0 : I n a w)
  (round : ∀ n a w, I n a w -> c.wp P (Exit.then (fun a' w' => ∃ m, m < n /\ I m a' w') Q) a w) : (Code.loop c).wp P Q a w := by
 classical
 let J : Act -> World -> Prop := fun a w => ∃ n, I n a w
 let μ : Act -> World -> Nat := fun a w => if h : J a w then Classical.choose (exists_least _ h) else 0
 have hμ : ∀ a w (h : J a w), I (μ a w) a w /\ ∀ m, I m a w -> μ a w <= m := fun a w h => by
  simp only [μ, dif_pos h]
  exact Classical.choose_spec (exists_least _ h)
 refine wp_loop J μ ⟨n, h0⟩ fun a w hJ => ?_
 obtain ⟨h1, _⟩ := hμ a w hJ
 refine wp_mono (round _ a w h1) fun e a' w' he => ?_
 cases e with
 | normal =>
  obtain ⟨m, hm, hI⟩ := he
  exact ⟨⟨m, hI⟩, Nat.lt_of_le_of_lt ((hμ a' w' ⟨m, hI⟩).2 m hI) hm⟩
 | _ => exact he
def AExit.out : AExit -> Exit
 | .normal => .normal
 | .exit i => .exit i
 | .ret => .ret
theorem exec_sound {E : Env} (hE : EnvOk P E) {B : Nat} {w0 : World} {call : Call1} (hcall : CallsOk P B w0 call) {fid : Nat} : ∀ (n : Nat) (c : Code) {Γ : Ghost} {st st' : St} {w : World} {a : Act} {tm tm' : TM} {e : AExit} {Q : Exit -> Act -> World -> Prop},
  Inv B w0 Γ st w -> RT Γ tm a.tmps -> codeOk (E.dyn fid) (E.mks fid) c = true -> exec E call fid n c tm st = some (e, tm', st') ->
  (∀ Γ' a' w', Out B w0 Γ st Γ' st' w' -> RT Γ' tm' a'.tmps -> a'.defers = a.defers -> Q e.out a' w') -> c.wp P Q a w := by
 intro n
 induction n using Nat.strongRecOn with
 | ind n ih =>
  intro c Γ st st' w a tm tm' e Q hI hF hok h hQ
  cases n with
  | zero => simp [exec] at h
  | succ n =>
   cases c with
   | skip =>
    simp only [exec, Option.some.injEq, Prod.mk.injEq] at h
    obtain ⟨rfl, rfl, rfl⟩ := h
    exact wp_skip (hQ Γ a w ⟨Ghost.Le.refl Γ, hI, Keep.refl Γ st⟩ hF rfl)
   | ret =>
    simp only [exec, Option.some.injEq, Prod.mk.injEq] at h
    obtain ⟨rfl, rfl, rfl⟩ := h
    exact wp_ret (hQ Γ a w ⟨Ghost.Le.refl Γ, hI, Keep.refl Γ st⟩ hF rfl)
   | exit id =>
    simp only [exec, Option.some.injEq, Prod.mk.injEq] at h
    obtain ⟨rfl, rfl, rfl⟩ := h
    exact wp_exit (hQ Γ a w ⟨Ghost.Le.refl Γ, hI, Keep.refl Γ st⟩ hF rfl)
   | region id ops draw =>
    simp only [exec] at h
    split at h
    ·rename_i tm1 st1 hr
     simp only [Option.some.injEq, Prod.mk.injEq] at h
     obtain ⟨rfl, rfl, rfl⟩ := h
     refine region_sound hE hcall hI hF (fun hd => ?_) hr hQ
     subst hd
     simpa only [codeOk, Bool.and_eq_true, decide_eq_true_eq] using hok
    ·cases h
   | seq x y =>
    simp only [codeOk, Bool.and_eq_true] at hok
    simp only [exec] at h
    refine wp_seq ?_
    split at h
    ·rename_i tm1 st1 hx
     refine ih n (Nat.lt_succ_self n) x hI hF hok.1 hx fun Γ1 a1 w1 o1 f1 d1 => ?_
     exact ih n (Nat.lt_succ_self n) y o1.inv f1 hok.2 h fun Γ2 a2 w2 o2 f2 d2 => hQ Γ2 a2 w2 (o1.trans o2) f2 (d2.trans d1)
    ·rename_i r hr
     refine ih n (Nat.lt_succ_self n) x hI hF hok.1 h fun Γ1 a1 w1 o1 f1 d1 => ?_
     cases e with
     | normal => exact absurd h (hr _ _)
     | exit i => exact hQ Γ1 a1 w1 o1 f1 d1
     | ret => exact hQ Γ1 a1 w1 o1 f1 d1
   | cond c x y =>
    simp only [codeOk, Bool.and_eq_true] at hok
    simp only [exec] at h
    have hc := hF.eval c
    split at h
    ·rename_i hb
     rw [hb] at hc; simp only [R] at hc
     exact wp_cond_true hc (ih n (Nat.lt_succ_self n) x hI hF hok.1 h hQ)
    ·rename_i hb
     rw [hb] at hc; simp only [R] at hc
     exact wp_cond_false hc (ih n (Nat.lt_succ_self n) y hI hF hok.2 h hQ)
    ·cases h
   | block id x =>
    simp only [codeOk] at hok
    simp only [exec] at h
    refine wp_block ?_
    split at h
    ·rename_i i tm1 st1 hx
     refine ih n (Nat.lt_succ_self n) x hI hF hok hx fun Γ1 a1 w1 o1 f1 d1 => ?_
     split at h
     ·rename_i hi
      simp only [Option.some.injEq, Prod.mk.injEq] at h
      obtain ⟨rfl, rfl, rfl⟩ := h
      simp only [AExit.out, Exit.inBlock, if_pos hi]
      exact hQ Γ1 a1 w1 o1 f1 d1
     ·rename_i hi
      simp only [Option.some.injEq, Prod.mk.injEq] at h
      obtain ⟨rfl, rfl, rfl⟩ := h
      simp only [AExit.out, Exit.inBlock, if_neg hi]
      exact hQ Γ1 a1 w1 o1 f1 d1
    ·rename_i r hr
     refine ih n (Nat.lt_succ_self n) x hI hF hok h fun Γ1 a1 w1 o1 f1 d1 => ?_
     cases e with
     | normal => exact hQ Γ1 a1 w1 o1 f1 d1
     | exit i => exact absurd h (hr _ _ _)
     | ret => exact hQ Γ1 a1 w1 o1 f1 d1
   | loop x =>
    simp only [codeOk] at hok
    refine wp_loop_n (fun m a1 w1 => m <= n + 1 /\ ∃ Γ1 st1 tm1, Out B w0 Γ st Γ1 st1 w1 /\ RT Γ1 tm1 a1.tmps /\ a1.defers = a.defers /\ exec E call fid m (.loop x) tm1 st1 = some (e, tm', st'))
     (n := n + 1) ⟨Nat.le_refl _, Γ, st, tm, ⟨Ghost.Le.refl Γ, hI, Keep.refl Γ st⟩, hF, rfl, h⟩ ?_
    rintro m a1 w1 ⟨hm, Γ1, st1, tm1, o1, f1, d1, hx⟩
    cases m with
    | zero => simp [exec] at hx
    | succ m =>
     simp only [exec] at hx
     split at hx
     ·rename_i tm2 st2 h2
      refine ih m (by omega) x o1.inv f1 hok h2 fun Γ2 a2 w2 o2 f2 d2 => ?_
      exact ⟨m, Nat.lt_succ_self m, by omega, Γ2, st2, tm2, o1.trans o2, f2, d2.trans d1, hx⟩
     ·rename_i r hr
      refine ih m (by omega) x o1.inv f1 hok hx fun Γ2 a2 w2 o2 f2 d2 => ?_
      cases e with
      | normal => exact absurd hx (hr _ _)
      | exit i => exact hQ Γ2 a2 w2 (o1.trans o2) f2 (d2.trans d1)
      | ret => exact hQ Γ2 a2 w2 (o1.trans o2) f2 (d2.trans d1)
   | _ => simp [exec] at h
theorem resA_sound {E : Env} (hE : EnvOk P E) {B : Nat} {w0 w : World} {Γ : Ghost} {st : St} (hI : Inv B w0 Γ st w) {tm : TM} {vs : Array Value} (hF : RT Γ tm vs) {r : ResultVar} {x : AV}
  (h : resA E tm st r = some x) : ∃ u, ((match r with | .tmp t => pure (vs.getD t undef) | .cell a t => (do loadVar t (<- asAddr (vs.getD a undef))) : Sem Value)).run P w = .ok u w /\ R Γ x u := by
 have hev : ∀ t, R Γ (tm.get t) (vs.getD t undef) := hF.get
 cases r with
 | tmp t =>
  simp only [resA, Option.some.injEq] at h
  subst h
  exact ⟨_, rfl, hev t⟩
 | cell a t =>
  simp only [resA] at h
  split at h
  ·rename_i cs hc
   obtain ⟨u, hu, hr⟩ := load_sound hE.ty hI hc h (hev a)
   obtain ⟨b, o, ws, he, _⟩ := loadCells_sound hI hc (hev a)
   rw [he] at hu
   refine ⟨u, ?_, hr⟩
   simp only [Instr.loadAt, Instr.sureAddr, Sem.run_bind, Sem.run_pure, Result.andThen_ok] at hu
   show Sem.run P (do loadVar t (<- asAddr (vs.getD a undef))) w = _
   rw [he]
   simp only [asAddr, Sem.run_bind, Sem.run_pure, Result.andThen_ok]
   exact hu
  ·cases h
theorem run_mapM_list {α : Type} {f : α -> Sem Value} {w : World} {Γ : Ghost} {g : α -> Option AV} (hf : ∀ x y, g x = some y -> ∃ u, (f x).run P w = .ok u w /\ R Γ y u) :
  ∀ (l : List α) (ys : List AV), l.mapM g = some ys -> ∃ us, (l.mapM f).run P w = .ok us w /\ RL Γ ys us
 | [], ys, h => by
  simp only [List.mapM_nil, Option.pure_def, Option.some.injEq] at h
  subst h
  exact ⟨[], by simp, RL.nil Γ⟩
 | x :: l, ys, h => by
  simp only [List.mapM_cons, Option.bind_eq_bind, Option.bind_eq_some_iff, Option.pure_def, Option.some.injEq] at h
  obtain ⟨y, h1, ys', h2, rfl⟩ := h
  obtain ⟨u, hu, hr⟩ := hf x y h1
  obtain ⟨us, hus, hrs⟩ := run_mapM_list hf l ys' h2
  refine ⟨u :: us, ?_, RL.cons hr hrs⟩
  simp only [List.mapM_cons, Sem.run_bind, hu, hus, Result.andThen_ok, Sem.run_pure]
theorem resL_mapM {E : Env} {tm : TM} {st : St} : ∀ (rs : List ResultVar), resL E tm st rs = rs.mapM (resA E tm st)
 | [] => rfl
 | r :: rs => by
  simp only [resL, List.mapM_cons, resL_mapM rs, Option.bind_eq_bind, Option.pure_def]
  cases resA E tm st r with
  | none => rfl
  | some v => cases List.mapM (resA E tm st) rs <;> rfl
theorem results_sound {E : Env} (hE : EnvOk P E) {B : Nat} {w0 w : World} {Γ : Ghost} {st : St} (hI : Inv B w0 Γ st w) {tm : TM} {vs : Array Value} (hF : RT Γ tm vs) {fn : Func} {x : AV}
  (h : resultsA E fn.results.toList tm st = some x) : ∃ u, (results fn vs).run P w = .ok u w /\ R Γ x u := by
 unfold resultsA at h
 have key : ∀ ys, resL E tm st fn.results.toList = some ys -> ∃ us : List Value, (results fn vs).run P w = .ok (if h : us.toArray.size = 1 then us.toArray[0] else .tuple us.toArray) w /\ RL Γ ys us := by
  intro ys hy
  rw [resL_mapM] at hy
  obtain ⟨us, h1, h2⟩ := run_mapM_list (fun r y hr => resA_sound hE hI hF hr) _ _ hy
  refine ⟨us, ?_, h2⟩
  unfold results
  rw [Array.mapM_eq_mapM_toList]
  simp only [Sem.run_bind, Sem.run_map, Sem.run_pure]
  exact congrArg (fun r : Result (List Value) => (r.andThen fun a w' => Result.ok a.toArray w').andThen fun a w' => Result.ok (if h : a.size = 1 then a[0] else Value.tuple a) w') h1
 split at h
 ·rename_i v hv
  cases h
  obtain ⟨us, h1, h2⟩ := key _ hv
  obtain ⟨u, r, rfl, h3, h4⟩ := h2.of_cons
  rw [h4.of_nil] at h1
  exact ⟨u, by simpa using h1, h3⟩
 ·rename_i ys hne hv
  cases h
  obtain ⟨us, h1, h2⟩ := key _ hv
  have hl : us.toArray.size ≠ 1 := by
   intro hl
   have := h2.length
   simp only [List.size_toArray] at hl
   match ys, this, hne with
   | [y], _, hne => exact hne y rfl
   | [], h, _ => simp only [List.length_nil] at h; omega
   | _ :: _ :: _, h, _ => simp only [List.length_cons] at h; omega
  rw [dif_neg hl] at h1
  exact ⟨_, h1, by simp only [R]; exact ⟨us.toArray, rfl, h2⟩⟩
 ·cases h
def PrimOk (P : Program) (E : Env) (B : Nat) (w0 : World) : Prop :=
 ∀ f g args st r st', E.prim f = some g -> g args st = some (r, st') -> (∀ (w : World) (vargs : Array Value), (callFunc f vargs).run P w = .ok (.enter f vargs) w) /\
  ∀ Γ w (vargs : Array Value), Inv B w0 Γ st w -> RL Γ args vargs.toList ->
   Calls P f vargs w fun e w' => ∃ v Γ', e = .returned v /\ Out B w0 Γ st Γ' st' w' /\ R Γ' r v
theorem enters {f : FuncId} {fn : Func} {c : Code} (hf : P.funcs[f]? = some fn) (hb : fn.body = some c) (hn : (fn.name == "runtime.NumGoroutine") = false) (w : World) (vargs : Array Value) :
  (callFunc f vargs).run P w = .ok (.enter f vargs) w := by
 have h0 : Sem.run P program w = .ok P w := rfl
 unfold callFunc
 simp only [Sem.run_bind, h0, Result.andThen_ok, hf, hn, hb, Option.isNone_some, Bool.false_eq_true, if_false, Sem.run_pure]
theorem callF_sound {E : Env} (hE : EnvOk P E) {B : Nat} {w0 : World} (hp : PrimOk P E B w0) : ∀ n, CallsOk P B w0 (callF E n)
 | 0 => fun f args st r st' h => by simp [callF] at h
 | n + 1 => fun f args st r st' h => by
  simp only [callF] at h
  split at h
  ·rename_i g hg
   exact hp f g args st r st' hg h
  ·split at h
   ·cases h
   ·rename_i fi hfi
    obtain ⟨fn, h1, h2, h3, h4, h5⟩ := hE.fns f fi hfi
    refine ⟨enters h1 h2 h5, fun Γ w vargs hI hargs => calls_of_wp h1 h2 ?_⟩
    have hF : RT Γ (TM.of args fi.ntmps) (vargs ++ Array.replicate (fn.ntmps - vargs.size) undef) := by
     rw [h3]; exact RT.of hargs _
    have fin : ∀ tm1 st1, (resultsA E fi.results tm1 st1).map (fun v => (v, st1)) = some (r, st') -> ∀ Γ' (a' : Act) w', Out B w0 Γ st Γ' st1 w' -> RT Γ' tm1 a'.tmps -> a'.defers = [] ->
      a'.defers = [] /\ ∃ v, (results fn a'.tmps).run P w' = .ok v w' /\ ∃ u Γ', Ending.returned v = .returned u /\ Out B w0 Γ st Γ' st' w' /\ R Γ' r u := by
     intro tm1 st1 hres Γ' a' w' o1 f1 d1
     simp only [Option.map_eq_some_iff, Prod.mk.injEq] at hres
     obtain ⟨v, hv, rfl, rfl⟩ := hres
     rw [<- h4] at hv
     obtain ⟨u, hu, hr⟩ := results_sound hE o1.inv f1 hv
     exact ⟨d1, u, hu, u, Γ', rfl, o1, hr⟩
    split at h
    ·rename_i tm1 st1 hx
     exact exec_sound hE (callF_sound hE hp n) n _ hI hF (hE.static f fi hfi) hx fun Γ' a' w' o1 f1 d1 => fin tm1 st1 h Γ' a' w' o1 f1 d1
    ·rename_i tm1 st1 hx
     exact exec_sound hE (callF_sound hE hp n) n _ hI hF (hE.static f fi hfi) hx fun Γ' a' w' o1 f1 d1 => fin tm1 st1 h Γ' a' w' o1 f1 d1
    ·cases h
end
end Go.Abs
namespace Go.Abs
inductive Tree (α : Type) where
 | leaf
 | node (k : Nat) (v : α) (l r : Tree α)
def Tree.find {α : Type} : Tree α -> Nat -> Option α
 | .leaf, _ => none
 | .node k v l r, x => bif Nat.blt x k then l.find x else bif Nat.blt k x then r.find x else some v
def Tree.All {α : Type} (p : Nat -> α -> Prop) : Tree α -> Prop
 | .leaf => True
 | .node k v l r => p k v /\ l.All p /\ r.All p
theorem Tree.find_all {α : Type} {p : Nat -> α -> Prop} : ∀ {t : Tree α}, t.All p -> ∀ {x : Nat} {v : α}, t.find x = some v -> p x v
 | .leaf, _, _, _, h => by simp [Tree.find] at h
 | .node k u l r, ha, x, v, h => by
  obtain ⟨h1, h2, h3⟩ := ha
  simp only [Tree.find] at h
  cases h4 : Nat.blt x k with
  | true => rw [h4] at h; exact Tree.find_all h2 h
  | false =>
   rw [h4] at h
   simp only [cond_false] at h
   cases h5 : Nat.blt k x with
   | true => rw [h5] at h; exact Tree.find_all h3 h
   | false =>
    rw [h5] at h
    simp only [cond_false, Option.some.injEq] at h
    subst h
    have a1 : ¬ x < k := fun k' => by
     have h := Eq.mpr Nat.blt_eq k'
     rw [h4] at h; cases h
    have a2 : ¬ k < x := fun k' => by
     have h := Eq.mpr Nat.blt_eq k'
     rw [h5] at h; cases h
    have : x = k := by omega
    subst this; exact h1
def fi (fn : Func) : FnI := ⟨fn.body.getD .skip, fn.ntmps, fn.results.toList⟩
structure FnOk (P : Program) (dy : Nat -> Nat -> List (Nat × Nat)) (f : Nat) (i : FnI) (mk : Nat -> Bool := fun _ => false) : Prop where
 ex : ∃ fn, P.funcs[f]? = some fn /\ fn.body = some i.code /\ fn.ntmps = i.ntmps /\ fn.results.toList = i.results /\ (fn.name == "runtime.NumGoroutine") = false
 static : codeOk (dy f) mk i.code = true
theorem EnvOk.of_trees {P : Program} {E : Env} {ts : Tree Ty} {fs : Tree FnI} (h1 : E.ty = ts.find) (h2 : E.fns = fs.find) (a1 : ts.All (TyOk P)) (a2 : fs.All fun f i => FnOk P E.dyn f i (E.mks f)) (hm : P.follows .mixedOrders = true) : EnvOk P E :=
 ⟨fun t y h => Tree.find_all a1 (by rw [<- h1]; exact h), fun f i h => (Tree.find_all a2 (by rw [<- h2]; exact h)).ex, hm, fun f i h => (Tree.find_all a2 (by rw [<- h2]; exact h)).static⟩
def polOf : List (Nat × Nat × Nat × Nat) -> Nat -> Nat -> Nat -> Nat
 | [], _, _, _ => 2
 | (f, r, i, p) :: l, f', r', i' => bif Nat.beq f f' && Nat.beq r r' && Nat.beq i i' then p else polOf l f' r' i'
def dynOf : List (Nat × Nat × List (Nat × Nat)) -> Nat -> Nat -> List (Nat × Nat)
 | [], _, _ => []
 | (f, r, p) :: l, f', r' => bif Nat.beq f f' && Nat.beq r r' then p else dynOf l f' r'
def mkOf : List (Nat × Nat) -> Nat -> Nat -> Bool
 | [], _, _ => false
 | (f, r) :: l, f', r' => bif Nat.beq f f' && Nat.beq r r' then true else mkOf l f' r'
end Go.Abs
