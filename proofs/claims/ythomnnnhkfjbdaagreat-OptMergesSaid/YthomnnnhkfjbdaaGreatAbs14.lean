/- Own text of this claim: part 14 of an interpreter that is proved sound against the model, and of what it shows of the law. -/
import Derived.Test.YthomnnnhkfjbdaaGreatAbs13
import Derived.Test.YthomnnnhkfjbdaaGreatAbs10
import Derived.Test.YthomnnnhkfjbdaaGreatAbs9
namespace Go.OptEnv
open Go Go.Proofs Go.Abs Go.RowKit Go.NetM
set_option maxRecDepth 10000
def itL (gs : List (Int × Int)) (nins : Nat) (next : List Int) (c0 : List Nat) : Nat → List Nat
  | 0 => c0
  | k + 1 => finerL gs nins next (itL gs nins next c0 k)
theorem reach_it {gs : List (Int × Int)} {nins : Nat} {next : List Int} {inits : List UInt8} {c : List Nat} (h : NetM.Reach gs nins next inits c) : ∃ k, c = itL gs nins next (class0 inits) k := by
  induction h with
  | zero => exact ⟨0, rfl⟩
  | succ _ ih =>
    obtain ⟨k, e⟩ := ih
    exact ⟨k + 1, by rw [e]; rfl⟩
theorem it_fix {gs : List (Int × Int)} {nins : Nat} {next : List Int} {c0 : List Nat} {k : Nat} (h : finerL gs nins next (itL gs nins next c0 k) = itL gs nins next c0 k) : ∀ d, itL gs nins next c0 (k + d) = itL gs nins next c0 k
  | 0 => rfl
  | d + 1 => by
    show finerL gs nins next (itL gs nins next c0 (k + d)) = _
    rw [it_fix h d, h]
theorem reach_uniq {gs : List (Int × Int)} {nins : Nat} {next : List Int} {inits : List UInt8} {c c' : List Nat} (h : NetM.Reach gs nins next inits c) (h' : NetM.Reach gs nins next inits c') (hf : finerL gs nins next c = c) (hf' : finerL gs nins next c' = c') : c = c' := by
  obtain ⟨k, rfl⟩ := reach_it h
  obtain ⟨k', rfl⟩ := reach_it h'
  rcases Nat.le_total k k' with e | e
  · obtain ⟨d, rfl⟩ := Nat.exists_eq_add_of_le e
    exact (it_fix hf d).symm
  · obtain ⟨d, rfl⟩ := Nat.exists_eq_add_of_le e
    exact it_fix hf' d
open Classical in
noncomputable def twinsN (n : GNet) : List Nat := if h : ∃ c, Rel27 n c then Classical.choose h else []
theorem twins_eq {n : GNet} {c : List Nat} (h : Rel27 n c) : twinsN n = c := by
  have he : ∃ c, Rel27 n c := ⟨c, h⟩
  unfold twinsN
  rw [dif_pos he]
  have := Classical.choose_spec he
  exact reach_uniq this.1 h.1 this.2 h.2
def LeastI (P : Nat → Prop) (i k l : Nat) : Prop := k ≤ l ∧ l ≤ i ∧ (l = i ∨ P l) ∧ ∀ j, k ≤ j → j < l → ¬ P j
theorem least_start {P : Nat → Prop} (i : Nat) : LeastI P i i i := ⟨Nat.le_refl _, Nat.le_refl _, .inl rfl, fun _ h1 h2 => absurd h1 (by omega)⟩
theorem least_yes {P : Nat → Prop} {i k l : Nat} (h : LeastI P i (k + 1) l) (hp : P k) : LeastI P i k k := by
  obtain ⟨a, b, _, _⟩ := h
  exact ⟨Nat.le_refl _, by omega, .inr hp, fun _ h1 h2 => absurd h1 (by omega)⟩
theorem least_no {P : Nat → Prop} {i k l : Nat} (h : LeastI P i (k + 1) l) (hp : ¬ P k) : LeastI P i k l := by
  obtain ⟨a, b, c, d⟩ := h
  refine ⟨by omega, b, c, fun j h1 h2 => ?_⟩
  by_cases e : j = k
  · rw [e]; exact hp
  · exact d j (by omega) h2
theorem least_idx {α : Type} [BEq α] [LawfulBEq α] {keys : List α} {i l : Nat} (hi : i < keys.length) (h : LeastI (fun j => keys[j]? = keys[i]?) i 0 l) : l = keys.idxOf keys[i] := by
  obtain ⟨_, b, c, d⟩ := h
  have hl : keys[l]? = some keys[i] := by
    rw [← List.getElem?_eq_getElem hi]
    rcases c with e | e
    · rw [e]
    · exact e
  refine (idxOf_mem hl fun hm => ?_).symm
  obtain ⟨j, hj, e⟩ := List.mem_iff_getElem.1 hm
  rw [List.length_take] at hj
  rw [List.getElem_take] at e
  refine d j (Nat.zero_le _) (by omega) ?_
  show keys[j]? = keys[i]?
  rw [List.getElem?_eq_getElem (by omega), List.getElem?_eq_getElem hi, e]
def InitP (inits : List UInt8) (i j : Nat) : Prop := inits.getD i 0 ≠ 2 ∧ inits.getD j 0 = inits.getD i 0
theorem least_class0 {inits : List UInt8} {i l : Nat} (hi : i < inits.length) (h : LeastI (InitP inits i) i 0 l) : l = (class0 inits).getD i 0 := by
  rw [class0_get hi]
  by_cases e : inits.getD i 0 = 2
  · rw [if_pos e]
    rcases h.2.2.1 with h | h
    · exact h
    · exact absurd e h.1
  · rw [if_neg e]
    have hg : ∀ j, j ≤ i → inits.getD j 0 = inits[j]?.getD 0 := fun j _ => List.getD_eq_getElem?_getD
    have hk : ∀ j, j ≤ i → (InitP inits i j ↔ inits[j]? = inits[i]?) := fun j hj => by
      unfold InitP
      rw [List.getElem?_eq_getElem hi, List.getElem?_eq_getElem (show j < inits.length by omega), getD_get (show j < inits.length by omega), getD_get hi]
      rw [getD_get hi] at e
      exact ⟨fun h => congrArg some h.2, fun h => ⟨e, Option.some.inj h⟩⟩
    have : LeastI (fun j => inits[j]? = inits[i]?) i 0 l := by
      obtain ⟨a, b, c, d⟩ := h
      exact ⟨a, b, c.imp id (hk l b).1, fun j h1 h2 hp => d j h1 h2 ((hk j (by omega)).2 hp)⟩
    rw [least_idx hi this, getD_get hi]
theorem take_eq_succ {a b : List Nat} {i : Nat} (ha : i < a.length) (hb : i < b.length) : a.take (i + 1) = b.take (i + 1) ↔ a.take i = b.take i ∧ a[i] = b[i] := by
  rw [List.take_succ_eq_append_getElem ha, List.take_succ_eq_append_getElem hb]
  constructor
  · intro h
    have := List.append_inj h (by rw [List.length_take, List.length_take]; omega)
    exact ⟨this.1, by simpa using this.2⟩
  · rintro ⟨h1, h2⟩; rw [h1, h2]
theorem keys_at {n : GNet} {c : List Nat} (hcl : c.length = n.regs.xs.length) {i j : Nat} (hi : i < c.length) (hj : j < c.length) : (keysL n.gates.xs n.ins.xs.length n.nexts c)[j]? = (keysL n.gates.xs n.ins.xs.length n.nexts c)[i]? ↔ c[j] = c[i] ∧ (sharedL n c)[j]'(by rw [sharedL_len]; omega) = (sharedL n c)[i]'(by rw [sharedL_len]; omega) := by
  have hnl : n.nexts.length = n.regs.xs.length := by simp [GNet.nexts]
  have hk := keysL_len (gs := n.gates.xs) (nins := n.ins.xs.length) (next := n.nexts) (c := c) (by omega)
  have hc : ∀ {k}, (h : k < c.length) → c.getD k 0 = c[k] := fun {k} h => by rw [List.getD_eq_getElem?_getD, List.getElem?_eq_getElem h]; rfl
  have hs : ∀ {k}, (h : k < c.length) → atL (madeL n.gates.xs n.ins.xs.length c) (n.nexts.getD k 0) = (sharedL n c)[k]'(by rw [sharedL_len]; omega) := fun {k} h => by
    unfold sharedL
    rw [List.getElem_map, List.getD_eq_getElem?_getD, List.getElem?_eq_getElem (by omega)]; rfl
  rw [List.getElem?_eq_getElem (by omega), List.getElem?_eq_getElem (by omega), keysL_get (by omega) hj, keysL_get (by omega) hi, hc hi, hc hj, hs hi, hs hj]
  simp only [Option.some.injEq, Prod.mk.injEq]
noncomputable def twinsAV (n : GNet) : AV := if validM n = true then .tup [(GSl.of (twinsN n)).av 1 natAV, .int .i64 0] else .tup [.nilsl, .int .i64 2]
theorem twinsAV_yes {n : GNet} (h : validM n = true) : twinsAV n = .tup [(GSl.of (twinsN n)).av 1 natAV, .int .i64 0] := by unfold twinsAV; rw [if_pos h]
theorem twinsAV_no {n : GNet} (h : validM n = false) : twinsAV n = .tup [.nilsl, .int .i64 2] := by unfold twinsAV; rw [if_neg (by rw [h]; simp)]
def Rel28 : Rel := RelF FitsN (fun n => [netAV n]) twinsAV
attribute [local irreducible] WS QS OS OD Abs.Sub SubO SubK CW GSl.av accA growA
section
variable {pr : Prims} {L : List (Nat × AObj)} {K : List (Nat × Bool)} {st : St}
set_option maxHeartbeats 4000000 in
theorem run28 (h1 : pr 28 = none) (h31 : Has pr 31 Rel31) (h69 : Has pr 69 Rel69) (n : GNet) (hn : FitsN n) (st : St) :
    CW (En pr) 28 [netAV n] st fun r _ => AV.free r = true ∧ AV.plain r = twinsAV n := by
  have u31 := use31 h31 hn
  rcases (Bool.eq_false_or_eq_true (validM n)).symm with hV | hV
  · rw [hV] at u31
    refine CW.start (N := 106) h1 rfl rfl ?_
    repeat' (first | (refine OS.do rfl ?_; first | refine OD.box rfl rfl rfl rfl (net_ok _) rfl (fun b1 => ?_) | refine OD.loadP 0 rfl rfl rfl rfl rfl rfl ?_ | refine OD.auto rfl rfl ?_ | refine OD.call rfl rfl rfl h31.eq u31 (fun _ => rfl) ?_) | refine OS.nil ?_ | refine WS.seq ?_ | refine QS.seqN ?_ | refine WS.region ?_ | refine WS.condT rfl ?_ | refine WS.ret ?_ | refine QS.seqR ?_)
    exact QS.retR (by rfl) fun _ => ⟨rfl, by rw [twinsAV_no hV]; rfl⟩
  rw [hV] at u31
  obtain ⟨f1, f2, f3, f4⟩ := valid_len hV
  have hil : n.inits.length = n.regs.xs.length := ini_len n
  have hc0 : (class0 n.inits).length = n.regs.xs.length := by rw [class0_len, ini_len]
  refine CW.start (N := 106) h1 rfl rfl ?_
  refine WS.newK ?_
  repeat' (first | (refine OS.do rfl ?_; first | refine OD.box rfl rfl rfl rfl (net_ok _) rfl (fun b1 => ?_) | refine OD.loadP 0 rfl rfl rfl rfl rfl rfl ?_ | refine OD.auto rfl rfl ?_ | refine OD.len rfl rfl (fun _ => lenTy_av rfl rfl) ?_ | refine OD.call rfl rfl rfl h31.eq u31 (fun _ => rfl) ?_) | refine OS.nil ?_ | refine WS.seq ?_ | refine QS.seqN ?_ | refine WS.region ?_ | refine WS.condF rfl ?_ | refine WS.skip ?_ | refine WS.block ?_)
  refine WS.rangeX (A := Nat × List Nat) (n := n.regs.xs.length) ⟨21, _, fun a => [(4, accA a.1 1 (a.2.map natAV))], fun _ => [(b1, .row 4 [netAV n])], fun a => [(a.1, !a.2.isEmpty)], fun i a => a.2 = (class0 n.inits).take i⟩ ((0, [])) [1, 19, 20] (rfl) ?_ ?_ (hm := by (try dsimp only); repeat' (first | exact Sub.nil _ | refine Sub.cons (congrArg some (accA_nil2 _ _).symm) ?_ | refine Sub.cons (congrArg (fun z => some (AV.int .i64 z)) (wrap_succ (by omega))) ?_ | refine Sub.cons rfl ?_))
  · rintro i ⟨t, C⟩ hi hC
    try dsimp only at hC
    have hCl : C.length = i := by rw [hC, List.length_take]; omega
    have hwi : IntKind.i64.wrap ((i : Int) - 1) = (i : Int) - 1 := wrap64 (by omega) (by omega)
    dsimp only [RSt.at, List.cons_append, List.nil_append]
    repeat' (first | (refine OS.do rfl ?_; first | refine OD.auto rfl rfl ?_ | refine OD.indexAddr rfl rfl rfl (indexAddrA_nat rfl rfl rfl rfl (by first | assumption | exact List.getElem?_eq_getElem (by omega))) ?_ | refine OD.alloc rfl rfl rfl rfl (fun _ => ?_) | refine OD.storeW 0 rfl rfl rfl rfl (by first | rfl | exact net_ok _) rfl rfl rfl ?_) | refine OS.nil ?_ | refine WS.seq ?_ | refine QS.seqN ?_ | refine WS.region ?_ | refine WS.block ?_)
    rename_i rb
    refine WS.loopX (D := Nat × Nat) [1, 4, 6, 19, 20, 21] (fun d => [(8, .int .i64 ((d.1 : Int) - 1)), (7, .int .i64 (d.2 : Int))]) (fun _ => [(rb, .row 3 [regAV n.regs.xs[i]]), (b1, .row 4 [netAV n])]) (fun _ => [(t, !C.isEmpty)]) (fun d => LeastI (InitP n.inits i) i d.1 d.2) (fun d => d.1) ((i, i)) (least_start i) ?_ (hm := by (try dsimp only); repeat' (first | exact Sub.nil _ | refine Sub.cons (congrArg (fun z => some (AV.int .i64 z)) hwi) ?_ | refine Sub.cons (congrArg (fun z => some (AV.int .i64 z)) (wrap_succ (by omega))) ?_ | refine Sub.cons rfl ?_))
    rintro ⟨k, l⟩ hL
    try dsimp only at hL
    rcases k with _ | k
    · have hl := least_class0 (by omega) hL
      have hgm : C.map natAV ++ [.int .i64 (l : Int)] = (C ++ [l]).map natAV := by rw [List.map_append]; rfl
      dsimp only [RSt.at, List.cons_append, List.nil_append]
      repeat' (first | (refine OS.do rfl ?_; first | refine OD.auto rfl rfl ?_ | refine OD.append 0 (xs := C.map natAV) (ys := [.int .i64 (l : Int)]) rfl rfl rfl rfl (by rw [List.isEmpty_map]; rfl) rfl rfl rfl rfl rfl rfl (.inr ⟨⟨_, rfl⟩, rfl⟩) (fun _ => rfl) rfl rfl (roomB rfl (by simp only [List.length_map, List.length_singleton]; omega)) (fun t' => ?_)) | refine OS.nil ?_ | refine WS.seq ?_ | refine QS.seqN ?_ | refine WS.region ?_ | refine WS.condF rfl ?_ | refine WS.exit ?_ | refine QS.seqE ?_ | refine QS.blockH ?_ | refine QS.loopE ?_)
      rw [hgm, List.isEmpty_map]
      exact QS.rangeX ((t', C ++ [l])) (by (try dsimp only) <;> exact (by rw [hC, List.take_succ_eq_append_getElem (by omega), hl, List.getD_eq_getElem?_getD, List.getElem?_eq_getElem (by omega)]; rfl)) (hL := by (try dsimp only); exact SubO.drop (SubO.refl _))
    · have e9 : ((k + 1 : Nat) : Int) - 1 = (k : Int) := by omega
      have hki : k < i := by have := hL.1; have := hL.2.1; omega
      have hxk : n.regs.xs[k]? = some n.regs.xs[k] := List.getElem?_eq_getElem (by omega)
      have hwk : IntKind.i64.wrap ((k : Int) - 1) = (k : Int) - 1 := wrap64 (by omega) (by omega)
      have gi : n.inits.getD i 0 = n.regs.xs[i].init := by rw [getD_get (by omega)]; simp [GNet.inits]
      have gk : n.inits.getD k 0 = n.regs.xs[k].init := by rw [getD_get (by omega)]; simp [GNet.inits]
      dsimp only [RSt.at, List.cons_append, List.nil_append]
      rw [e9]
      repeat' (first | (refine OS.do rfl ?_; first | refine OD.indexAddr rfl rfl rfl (indexAddrA_nat rfl rfl rfl rfl hxk) ?_ | refine OD.loadP 0 rfl rfl rfl rfl rfl rfl ?_ | refine OD.auto rfl rfl ?_ | refine OD.loadP 1 rfl rfl rfl rfl rfl rfl ?_) | refine OS.nil ?_ | refine OS.skip rfl rfl rfl ?_ | refine WS.seq ?_ | refine QS.seqN ?_ | refine WS.region ?_ | refine WS.condT rfl ?_ | refine WS.condF rfl ?_ | refine WS.condE rfl (fun _ => ?_) (fun _ => ?_) | refine WS.skip ?_ | refine WS.block ?_ | refine QS.blockN ?_ | refine WS.draw rfl rfl ?_ | ((fail_if_success (refine OS.do rfl ?_)); first | refine OS.splitNe rfl rfl rfl (fun _ => ?_) (fun _ => ?_)))
      · rename_i h2 he
        exact QS.loopX ((k, k)) (by exact (least_yes hL ⟨by rw [gi]; exact b8_ne h2, by rw [gi, gk]; exact b8_eq he⟩)) (by exact (by dsimp only; omega)) (hl := by (try dsimp only [List.cons_append, List.nil_append]); repeat' (first | exact Sub.nil _ | refine Sub.cons (congrArg (fun z => some (AV.int .i64 z)) hwk) ?_ | refine Sub.cons (congrArg (fun z => some (AV.int .i64 z)) (wrap_succ (by omega))) ?_ | refine Sub.cons rfl ?_))
      · rename_i h2 he
        exact QS.loopX ((k, l)) (by exact (least_no hL (fun hp => he (by have hp : InitP n.inits i k := hp; have := hp.2; rw [gi, gk] at this; rw [this])))) (by exact (by dsimp only; omega)) (hl := by (try dsimp only [List.cons_append, List.nil_append]); repeat' (first | exact Sub.nil _ | refine Sub.cons (congrArg (fun z => some (AV.int .i64 z)) hwk) ?_ | refine Sub.cons (congrArg (fun z => some (AV.int .i64 z)) (wrap_succ (by omega))) ?_ | refine Sub.cons rfl ?_))
      · rename_i h2
        exact QS.loopX ((k, l)) (by exact (least_no hL (fun hp => hp.1 (by rw [gi]; exact b8_eq h2)))) (by exact (by dsimp only; omega)) (hl := by (try dsimp only [List.cons_append, List.nil_append]); repeat' (first | exact Sub.nil _ | refine Sub.cons (congrArg (fun z => some (AV.int .i64 z)) hwk) ?_ | refine Sub.cons (congrArg (fun z => some (AV.int .i64 z)) (wrap_succ (by omega))) ?_ | refine Sub.cons rfl ?_))
  rintro ⟨t, C⟩ hC
  try dsimp only at hC
  rw [List.take_of_length_le (by omega)] at hC
  subst hC
  dsimp only [RSt.at, List.cons_append, List.nil_append]
  repeat' (first | refine QS.seqN ?_ | refine WS.block ?_)
  refine WS.loopX (D := Nat × List Nat) [1] (fun d => [(4, accA d.1 1 (d.2.map natAV))]) (fun _ => [(b1, .row 4 [netAV n])]) (fun _ => []) (fun d => NetM.Reach n.gates.xs n.ins.xs.length n.nexts n.inits d.2) (fun d => n.regs.xs.length - fixN d.2) ((t, class0 n.inits)) (.zero) ?_
  rintro ⟨t, c⟩ hR
  try dsimp only at hR
  have hC := hR.class (by simp [GNet.inits, GNet.nexts])
  have hcl : c.length = n.regs.xs.length := by rw [hC.len, ini_len]
  have hSl : (sharedL n c).length = n.regs.xs.length := sharedL_len n c
  have u69 : ∀ st, primOf Rel69 [netAV n, accA t 1 (c.map natAV)] st = some ((GSl.of (sharedL n c)).av 1 intAV, st) := fun st => by
    have := h69.use (args := [netAV n, accA t 1 (c.map natAV)]) (r := (GSl.of (sharedL n c)).av 1 intAV) ⟨(n, GSl.of c), ⟨⟨hV, hn⟩, by rw [gof_xs]; exact hcl, by rw [gof_xs]; exact hC.canon⟩, by simp only [AV.plainL, net_plain, plain_acc nat_plain], by dsimp only; rw [gof_xs]⟩ st
    exact this
  have z69 : ∀ st, freezeA st ((GSl.of (sharedL n c)).av 1 intAV) = some ((GSl.of (sharedL n c)).av 1 intAV, st) := fun st => freeze_free (free_av int_free)
  obtain ⟨keys, hkeys⟩ : ∃ keys, keys = keysL n.gates.xs n.ins.xs.length n.nexts c := ⟨_, rfl⟩
  have hnl : n.nexts.length = n.regs.xs.length := by simp [GNet.nexts]
  have hkl : keys.length = n.regs.xs.length := by rw [hkeys, keysL_len (by omega), hcl]
  have hF : finerL n.gates.xs n.ins.xs.length n.nexts c = leastOf keys := by rw [hkeys]; rfl
  have hFl : (leastOf keys).length = n.regs.xs.length := by rw [leastOf_len, hkl]
  dsimp only [RSt.at, List.cons_append, List.nil_append]
  repeat' (first | (refine OS.do rfl ?_; first | refine OD.loadP 0 rfl rfl rfl rfl rfl rfl ?_ | refine OD.auto rfl rfl ?_ | refine OD.len rfl rfl (fun _ => lenTy_accm rfl rfl) ?_ | refine OD.call rfl rfl rfl h69.eq u69 z69 ?_) | refine OS.nil ?_ | refine WS.seq ?_ | refine QS.seqN ?_ | refine WS.region ?_ | refine WS.block ?_)
  refine WS.newK ?_
  refine WS.rangeX (A := Nat × List Nat × Bool) (n := c.length) ⟨58, _, fun a => [(10, accA a.1 1 (a.2.1.map natAV)), (11, .bool a.2.2)], fun _ => [(b1, .row 4 [netAV n])], fun a => [(a.1, !a.2.1.isEmpty)], fun i a => a.2.1 = (leastOf keys).take i ∧ a.2.2 = decide ((leastOf keys).take i = c.take i)⟩ ((0, [], true)) [1, 4, 9, 57] (⟨rfl, rfl⟩) ?_ ?_ (hm := by (try dsimp only); repeat' (first | exact Sub.nil _ | refine Sub.cons (congrArg some (accA_nil2 _ _).symm) ?_ | refine Sub.cons (congrArg (fun z => some (AV.int .i64 z)) (wrap_succ (by omega))) ?_ | refine Sub.cons rfl ?_))
  · rintro i ⟨tn, N, b⟩ hi ⟨hN, hb⟩
    try dsimp only at hN hb
    have hNl : N.length = i := by rw [hN, List.length_take]; omega
    have hwi : IntKind.i64.wrap ((i : Int) - 1) = (i : Int) - 1 := wrap64 (by omega) (by omega)
    have hci : c[i]? = some c[i] := List.getElem?_eq_getElem hi
    have hsi : (GSl.of (sharedL n c)).xs[i]? = some ((sharedL n c)[i]'(by omega)) := by rw [gof_xs]; exact List.getElem?_eq_getElem (by omega)
    dsimp only [RSt.at, List.cons_append, List.nil_append]
    repeat' (first | (refine OS.do rfl ?_; first | refine OD.auto rfl rfl ?_) | refine OS.nil ?_ | refine WS.seq ?_ | refine QS.seqN ?_ | refine WS.region ?_ | refine WS.block ?_)
    refine WS.loopX (D := Nat × Nat) [1, 4, 9, 10, 11, 12, 57, 58] (fun d => [(14, .int .i64 ((d.1 : Int) - 1)), (13, .int .i64 (d.2 : Int))]) (fun _ => [(b1, .row 4 [netAV n])]) (fun _ => [(tn, !N.isEmpty)]) (fun d => LeastI (fun j => keys[j]? = keys[i]?) i d.1 d.2) (fun d => d.1) ((i, i)) (least_start i) ?_ (hm := by (try dsimp only); repeat' (first | exact Sub.nil _ | refine Sub.cons (congrArg (fun z => some (AV.int .i64 z)) hwi) ?_ | refine Sub.cons (congrArg (fun z => some (AV.int .i64 z)) (wrap_succ (by omega))) ?_ | refine Sub.cons rfl ?_))
    rintro ⟨k, l⟩ hL
    try dsimp only at hL
    rcases k with _ | k
    · have hl := least_idx (by omega) hL
      have hlt : (leastOf keys)[i]'(by omega) = l := by rw [hl]; simp [leastOf]
      have hgm : N.map natAV ++ [.int .i64 (l : Int)] = (N ++ [l]).map natAV := by rw [List.map_append]; rfl
      have hts : ((leastOf keys).take (i + 1) = c.take (i + 1)) ↔ ((leastOf keys).take i = c.take i ∧ l = c[i]) := by rw [take_eq_succ (by omega) hi, hlt]
      dsimp only [RSt.at, List.cons_append, List.nil_append]
      repeat' (first | (refine OS.do rfl ?_; first | refine OD.indexAddr rfl rfl rfl (indexAddrA_accn rfl rfl rfl rfl hci) ?_ | refine OD.auto rfl rfl ?_ | refine OD.append 0 (xs := N.map natAV) (ys := [.int .i64 (l : Int)]) rfl rfl rfl rfl (by rw [List.isEmpty_map]; rfl) rfl rfl rfl rfl rfl rfl (.inr ⟨⟨_, rfl⟩, rfl⟩) (fun _ => rfl) rfl rfl (roomB rfl (by simp only [List.length_map, List.length_singleton]; omega)) (fun t' => ?_)) | refine OS.nil ?_ | refine OS.skip rfl rfl rfl ?_ | refine WS.seq ?_ | refine QS.seqN ?_ | refine WS.region ?_ | refine WS.condF rfl ?_ | refine WS.exit ?_ | refine QS.seqE ?_ | refine QS.blockH ?_ | refine QS.loopE ?_ | ((fail_if_success (refine OS.do rfl ?_)); first | refine OS.split rfl rfl rfl (fun _ => ?_) (fun _ => ?_)))
      · rename_i hbt
        have hT : (leastOf keys).take i = c.take i := by rw [hbt] at hb; exact of_decide_eq_true hb.symm
        rw [hgm, List.isEmpty_map]
        exact QS.rangeX ((t', N ++ [l], ((l : Int) == (c[i] : Int)))) (by (try dsimp only) <;> exact (⟨by rw [hN, List.take_succ_eq_append_getElem (by omega), hlt], by rw [Bool.eq_iff_iff, beq_iff_eq, decide_eq_true_eq, hts]; exact ⟨fun h => ⟨hT, by omega⟩, fun h => by rw [h.2]⟩⟩)) (hL := by (try dsimp only); exact SubO.refl _)
      · rename_i hbt
        have hbf : b = false := by simpa using hbt
        have hT : ¬ (leastOf keys).take i = c.take i := by rw [hbf] at hb; exact of_decide_eq_false hb.symm
        rw [hgm, List.isEmpty_map]
        exact QS.rangeX ((t', N ++ [l], false)) (by (try dsimp only) <;> exact (⟨by rw [hN, List.take_succ_eq_append_getElem (by omega), hlt], (decide_eq_false (fun h => hT (hts.1 h).1)).symm⟩)) (hL := by (try dsimp only); exact SubO.refl _)
    · have e9 : ((k + 1 : Nat) : Int) - 1 = (k : Int) := by omega
      have hki : k < i := by have := hL.1; have := hL.2.1; omega
      have hwk : IntKind.i64.wrap ((k : Int) - 1) = (k : Int) - 1 := wrap64 (by omega) (by omega)
      have hck : c[k]? = some (c[k]'(by omega)) := List.getElem?_eq_getElem (by omega)
      have hsk : (GSl.of (sharedL n c)).xs[k]? = some ((sharedL n c)[k]'(by omega)) := by rw [gof_xs]; exact List.getElem?_eq_getElem (by omega)
      have hkey := keys_at hcl hi (show k < c.length by omega)
      rw [← hkeys] at hkey
      dsimp only [RSt.at, List.cons_append, List.nil_append]
      rw [e9]
      repeat' (first | (refine OS.do rfl ?_; first | refine OD.indexAddr rfl rfl rfl (indexAddrA_accn rfl rfl rfl rfl hck) ?_ | refine OD.indexAddr rfl rfl rfl (indexAddrA_accn rfl rfl rfl rfl hci) ?_ | refine OD.indexAddr rfl rfl rfl (indexAddrA_nat rfl rfl rfl rfl hsk) ?_ | refine OD.indexAddr rfl rfl rfl (indexAddrA_nat rfl rfl rfl rfl hsi) ?_ | refine OD.auto rfl rfl ?_) | refine OS.nil ?_ | refine OS.skip rfl rfl rfl ?_ | refine WS.seq ?_ | refine QS.seqN ?_ | refine WS.region ?_ | refine WS.condT rfl ?_ | refine WS.condF rfl ?_ | refine WS.condE rfl (fun _ => ?_) (fun _ => ?_) | refine WS.skip ?_ | refine WS.block ?_ | refine QS.blockN ?_ | refine WS.draw rfl rfl ?_ | ((fail_if_success (refine OS.do rfl ?_)); first | refine OS.splitD rfl rfl rfl (fun _ => ?_) (fun _ => ?_)))
      · rename_i h1 h2
        exact QS.loopX ((k, k)) (by exact (least_yes hL (hkey.2 ⟨by omega, h2⟩))) (by exact (by dsimp only; omega)) (hl := by (try dsimp only [List.cons_append, List.nil_append]); repeat' (first | exact Sub.nil _ | refine Sub.cons (congrArg (fun z => some (AV.int .i64 z)) hwk) ?_ | refine Sub.cons (congrArg (fun z => some (AV.int .i64 z)) (wrap_succ (by omega))) ?_ | refine Sub.cons rfl ?_))
      · rename_i h1 h2
        exact QS.loopX ((k, l)) (by exact (least_no hL (fun hp => h2 (hkey.1 hp).2))) (by exact (by dsimp only; omega)) (hl := by (try dsimp only [List.cons_append, List.nil_append]); repeat' (first | exact Sub.nil _ | refine Sub.cons (congrArg (fun z => some (AV.int .i64 z)) hwk) ?_ | refine Sub.cons (congrArg (fun z => some (AV.int .i64 z)) (wrap_succ (by omega))) ?_ | refine Sub.cons rfl ?_))
      · rename_i h1
        exact QS.loopX ((k, l)) (by exact (least_no hL (fun hp => h1 (by have := (hkey.1 hp).1; omega)))) (by exact (by dsimp only; omega)) (hl := by (try dsimp only [List.cons_append, List.nil_append]); repeat' (first | exact Sub.nil _ | refine Sub.cons (congrArg (fun z => some (AV.int .i64 z)) hwk) ?_ | refine Sub.cons (congrArg (fun z => some (AV.int .i64 z)) (wrap_succ (by omega))) ?_ | refine Sub.cons rfl ?_))
  rintro ⟨tn, N, b⟩ ⟨hN, hb⟩
  try dsimp only at hN hb
  rw [List.take_of_length_le (by omega)] at hN
  rw [List.take_of_length_le (by omega), List.take_of_length_le (Nat.le_refl _)] at hb
  subst hN
  dsimp only [RSt.at, List.cons_append, List.nil_append]
  repeat' (first | (refine OS.do rfl ?_; first | refine OD.auto rfl rfl ?_) | refine OS.nil ?_ | refine WS.seq ?_ | refine QS.seqN ?_ | refine WS.region ?_ | refine WS.skip ?_ | refine WS.ret ?_ | refine QS.seqR ?_ | refine QS.blockR ?_ | refine QS.loopR ?_ | refine QS.blockN ?_ | refine WS.condB rfl (fun _ => ?_) (fun _ => ?_))
  · rename_i hbt
    have heq : leastOf keys = c := by rw [hbt] at hb; exact of_decide_eq_true hb.symm
    refine QS.retR (by rfl) fun _ => ?_
    rw [twinsAV_yes hV, twins_eq ⟨hR, hF.trans heq⟩]
    exact ⟨by show AV.free (.tup [accA t 1 (c.map natAV), .int .i64 0]) = true; simp [AV.free, AV.freeL, free_acc nat_free], by show AV.plain (.tup [accA t 1 (c.map natAV), .int .i64 0]) = _; simp only [AV.plain, AV.plainL, plain_acc nat_plain]⟩
  · rename_i hbt
    have hbf : b = false := by simpa using hbt
    have hne : ¬ leastOf keys = c := by rw [hbf] at hb; exact of_decide_eq_false hb.symm
    have hlt := fixN_lt (gs := n.gates.xs) (nins := n.ins.xs.length) (next := n.nexts) (c := c) (by omega) hC.canon (by rw [hF]; exact hne)
    rw [hF] at hlt
    have hle := fixN_le (leastOf keys)
    exact QS.loopX ((tn, leastOf keys)) (by exact (by rw [← hF]; exact .succ hR)) (by exact (by dsimp only; omega))
theorem con28 (h1 : pr 28 = none) (h31 : Has pr 31 Rel31) (h69 : Has pr 69 Rel69) : Con2 (En pr) 28 Rel28 := con_of (fun d => by simp [AV.freeL, net_free]) fun d hd st => run28 h1 h31 h69 d hd st
theorem use28 (h : Has pr 28 Rel28) {n : GNet} (hn : FitsN n) (st : St) : primOf Rel28 [netAV n] st = some (twinsAV n, st) := h.use ⟨n, hn, by simp [AV.plainL, net_plain], rfl⟩ st
end
end Go.OptEnv

namespace Go.NetM
def selZ (z : Int) (k0 : Nat) (keep : List Bool) : Nat → List Int × Nat
  | 0 => (idL k0, 0)
  | i + 1 => if keep.getD i false = true then ((selZ z k0 keep i).1 ++ [2 * ((k0 + (selZ z k0 keep i).2 : Nat) : Int)], (selZ z k0 keep i).2 + 1) else ((selZ z k0 keep i).1 ++ [z], (selZ z k0 keep i).2)
theorem selZ_len {z : Int} {k0 : Nat} {keep : List Bool} : ∀ i, (selZ z k0 keep i).1.length = k0 + i
  | 0 => idL_len k0
  | i + 1 => by
    have := selZ_len (z := z) (k0 := k0) (keep := keep) i
    unfold selZ
    split <;> (simp only [List.length_append, List.length_singleton, this]; omega)
theorem selZ_cnt {z z' : Int} {k0 : Nat} {keep : List Bool} : ∀ i, (selZ z k0 keep i).2 = (selZ z' k0 keep i).2
  | 0 => rfl
  | i + 1 => by
    have := selZ_cnt (z := z) (z' := z') (k0 := k0) (keep := keep) i
    unfold selZ
    split
    · show _ + 1 = _ + 1; rw [this]
    · exact this
theorem selZ_le {z : Int} {k0 : Nat} {keep : List Bool} : ∀ i, (selZ z k0 keep i).2 ≤ i
  | 0 => Nat.le_refl _
  | i + 1 => by
    have := selZ_le (z := z) (k0 := k0) (keep := keep) i
    unfold selZ
    split
    · show _ + 1 ≤ _; omega
    · show _ ≤ _; omega
def Stays (k0 : Nat) (keep : List Bool) (j : Nat) : Prop := j < k0 ∨ keep.getD (j - k0) false = true
theorem selZ_same {z z' : Int} {k0 : Nat} {keep : List Bool} : ∀ i j, Stays k0 keep j → (selZ z k0 keep i).1.getD j 0 = (selZ z' k0 keep i).1.getD j 0
  | 0, _, _ => rfl
  | i + 1, j, h => by
    have ih := selZ_same (z := z) (z' := z') (k0 := k0) (keep := keep) i j h
    have hc := selZ_cnt (z := z) (z' := z') (k0 := k0) (keep := keep) i
    have h1 := selZ_len (z := z) (k0 := k0) (keep := keep) i
    have h2 := selZ_len (z := z') (k0 := k0) (keep := keep) i
    unfold selZ
    split
    · simp only [getD_snocI, h1, h2, ih, hc]
    · rename_i hk
      simp only [getD_snocI, h1, h2, ih]
      by_cases e : j = k0 + i
      · exfalso
        rcases h with h | h
        · omega
        · rw [show j - k0 = i by omega] at h; exact hk h
      · rw [if_neg e, if_neg e]
theorem selZ_range {z : Int} {k0 : Nat} (hk : 0 < k0) {keep : List Bool} : ∀ i j, Stays k0 keep j → 0 ≤ (selZ z k0 keep i).1.getD j 0 ∧ (selZ z k0 keep i).1.getD j 0 < 2 * ((k0 + (selZ z k0 keep i).2 : Nat) : Int)
  | 0, j, _ => idL_range hk j
  | i + 1, j, h => by
    have ih := selZ_range (z := z) hk (keep := keep) i j h
    have h1 := selZ_len (z := z) (k0 := k0) (keep := keep) i
    unfold selZ
    split
    · simp only [getD_snocI, h1]
      split
      · omega
      · split <;> omega
    · rename_i hkk
      simp only [getD_snocI, h1]
      split
      · omega
      · split
        · exfalso
          rcases h with h | h
          · omega
          · rw [show j - k0 = i by omega] at h; exact hkk h
        · omega
theorem selZ_yes {z : Int} {k0 : Nat} {keep : List Bool} {i : Nat} {s : List Int × Nat} (h : s = selZ z k0 keep i) (hk : keep.getD i false = true) : selZ z k0 keep (i + 1) = (s.1 ++ [2 * ((k0 + s.2 : Nat) : Int)], s.2 + 1) := by
  subst h
  show (if _ then _ else _) = _
  rw [if_pos hk]
theorem selZ_no {z : Int} {k0 : Nat} {keep : List Bool} {i : Nat} {s : List Int × Nat} (h : s = selZ z k0 keep i) (hk : keep.getD i false = false) : selZ z k0 keep (i + 1) = (s.1 ++ [z], s.2) := by
  subst h
  show (if _ then _ else _) = _
  rw [if_neg (by rw [hk]; simp)]
theorem selZ_zero {z : Int} {k0 : Nat} (hk : 0 < k0) {keep : List Bool} : ∀ i, (selZ z k0 keep i).1.getD 0 0 = 0
  | 0 => by
    show (idL k0).getD 0 0 = 0
    rw [idL_get, if_pos hk]; rfl
  | i + 1 => by
    have ih := selZ_zero (z := z) hk (keep := keep) i
    have h1 := selZ_len (z := z) (k0 := k0) (keep := keep) i
    unfold selZ
    split
    · show (_ ++ [_]).getD 0 0 = 0
      rw [getD_snocI, if_pos (by omega)]; exact ih
    · show (_ ++ [_]).getD 0 0 = 0
      rw [getD_snocI, if_pos (by omega)]; exact ih
theorem atL_const {A : List Int} (h : A.getD 0 0 = 0) {l : Int} (h0 : 0 ≤ l) (h1 : l ≤ 1) : atL A l = l := by
  have : l = 0 ∨ l = 1 := by omega
  rcases this with rfl | rfl
  · unfold atL flipL; rw [show ((0 : Int) / 2).toNat = 0 from rfl, h]; rfl
  · unfold atL flipL; rw [show ((1 : Int) / 2).toNat = 0 from rfl, h]; rfl
def Stand (k0 n : Nat) (keep : List Bool) (lits : List Int) : Prop := ∀ i, i < n → keep.getD i false = false → 0 ≤ lits.getD i 0 ∧ lits.getD i 0 < 2 * ((k0 + n : Nat) : Int) ∧ Stays k0 keep (lits.getD i 0 / 2).toNat
def fillZ (z : Int) (k0 n : Nat) (keep : List Bool) (lits : List Int) : Nat → List Int
  | 0 => (selZ z k0 keep n).1
  | i + 1 => if keep.getD i false = true then fillZ z k0 n keep lits i else (fillZ z k0 n keep lits i).set (k0 + i) (atL (selZ z k0 keep n).1 (lits.getD i 0))
theorem fillZ_len {z : Int} {k0 n : Nat} {keep : List Bool} {lits : List Int} : ∀ i, (fillZ z k0 n keep lits i).length = k0 + n
  | 0 => selZ_len n
  | i + 1 => by
    have := fillZ_len (z := z) (k0 := k0) (n := n) (keep := keep) (lits := lits) i
    unfold fillZ
    split
    · exact this
    · rw [List.length_set]; exact this
theorem getD_setI {l : List Int} {i j : Nat} {x : Int} : (l.set i x).getD j 0 = if i = j ∧ i < l.length then x else l.getD j 0 := by
  simp only [List.getD_eq_getElem?_getD, List.getElem?_set]
  by_cases h : i = j
  · subst h
    by_cases hl : i < l.length
    · simp [hl]
    · simp [hl]
  · simp [h]
theorem fillZ_stays {z : Int} {k0 n : Nat} {keep : List Bool} {lits : List Int} {j : Nat} (h : Stays k0 keep j) : ∀ i, (fillZ z k0 n keep lits i).getD j 0 = (selZ z k0 keep n).1.getD j 0
  | 0 => rfl
  | i + 1 => by
    have ih := fillZ_stays (z := z) (n := n) (lits := lits) h i
    unfold fillZ
    split
    · exact ih
    · rename_i hk
      rw [getD_setI, if_neg, ih]
      rintro ⟨e, _⟩
      rcases h with h | h
      · omega
      · rw [show j - k0 = i by omega] at h; exact hk h
theorem fillZ_gone {z : Int} {k0 n : Nat} {keep : List Bool} {lits : List Int} {g : Nat} (hg : keep.getD g false = false) (hn : g < n) : ∀ i, g < i → (fillZ z k0 n keep lits i).getD (k0 + g) 0 = atL (selZ z k0 keep n).1 (lits.getD g 0)
  | i + 1, hi => by
    have hl := fillZ_len (z := z) (k0 := k0) (n := n) (keep := keep) (lits := lits) i
    unfold fillZ
    by_cases e : g = i
    · subst e
      rw [if_neg (by rw [hg]; simp), getD_setI, if_pos ⟨rfl, by omega⟩]
    · have ih := fillZ_gone (z := z) (k0 := k0) (lits := lits) hg hn i (by omega)
      split
      · exact ih
      · rw [getD_setI, if_neg (by omega), ih]
theorem ext_getDI {a b : List Int} (h : a.length = b.length) (hi : ∀ i, i < a.length → a.getD i 0 = b.getD i 0) : a = b := by
  apply List.ext_getElem h
  intro i h1 h2
  have := hi i h1
  rw [List.getD_eq_getElem?_getD, List.getD_eq_getElem?_getD, List.getElem?_eq_getElem h1, List.getElem?_eq_getElem h2] at this
  exact this
theorem atL_congr {a b : List Int} {l : Int} (h : a.getD (l / 2).toNat 0 = b.getD (l / 2).toNat 0) : atL a l = atL b l := by unfold atL; rw [h]
theorem stays_dec {k0 : Nat} {keep : List Bool} (j : Nat) : Stays k0 keep j ∨ (k0 ≤ j ∧ keep.getD (j - k0) false = false) := by
  unfold Stays
  by_cases h : j < k0
  · exact .inl (.inl h)
  · cases hk : keep.getD (j - k0) false with
    | true => exact .inl (.inr rfl)
    | false => exact .inr ⟨by omega, rfl⟩
theorem fill_eq {z z' : Int} {k0 n : Nat} {keep : List Bool} {lits : List Int} (hs : Stand k0 n keep lits) : fillZ z k0 n keep lits n = fillZ z' k0 n keep lits n := by
  refine ext_getDI (by rw [fillZ_len, fillZ_len]) fun j hj => ?_
  rw [fillZ_len] at hj
  rcases stays_dec (k0 := k0) (keep := keep) j with h | ⟨h1, h2⟩
  · rw [fillZ_stays h, fillZ_stays h]; exact selZ_same n j h
  · have e : j = k0 + (j - k0) := by omega
    rw [e, fillZ_gone h2 (by omega) n (by omega), fillZ_gone h2 (by omega) n (by omega)]
    exact atL_congr (selZ_same n _ (hs _ (by omega) h2).2.2)
theorem fill_range {z : Int} {k0 n : Nat} (hk : 0 < k0) {keep : List Bool} {lits : List Int} (hs : Stand k0 n keep lits) (j : Nat) (hj : j < k0 + n) : 0 ≤ (fillZ z k0 n keep lits n).getD j 0 ∧ (fillZ z k0 n keep lits n).getD j 0 < 2 * ((k0 + (selZ z k0 keep n).2 : Nat) : Int) := by
  rcases stays_dec (k0 := k0) (keep := keep) j with h | ⟨h1, h2⟩
  · rw [fillZ_stays h]; exact selZ_range hk n j h
  · have e : j = k0 + (j - k0) := by omega
    rw [e, fillZ_gone h2 (by omega) n (by omega)]
    exact flip_range (selZ_range hk n _ (hs _ (by omega) h2).2.2)
theorem fill_rangeA {z : Int} {k0 n : Nat} (hk : 0 < k0) {keep : List Bool} {lits : List Int} (hs : Stand k0 n keep lits) (j : Nat) : 0 ≤ (fillZ z k0 n keep lits n).getD j 0 ∧ (fillZ z k0 n keep lits n).getD j 0 < 2 * ((k0 + (selZ z k0 keep n).2 : Nat) : Int) := by
  by_cases hj : j < k0 + n
  · exact fill_range hk hs j hj
  · rw [List.getD_eq_getElem?_getD, List.getElem?_eq_none (by rw [fillZ_len]; omega)]
    exact ⟨Int.le_refl _, by show (0 : Int) < _; omega⟩
theorem fillZ_yes {z : Int} {k0 n : Nat} {keep : List Bool} {lits : List Int} {i : Nat} (h : keep.getD i false = true) : fillZ z k0 n keep lits (i + 1) = fillZ z k0 n keep lits i := by
  show (if _ then _ else _) = _
  rw [if_pos h]
theorem fillZ_no {z : Int} {k0 n : Nat} {keep : List Bool} {lits : List Int} (hs : Stand k0 n keep lits) {i : Nat} (hi : i < n) (h : keep.getD i false = false) : fillZ z k0 n keep lits (i + 1) = (fillZ z k0 n keep lits i).set (k0 + i) (atL (fillZ z k0 n keep lits i) (lits.getD i 0)) := by
  show (if _ then _ else _) = _
  rw [if_neg (by rw [h]; simp), atL_congr (a := fillZ z k0 n keep lits i) (b := (selZ z k0 keep n).1) (fillZ_stays (hs i hi h).2.2 i)]
def rawS (k : Nat) (s : List Int × List (Int × Int)) (g : Int × Int) : List Int × List (Int × Int) := (s.1 ++ [2 * ((k + s.2.length : Nat) : Int)], s.2 ++ [(atL s.1 g.1, atL s.1 g.2)])
def rawM (k : Nat) (all0 : List Int) (gs : List (Int × Int)) : List Int × List (Int × Int) := gs.foldl (rawS k) (all0, [])
theorem rawM_succ {k : Nat} {all0 : List Int} {gs : List (Int × Int)} {i : Nat} (h : i < gs.length) : rawM k all0 (gs.take (i + 1)) = rawS k (rawM k all0 (gs.take i)) gs[i] := by
  unfold rawM
  rw [List.take_succ_eq_append_getElem h, List.foldl_append]; rfl
theorem rawM_lens {k : Nat} {all0 : List Int} {gs : List (Int × Int)} : ∀ i, i ≤ gs.length → (rawM k all0 (gs.take i)).1.length = all0.length + i ∧ (rawM k all0 (gs.take i)).2.length = i
  | 0, _ => ⟨rfl, rfl⟩
  | i + 1, h => by
    obtain ⟨h1, h2⟩ := rawM_lens (k := k) (all0 := all0) (gs := gs) i (by omega)
    rw [rawM_succ (by omega)]
    unfold rawS
    dsimp only
    rw [List.length_append, List.length_append, List.length_singleton, List.length_singleton]
    omega
theorem raw_ok {k : Nat} (hk : 0 < k) {all0 : List Int} (h0 : ∀ j, 0 ≤ all0.getD j 0 ∧ all0.getD j 0 < 2 * (k : Int)) (gs : List (Int × Int)) : ∀ i, i ≤ gs.length → ShOk k (all0.length + i) i (rawM k all0 (gs.take i))
  | 0, _ => ShOk.zero h0
  | i + 1, h => by
    have ih := raw_ok hk h0 gs i (by omega)
    have hl := (rawM_lens (k := k) (all0 := all0) (gs := gs) i (by omega)).2
    have hg := ih.gates
    rw [rawM_succ (by omega)]
    unfold rawS
    refine ⟨by simp [ih.len]; omega, fun j => ?_, by simp; omega, okG_snoc ih.ok (ih.at_ _) (ih.at_ _)⟩
    simp only [getD_snocI, List.length_append, List.length_singleton]
    have := ih.range j
    split
    · omega
    · split <;> omega
theorem flip_flip (b : Int) : flipL (flipL b 1) 1 = b := by
  unfold flipL
  rw [if_pos rfl, if_pos rfl]
  split
  · rw [if_neg (by omega)]; omega
  · rw [if_pos (by omega)]; omega
theorem flip_zero (b : Int) : flipL b 0 = b := by unfold flipL; rw [if_neg (by decide)]
theorem atL_flip (A : List Int) (a : Int) {s : Int} (hs : s = 0 ∨ s = 1) : atL A (flipL a s) = flipL (atL A a) s := by
  rcases hs with rfl | rfl
  · rw [flip_zero, flip_zero]
  · unfold atL
    have e : flipL a 1 = if a % 2 = 0 then a + 1 else a - 1 := by unfold flipL; rw [if_pos rfl]
    by_cases h : a % 2 = 0
    · rw [e, if_pos h, show (a + 1) / 2 = a / 2 by omega, show (a + 1) % 2 = 1 by omega, h, flip_zero]
    · rw [e, if_neg h, show (a - 1) / 2 = a / 2 by omega, show (a - 1) % 2 = 0 by omega, show a % 2 = 1 by omega, flip_zero, flip_flip]
theorem atL_atL (A R : List Int) (l : Int) : atL A (atL R l) = flipL (atL A (R.getD (l / 2).toNat 0)) (l % 2) := by
  show atL A (flipL _ _) = _
  exact atL_flip A _ (by omega)
structure RawSh (k m i : Nat) (r s t : List Int × List (Int × Int)) : Prop where
  g : t.2 = s.2
  at_ : ∀ j, j < m + i → atL t.1 (r.1.getD j 0) = s.1.getD j 0
theorem raw_share {k : Nat} (hk : 0 < k) {all0 : List Int} (h0 : ∀ j, 0 ≤ all0.getD j 0 ∧ all0.getD j 0 < 2 * (k : Int)) {gs : List (Int × Int)} (hg : okG all0.length gs) : ∀ i, i ≤ gs.length → RawSh k all0.length i (rawM k all0 (gs.take i)) (shareM k all0 (gs.take i)) (shareM k (idL k) (rawM k all0 (gs.take i)).2)
  | 0, _ => ⟨rfl, fun j _ => by
    show atL (idL k) (all0.getD j 0) = all0.getD j 0
    have hj := h0 j
    unfold atL
    rw [idL_get, if_pos (by omega)]
    unfold flipL
    split
    · rw [if_pos (by omega)]; omega
    · omega⟩
  | i + 1, h => by
    have hi : i < gs.length := h
    obtain ⟨ihg, iha⟩ := raw_share hk h0 hg i (by omega)
    have hr := raw_ok hk h0 gs i (by omega)
    have hsl := (ShOk.share hk h0 gs i (by omega)).len
    have hrl := rawM_lens (k := k) (all0 := all0) (gs := gs) i (by omega)
    have htl : (shareM k (idL k) (rawM k all0 (gs.take i)).2).1.length = k + i := by
      have := (ShOk.share hk (idL_range hk) (rawM k all0 (gs.take i)).2 _ (Nat.le_refl _)).len
      rw [List.take_of_length_le (Nat.le_refl _), idL_len, hrl.2] at this
      exact this
    obtain ⟨⟨g1, g2⟩, g3, g4⟩ := hg i hi
    rw [rawM_succ hi, shareM_succ hi]
    revert ihg iha hr hsl hrl htl
    generalize rawM k all0 (gs.take i) = r
    generalize shareM k all0 (gs.take i) = s
    intro ihg iha hr hsl hrl htl
    have e : shareM k (idL k) (rawS k r gs[i]).2 = stepM k (shareM k (idL k) r.2) (atL r.1 gs[i].1, atL r.1 gs[i].2) := by
      unfold rawS shareM
      rw [List.foldl_append]; rfl
    rw [e]
    revert ihg iha htl
    generalize shareM k (idL k) r.2 = t
    intro ihg iha htl
    have x1 : atL t.1 (atL r.1 gs[i].1) = atL s.1 gs[i].1 := by rw [atL_atL, iha _ (by omega)]; rfl
    have x2 : atL t.1 (atL r.1 gs[i].2) = atL s.1 gs[i].2 := by rw [atL_atL, iha _ (by omega)]; rfl
    unfold stepM
    dsimp only
    rw [x1, x2, ihg]
    refine ⟨rfl, fun j hj => ?_⟩
    unfold rawS
    dsimp only
    rw [getD_snocI, getD_snocI, hr.len, hsl]
    by_cases hj2 : j < all0.length + i
    · rw [if_pos hj2, if_pos hj2, ← iha j hj2]
      apply atL_congr
      rw [getD_snocI, if_pos]
      have := hr.range j
      rw [htl]
      have hgr := hr.gates
      omega
    · have ej : j = all0.length + i := by omega
      rw [if_neg hj2, if_neg hj2, if_pos ej, if_pos ej]
      unfold atL
      rw [show (2 * ((k + r.2.length : Nat) : Int)) / 2 = ((k + r.2.length : Nat) : Int) by omega, show (2 * ((k + r.2.length : Nat) : Int)) % 2 = 0 by omega, flip_zero, Int.toNat_natCast, getD_snocI, htl, hrl.2, if_neg (by omega), if_pos rfl]
end Go.NetM

namespace Go.OptEnv
open Go Go.Proofs Go.Abs Go.RowKit Go.NetM
set_option maxRecDepth 10000
def keptL (n : GNet) (keep : List Bool) : List GReg := pickL 0 keep n.regs.xs n.regs.xs.length
def GNet.kk (n : GNet) (keep : List Bool) : Nat := n.k0 + (keptL n keep).length
def againL (n : GNet) (keep : List Bool) (lits : List Int) : List Int := fillZ 0 n.k0 n.regs.xs.length keep lits n.regs.xs.length
def againS (n : GNet) (keep : List Bool) (lits : List Int) : List Int × List (Int × Int) := shareM (n.kk keep) (againL n keep lits) n.gates.xs
def rawNS (n : GNet) (keep : List Bool) (lits : List Int) : List Int × List (Int × Int) := rawM (n.kk keep) (againL n keep lits) n.gates.xs
def netOf (ins : GSl ByteArray) (n : GNet) (keep : List Bool) (s : List Int × List (Int × Int)) : GNet := ⟨ins, GSl.of ((keptL n keep).map (withNext s.1)), GSl.of s.2, GSl.of (n.outs.xs.map (withLit s.1))⟩
def withoutN (n : GNet) (keep : List Bool) (lits : List Int) : GNet := netOf (GSl.some n.ins.xs) n keep (rawNS n keep lits)
def againM (n : GNet) (keep : List Bool) (lits : List Int) : GNet := netOf (cloneG n.ins) n keep (againS n keep lits)
def againN (n : GNet) (keep : List Bool) (lits : List Int) : GNet := cleanN (againM n keep lits)
theorem pick_sub {α : Type} {k0 : Nat} {keep : List Bool} {l : List α} : ∀ i, i ≤ l.length → (pickL k0 keep l i).Sublist (l.take i)
  | 0, _ => by simp [pickL]
  | i + 1, h => by
    have ih := pick_sub (k0 := k0) (keep := keep) (l := l) i (by omega)
    rw [pickL_succ (by omega), List.take_succ_eq_append_getElem (by omega)]
    split
    · exact List.Sublist.append ih (List.Sublist.refl _)
    · exact ih.trans (List.sublist_append_left _ _)
theorem keptL_sub (n : GNet) (keep : List Bool) : (keptL n keep).Sublist n.regs.xs := by
  have := pick_sub (k0 := 0) (keep := keep) (l := n.regs.xs) n.regs.xs.length (Nat.le_refl _)
  rwa [List.take_of_length_le (Nat.le_refl _)] at this
theorem pick_cnt {α : Type} {z : Int} {k0 : Nat} {keep : List Bool} {l : List α} : ∀ i, i ≤ l.length → (pickL 0 keep l i).length = (selZ z k0 keep i).2
  | 0, _ => by simp [pickL, selZ]
  | i + 1, h => by
    have ih := pick_cnt (z := z) (k0 := k0) (keep := keep) (l := l) i (by omega)
    rw [pickL_succ (by omega), Nat.zero_add]
    unfold selZ
    split
    · simp [ih]
    · exact ih
theorem kk_sel {z : Int} (n : GNet) (keep : List Bool) : n.kk keep = n.k0 + (selZ z n.k0 keep n.regs.xs.length).2 := by
  unfold GNet.kk keptL
  rw [pick_cnt (z := z) (k0 := n.k0) n.regs.xs.length (Nat.le_refl _)]
theorem names_sub {l l' : List ByteArray} (h : l'.Sublist l) (hl : namesM l = true) : namesM l' = true := by
  simp only [namesM, Bool.and_eq_true, decide_eq_true_eq, List.all_eq_true] at hl ⊢
  obtain ⟨⟨a, b⟩, c⟩ := hl
  exact ⟨⟨Nat.le_trans h.length_le a, fun x hx => b x (h.subset hx)⟩, c.sublist h⟩
theorem k0_pos (n : GNet) : 0 < n.k0 := by unfold GNet.k0; omega
theorem kk_pos (n : GNet) (keep : List Bool) : 0 < n.kk keep := by unfold GNet.kk; have := k0_pos n; omega
theorem againL_len (n : GNet) (keep : List Bool) (lits : List Int) : (againL n keep lits).length = n.kN := by
  unfold againL; rw [fillZ_len]; rfl
theorem againL_range {n : GNet} {keep : List Bool} {lits : List Int} (hs : Stand n.k0 n.regs.xs.length keep lits) (j : Nat) : 0 ≤ (againL n keep lits).getD j 0 ∧ (againL n keep lits).getD j 0 < 2 * (n.kk keep : Int) := by
  rw [kk_sel (z := 0)]
  exact fill_rangeA (k0_pos n) hs j
theorem again_sh {n : GNet} {keep : List Bool} {lits : List Int} (hs : Stand n.k0 n.regs.xs.length keep lits) {i : Nat} (hi : i ≤ n.gates.xs.length) : ShOk (n.kk keep) (n.kN + i) i (shareM (n.kk keep) (againL n keep lits) (n.gates.xs.take i)) := by
  have := ShOk.share (kk_pos n keep) (againL_range hs) n.gates.xs i hi
  rwa [againL_len] at this
theorem raw_sh {n : GNet} {keep : List Bool} {lits : List Int} (hs : Stand n.k0 n.regs.xs.length keep lits) {i : Nat} (hi : i ≤ n.gates.xs.length) : ShOk (n.kk keep) (n.kN + i) i (rawM (n.kk keep) (againL n keep lits) (n.gates.xs.take i)) := by
  have := raw_ok (kk_pos n keep) (againL_range hs) n.gates.xs i hi
  rwa [againL_len] at this
theorem againS_sh {n : GNet} {keep : List Bool} {lits : List Int} (hs : Stand n.k0 n.regs.xs.length keep lits) : ShOk (n.kk keep) (n.kN + n.gates.xs.length) n.gates.xs.length (againS n keep lits) := by
  have := again_sh hs (Nat.le_refl n.gates.xs.length)
  rwa [List.take_length] at this
theorem rawNS_sh {n : GNet} {keep : List Bool} {lits : List Int} (hs : Stand n.k0 n.regs.xs.length keep lits) : ShOk (n.kk keep) (n.kN + n.gates.xs.length) n.gates.xs.length (rawNS n keep lits) := by
  have := raw_sh hs (Nat.le_refl n.gates.xs.length)
  rwa [List.take_length] at this
theorem netOf_kN {ins : GSl ByteArray} {n : GNet} {keep : List Bool} {s : List Int × List (Int × Int)} (hi : ins.xs = n.ins.xs) : (netOf ins n keep s).kN = n.kk keep := by
  unfold GNet.kN GNet.kk GNet.k0 netOf
  rw [gof_xs, List.length_map, hi]
theorem netOf_valid {ins : GSl ByteArray} {n : GNet} (hi : ins.xs = n.ins.xs) (hv : validM n = true) {keep : List Bool} {s : List Int × List (Int × Int)} {N : Nat} (hs : ShOk (n.kk keep) N n.gates.xs.length s) : validM (netOf ins n keep s) = true := by
  have v := validM_iff.1 hv
  have hm := v.gatesN
  have hkN := netOf_kN (keep := keep) (s := s) hi
  have hf : (netOf ins n keep s).first = (n.kk keep : Int) := by rw [← hkN]; unfold GNet.first GNet.kN; omega
  have e3 : (netOf ins n keep s).gates.xs = s.2 := gof_xs _
  have e2 : (netOf ins n keep s).regs.xs = (keptL n keep).map (withNext s.1) := gof_xs _
  have e4 : (netOf ins n keep s).outs.xs = n.outs.xs.map (withLit s.1) := gof_xs _
  have hnd : (netOf ins n keep s).nodes = ((n.kk keep + s.2.length : Nat) : Int) := by unfold GNet.nodes; rw [hf, e3]; omega
  have hg := hs.gates
  have hsub := keptL_sub n keep
  refine validM_iff.2 ⟨by rw [e3]; omega, by show namesM ins.xs = true; rw [hi]; exact v.ins, ?_, ?_, by rw [hf, e3]; exact gatesOk_all hs.ok, ?_, ?_, ?_⟩
  · rw [e2, List.map_map]; exact names_sub (hsub.map _) v.regs
  · rw [e4, List.map_map]; exact v.outs
  · rw [e2, List.all_map, List.all_eq_true]
    intro r hr
    exact List.all_eq_true.1 v.inits r (hsub.subset hr)
  · rw [e2, hnd, List.all_map, List.all_eq_true]
    intro r _
    have := hs.at_ r.next
    exact decide_eq_true this
  · rw [e4, hnd, List.all_map, List.all_eq_true]
    intro r _
    have := hs.at_ r.lit
    exact decide_eq_true this
theorem netOf_fits {ins : GSl ByteArray} {n : GNet} (hi : ins.xs = n.ins.xs) (hv : validM n = true) (hn : FitsN n) {keep : List Bool} {s : List Int × List (Int × Int)} {N : Nat} (hs : ShOk (n.kk keep) N n.gates.xs.length s) : FitsN (netOf ins n keep s) := by
  obtain ⟨f1, f2, f3, f4⟩ := valid_len hv
  have hsub := keptL_sub n keep
  have hg := hs.gates
  have hkl : (keptL n keep).length ≤ n.regs.xs.length := hsub.length_le
  have hkk : n.kk keep ≤ 3000 := by unfold GNet.kk GNet.k0; omega
  have ha : ∀ l, Fit64 (atL s.1 l) := fun l => by
    have := hs.at_ l
    exact ⟨by omega, by omega⟩
  obtain ⟨m1, m2, m3, m4, m5, m6, m7, m8, m9, m10⟩ := hn
  unfold netOf
  refine ⟨by rw [hi]; exact m1, by rw [gof_xs, List.length_map]; omega, by rw [gof_xs]; omega, by rw [gof_xs, List.length_map]; omega, by rw [hi]; exact m5, fun r hr => ?_, fun r hr => ?_, fun a hg' => ?_, fun r hr => ?_, fun r hr => ?_⟩
  · rw [gof_xs] at hr
    obtain ⟨r', h', rfl⟩ := List.mem_map.1 hr
    exact m6 r' (hsub.subset h')
  · rw [gof_xs] at hr
    obtain ⟨r', h', rfl⟩ := List.mem_map.1 hr
    exact m7 r' h'
  · rw [gof_xs] at hg'
    obtain ⟨i, hi, rfl⟩ := List.getElem_of_mem hg'
    obtain ⟨⟨a1, a2⟩, a3, a4⟩ := hs.ok i hi
    exact ⟨⟨by omega, by omega⟩, by omega, by omega⟩
  · rw [gof_xs] at hr
    obtain ⟨r', h', rfl⟩ := List.mem_map.1 hr
    exact ha _
  · rw [gof_xs] at hr
    obtain ⟨r', h', rfl⟩ := List.mem_map.1 hr
    exact ha _
theorem again_same {n : GNet} (hv : validM n = true) {keep : List Bool} {lits : List Int} (hs : Stand n.k0 n.regs.xs.length keep lits) : SameC (againM n keep lits) (shareN (withoutN n keep lits)) := by
  obtain ⟨hgo, hrn, hol⟩ := valid_lits hv
  have hsh := raw_share (kk_pos n keep) (againL_range hs) (gs := n.gates.xs) (by rw [againL_len]; exact hgo) n.gates.xs.length (Nat.le_refl _)
  rw [List.take_length, againL_len] at hsh
  have e : shareS (withoutN n keep lits) = shareM (n.kk keep) (idL (n.kk keep)) (rawNS n keep lits).2 := by
    unfold shareS withoutN
    rw [netOf_kN (ins := GSl.some n.ins.xs) rfl]
    show shareM _ _ (GSl.of (rawNS n keep lits).2).xs = _
    rw [gof_xs]
  obtain ⟨hg, ha⟩ := hsh
  have hat : ∀ l, 0 ≤ l ∧ l < 2 * ((n.kN + n.gates.xs.length : Nat) : Int) → atL (shareS (withoutN n keep lits)).1 (atL (rawNS n keep lits).1 l) = atL (againS n keep lits).1 l := fun l hl => by
    rw [e, atL_atL]
    have := ha (l / 2).toNat (by omega)
    unfold rawNS
    rw [this]; rfl
  obtain ⟨e1, e2, e3, e4⟩ := lay_xs (n := withoutN n keep lits) (s := shareS (withoutN n keep lits))
  refine ⟨?_, ?_, ?_, ?_⟩
  · show (cloneG n.ins).xs = (layN _ _).ins.xs
    rw [clone_xs, e1]; rfl
  · show (GSl.of ((keptL n keep).map (withNext (againS n keep lits).1))).xs = (layN _ _).regs.xs
    rw [e2]
    unfold withoutN netOf
    simp only [gof_xs, List.map_map]
    refine List.map_congr_left fun r hr => ?_
    have := hat _ (hrn r ((keptL_sub n keep).subset hr))
    simp only [Function.comp, withNext]
    unfold withoutN netOf at this
    rw [this]
  · show (GSl.of (againS n keep lits).2).xs = (layN _ _).gates.xs
    rw [e3, gof_xs, e]; exact hg.symm
  · show (GSl.of (n.outs.xs.map (withLit (againS n keep lits).1))).xs = (layN _ _).outs.xs
    rw [e4]
    unfold withoutN netOf
    simp only [gof_xs, List.map_map]
    refine List.map_congr_left fun r hr => ?_
    have := hat _ (hol r hr)
    simp only [Function.comp, withLit]
    unfold withoutN netOf at this
    rw [this]
theorem SameC.cleaned {a b : GNet} (h : SameC a b) : SameC (cleanN a) (cleanN b) := by
  unfold cleanN
  rw [h.clean]
  exact h.lay _
theorem again_fold {n : GNet} (hv : validM n = true) {keep : List Bool} {lits : List Int} (hs : Stand n.k0 n.regs.xs.length keep lits) : SameC (againN n keep lits) (foldR (withoutN n keep lits)) :=
  (again_same hv hs).cleaned.trans (fold_same (SameC.refl _)).symm
theorem again_valid {n : GNet} (hv : validM n = true) {keep : List Bool} {lits : List Int} (hs : Stand n.k0 n.regs.xs.length keep lits) : validM (againM n keep lits) = true := netOf_valid (clone_xs _) hv (againS_sh hs)
theorem again_fits {n : GNet} (hv : validM n = true) (hn : FitsN n) {keep : List Bool} {lits : List Int} (hs : Stand n.k0 n.regs.xs.length keep lits) : FitsN (againM n keep lits) := netOf_fits (clone_xs _) hv hn (againS_sh hs)
theorem without_valid {n : GNet} (hv : validM n = true) {keep : List Bool} {lits : List Int} (hs : Stand n.k0 n.regs.xs.length keep lits) : validM (withoutN n keep lits) = true := netOf_valid (ins := GSl.some n.ins.xs) rfl hv (rawNS_sh hs)
theorem without_fits {n : GNet} (hv : validM n = true) (hn : FitsN n) {keep : List Bool} {lits : List Int} (hs : Stand n.k0 n.regs.xs.length keep lits) : FitsN (withoutN n keep lits) := netOf_fits (ins := GSl.some n.ins.xs) rfl hv hn (rawNS_sh hs)
end Go.OptEnv

namespace Go.OptEnv
open Go Go.Proofs Go.Abs Go.RowKit Go.NetM
set_option maxRecDepth 10000
def Rel16 : Rel := fun a x => a = [] ∧ x = .bool true
attribute [local irreducible] WS QS OS OD Abs.Sub SubO SubK CW GSl.av accA
section
variable {pr : Prims}
def fewM (n : GNet) : Bool := decide (n.ins.xs.length + n.regs.xs.length + n.outs.xs.length ≤ 120) && decide (n.gates.xs.length ≤ 300)
theorem run15 (h1 : pr 15 = none) (n : GNet) (hn : FitsN n) (st : St) : CW (En pr) 15 [netAV n] st fun r _ => r = .bool (fewM n) := by
  obtain ⟨f1, f2, f3, f4, _, _, _, _, _, _⟩ := hn
  have w2 : IntKind.i64.wrap (IntKind.i64.wrap ((n.ins.xs.length : Int) + (n.regs.xs.length : Int)) + (n.outs.xs.length : Int)) = (n.ins.xs.length : Int) + (n.regs.xs.length : Int) + (n.outs.xs.length : Int) := by
    rw [wrap64 (n := (n.ins.xs.length : Int) + (n.regs.xs.length : Int)) (by omega) (by omega)]
    exact wrap64 (by omega) (by omega)
  refine CW.start (N := 21) h1 rfl rfl ?_
  repeat' (first | (refine OS.do rfl ?_; first | refine OD.box rfl rfl rfl rfl (net_ok _) rfl (fun b1 => ?_) | refine OD.loadP 0 rfl rfl rfl rfl rfl rfl ?_ | refine OD.auto rfl rfl ?_ | refine OD.len rfl rfl (fun _ => lenTy_av rfl rfl) ?_) | refine OS.nil ?_ | refine OS.skip rfl rfl rfl ?_ | refine WS.seq ?_ | refine QS.seqN ?_ | refine WS.region ?_ | refine WS.ret ?_ | ((fail_if_success (refine OS.do rfl ?_)); first | refine OS.splitD rfl rfl rfl (fun _ => ?_) (fun _ => ?_)))
  all_goals (refine QS.retR (by rfl) fun _ => ?_; show AV.bool _ = _; congr 1; unfold fewM; rw [Bool.eq_iff_iff]; simp only [Bool.and_eq_true, decide_eq_true_eq, false_iff, reduceCtorEq, not_and]; omega)
def Rel15 : Rel := RelF (fun n : GNet => FitsN n) (fun n => [netAV n]) fun n => .bool (fewM n)
theorem con15 (h1 : pr 15 = none) : Con2 (En pr) 15 Rel15 := con_eq (fun d => by simp [AV.freeL, net_free]) (fun _ => ⟨rfl, rfl⟩) fun d hd st => run15 h1 d hd st
theorem use16 (h : Has pr 16 Rel16) (st : St) : primOf Rel16 [] st = some (.bool true, st) := h.use ⟨rfl, rfl⟩ st
theorem use15 (h : Has pr 15 Rel15) {n : GNet} (hn : FitsN n) (st : St) : primOf Rel15 [netAV n] st = some (.bool (fewM n), st) := h.use ⟨n, hn, by simp [AV.plainL, net_plain], rfl⟩ st
end
end Go.OptEnv

namespace Go.OptEnv
open Go Go.Proofs Go.Abs Go.RowKit Go.NetM
set_option maxRecDepth 10000
attribute [local irreducible] WS QS OS OD Abs.Sub SubO SubK CW GSl.av accA growA
section
variable {pr : Prims}
end
end Go.OptEnv

namespace Go.OptEnv
open Go Go.Proofs Go.Abs Go.RowKit Go.NetM
set_option maxRecDepth 10000
attribute [local irreducible] WS QS OS OD Abs.Sub SubO SubK CW GSl.av accA growA
section
variable {pr : Prims}
end
end Go.OptEnv

namespace Go.OptEnv
open Go Go.Proofs Go.Abs Go.RowKit Go.NetM
set_option maxRecDepth 10000
attribute [local irreducible] WS QS OS OD Abs.Sub SubO SubK CW GSl.av accA growA
section
variable {pr : Prims}
end
end Go.OptEnv

namespace Go.OptEnv
open Go Go.Proofs Go.Abs Go.RowKit Go.NetM
set_option maxRecDepth 100000
end Go.OptEnv

namespace Go.OptEnv
open Go Go.Proofs Go.Abs Go.RowKit Go.NetM
set_option maxRecDepth 10000
attribute [local irreducible] WS QS OS OD Abs.Sub SubO SubK CW GSl.av accA growA
section
variable {pr : Prims}
end
end Go.OptEnv

namespace Go.OptEnv
open Go Go.Proofs Go.Abs Go.RowKit Go.NetM
set_option maxRecDepth 10000
theorem fillZ_congr {z : Int} {k0 n : Nat} {keep : List Bool} {l l' : List Int} (h : ∀ i, i < n → keep.getD i false = false → l.getD i 0 = l'.getD i 0) : ∀ i, i ≤ n → fillZ z k0 n keep l i = fillZ z k0 n keep l' i
  | 0, _ => rfl
  | i + 1, hi => by
    have ih := fillZ_congr (z := z) (k0 := k0) h i (by omega)
    unfold fillZ
    split
    · exact ih
    · rename_i hk
      rw [ih, h i (by omega) (by simpa using hk)]
theorem without_congr {n : GNet} {keep : List Bool} {l l' : List Int} (h : ∀ i, i < n.regs.xs.length → keep.getD i false = false → l.getD i 0 = l'.getD i 0) : withoutN n keep l = withoutN n keep l' := by
  unfold withoutN rawNS againL
  rw [fillZ_congr h _ (Nat.le_refl _)]
end Go.OptEnv

namespace Go.OptEnv
open Go Go.Proofs Go.Abs Go.RowKit Go.NetM
set_option maxRecDepth 10000
theorem twins_ex (n : GNet) : ∃ c, Rel27 n c := by
  have hnl : n.nexts.length = n.regs.xs.length := by simp [GNet.nexts]
  have key : ∀ (m : Nat) (c : List Nat), NetM.Reach n.gates.xs n.ins.xs.length n.nexts n.inits c → n.regs.xs.length - fixN c ≤ m → ∃ c, Rel27 n c := by
    intro m
    induction m with
    | zero =>
      intro c hR hm
      have hC := hR.class (by simp [GNet.inits, GNet.nexts])
      have hcl : c.length = n.regs.xs.length := by rw [hC.len, ini_len]
      refine ⟨c, hR, Classical.byContradiction fun hne => ?_⟩
      have hlt := fixN_lt (gs := n.gates.xs) (nins := n.ins.xs.length) (next := n.nexts) (c := c) (by omega) hC.canon hne
      have hle := fixN_le (finerL n.gates.xs n.ins.xs.length n.nexts c)
      rw [finerL_len (by omega)] at hle
      omega
    | succ m ih =>
      intro c hR hm
      have hC := hR.class (by simp [GNet.inits, GNet.nexts])
      have hcl : c.length = n.regs.xs.length := by rw [hC.len, ini_len]
      by_cases hf : finerL n.gates.xs n.ins.xs.length n.nexts c = c
      · exact ⟨c, hR, hf⟩
      · have hlt := fixN_lt (gs := n.gates.xs) (nins := n.ins.xs.length) (next := n.nexts) (c := c) (by omega) hC.canon hf
        exact ih _ (.succ hR) (by omega)
  exact key _ _ .zero (Nat.le_refl _)
theorem twins_rel (n : GNet) : Rel27 n (twinsN n) := by
  obtain ⟨c, h⟩ := twins_ex n
  rw [twins_eq h]; exact h
theorem twins_class (n : GNet) : Class n.inits (twinsN n) := (twins_rel n).1.class (by simp [GNet.inits, GNet.nexts])
theorem twins_len (n : GNet) : (twinsN n).length = n.regs.xs.length := by rw [(twins_class n).len, ini_len]
def keepT (c : List Nat) : List Bool := c.zipIdx.map fun p => decide (p.1 = p.2)
def litT (k0 : Nat) (c : List Nat) : List Int := c.map fun k => 2 * ((k0 + k : Nat) : Int)
def standT (k0 : Nat) (c : List Nat) : List Int := c.zipIdx.map fun p => if p.1 = p.2 then -1 else 2 * ((k0 + p.1 : Nat) : Int)
theorem keepT_len (c : List Nat) : (keepT c).length = c.length := by simp [keepT]
theorem litT_len (k0 : Nat) (c : List Nat) : (litT k0 c).length = c.length := by simp [litT]
theorem standT_len (k0 : Nat) (c : List Nat) : (standT k0 c).length = c.length := by simp [standT]
theorem keepT_at {c : List Nat} {i : Nat} (h : i < c.length) : (keepT c)[i]'(by rw [keepT_len]; exact h) = decide (c[i] = i) := by simp [keepT]
theorem litT_at {k0 : Nat} {c : List Nat} {i : Nat} (h : i < c.length) : (litT k0 c)[i]'(by rw [litT_len]; exact h) = 2 * ((k0 + c[i] : Nat) : Int) := by simp [litT]
theorem standT_at {k0 : Nat} {c : List Nat} {i : Nat} (h : i < c.length) : (standT k0 c)[i]'(by rw [standT_len]; exact h) = if c[i] = i then -1 else 2 * ((k0 + c[i] : Nat) : Int) := by simp [standT]
theorem keepT_get {c : List Nat} {i : Nat} (h : i < c.length) : (keepT c).getD i false = decide (c[i] = i) := by
  rw [List.getD_eq_getElem?_getD, List.getElem?_eq_getElem (by rw [keepT_len]; exact h), Option.getD_some, keepT_at h]
theorem litT_get {k0 : Nat} {c : List Nat} {i : Nat} (h : i < c.length) : (litT k0 c).getD i 0 = 2 * ((k0 + c[i] : Nat) : Int) := by
  rw [List.getD_eq_getElem?_getD, List.getElem?_eq_getElem (by rw [litT_len]; exact h), Option.getD_some, litT_at h]
theorem standT_get {k0 : Nat} {c : List Nat} {i : Nat} (h : i < c.length) : (standT k0 c).getD i 0 = if c[i] = i then -1 else 2 * ((k0 + c[i] : Nat) : Int) := by
  rw [List.getD_eq_getElem?_getD, List.getElem?_eq_getElem (by rw [standT_len]; exact h), Option.getD_some, standT_at h]
theorem canon_at {c : List Nat} (hc : Canon c) {i : Nat} (h : i < c.length) : c[i] ≤ i ∧ ∃ h' : c[i] < c.length, c[c[i]] = c[i] := by
  obtain ⟨a, b⟩ := hc i h
  have e : c.getD i 0 = c[i] := by rw [List.getD_eq_getElem?_getD, List.getElem?_eq_getElem h, Option.getD_some]
  rw [e] at a b
  rw [List.getD_eq_getElem?_getD, List.getElem?_eq_getElem (by omega), Option.getD_some] at b
  exact ⟨a, by omega, b⟩
theorem litT_stand {k0 : Nat} {c : List Nat} (hc : Canon c) : Stand k0 c.length (keepT c) (litT k0 c) := fun i hi hk => by
  obtain ⟨a, h', b⟩ := canon_at hc hi
  rw [litT_get hi]
  refine ⟨by omega, by omega, .inr ?_⟩
  rw [show (2 * ((k0 + c[i] : Nat) : Int) / 2).toNat - k0 = c[i] by omega, keepT_get h', decide_eq_true b]
theorem standT_stand {k0 : Nat} {c : List Nat} (hc : Canon c) : Stand k0 c.length (keepT c) (standT k0 c) := fun i hi hk => by
  have h := litT_stand (k0 := k0) hc i hi hk
  rw [keepT_get hi] at hk
  rw [standT_get hi, if_neg (of_decide_eq_false hk), ← litT_get hi]
  exact h
theorem negT {k0 : Nat} {c : List Nat} : (standT k0 c).map (fun s => decide (s < 0)) = keepT c := by
  unfold standT keepT
  rw [List.map_map]
  refine List.map_congr_left fun p _ => ?_
  simp only [Function.comp]
  by_cases h : p.1 = p.2
  · simp [h]
  · simp only [h, if_false, decide_false, decide_eq_false_iff_not]
    omega
noncomputable def mergeP (n : GNet) : GNet := againN n (keepT (twinsN n)) (litT n.k0 (twinsN n))
noncomputable def mergeQ (n : GNet) : GNet := foldR (withoutN n (keepT (twinsN n)) (standT n.k0 (twinsN n)))
theorem merge_stand (n : GNet) : Stand n.k0 n.regs.xs.length (keepT (twinsN n)) (litT n.k0 (twinsN n)) := by
  have := litT_stand (k0 := n.k0) (twins_class n).canon
  rwa [twins_len] at this
theorem merge_standQ (n : GNet) : Stand n.k0 n.regs.xs.length (keepT (twinsN n)) (standT n.k0 (twinsN n)) := by
  have := standT_stand (k0 := n.k0) (twins_class n).canon
  rwa [twins_len] at this
theorem merge_same {n : GNet} (hv : validM n = true) : SameC (mergeP n) (mergeQ n) := by
  unfold mergeP mergeQ
  have e : withoutN n (keepT (twinsN n)) (standT n.k0 (twinsN n)) = withoutN n (keepT (twinsN n)) (litT n.k0 (twinsN n)) := without_congr fun i hi hk => by
    have hl := twins_len n
    rw [keepT_get (by omega)] at hk
    rw [standT_get (by omega), if_neg (of_decide_eq_false hk), litT_get (by omega)]
  rw [e]
  exact again_fold hv (merge_stand n)
theorem mergeP_fits {n : GNet} (hv : validM n = true) (hn : FitsN n) : FitsN (mergeP n) := clean_fits (again_valid hv (merge_stand n)) (again_fits hv hn (merge_stand n))
end Go.OptEnv
