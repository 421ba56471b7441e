/- Own text of this claim: part 5 of an interpreter that is proved sound against the model, and of what it shows of the law. -/
import Derived.Test.YtnipphfkiikbdaaDoorAbs4
/- Regions that draw their order: any order does what the order of the text does. -/
namespace Go.Abs
open Go.RowKit

/-! ### Tmps by who has been -/
def tmS (S : Nat → Bool) : List (Option Tmp × AV) → Nat → TM → TM
  | [], _, tm => tm
  | p :: r, i, tm => tmS S r (i + 1) (if S i then putO tm p.1 p.2 else tm)
def dsOf (r : List Oper) (l : List Tr) : List (Option Tmp × AV) := List.zipWith (fun o e => (o.dst, e.v)) r l
def stA (st : St) : List Tr → Nat → St
  | [], _ => st
  | _ :: _, 0 => st
  | e :: l, k + 1 => stA e.now l k

theorem stA_zero (st : St) (l : List Tr) : stA st l 0 = st := by cases l <;> rfl

theorem tmS_congr {S S' : Nat → Bool} : ∀ (ds : List (Option Tmp × AV)) (i : Nat) (tm : TM), (∀ m, i ≤ m → S m = S' m) → tmS S ds i tm = tmS S' ds i tm
  | [], _, _, _ => rfl
  | p :: r, i, tm, h => by
    simp only [tmS]
    rw [h i (Nat.le_refl _)]
    exact tmS_congr r (i + 1) _ fun m hm => h m (by omega)
theorem tmS_none {S : Nat → Bool} : ∀ (ds : List (Option Tmp × AV)) (i : Nat) (tm : TM), (∀ m, i ≤ m → S m = false) → tmS S ds i tm = tm
  | [], _, _, _ => rfl
  | p :: r, i, tm, h => by
    simp only [tmS]
    rw [h i (Nat.le_refl _)]
    exact tmS_none r (i + 1) _ fun m hm => h m (by omega)

theorem putO_get (tm : TM) (d : Option Tmp) (v : AV) (t : Nat) : (putO tm d v).get t = if d = some t ∧ t < tm.n then v else tm.get t := by
  cases d with
  | none => simp [putO]
  | some d =>
    simp only [putO, TM.get_put]
    by_cases h : t = d
    · subst h; simp
    · rw [if_neg (fun k => h k.1), if_neg (fun k => h (Option.some.inj k.1).symm)]

/-- The same tmps. -/
def Same (a b : TM) : Prop := a.n = b.n ∧ ∀ t, a.get t = b.get t
theorem Same.refl (a : TM) : Same a a := ⟨rfl, fun _ => rfl⟩
theorem Same.trans {a b c : TM} (h : Same a b) (k : Same b c) : Same a c := ⟨h.1.trans k.1, fun t => (h.2 t).trans (k.2 t)⟩
theorem Same.symm {a b : TM} (h : Same a b) : Same b a := ⟨h.1.symm, fun t => (h.2 t).symm⟩
theorem Same.put {a b : TM} (h : Same a b) (d : Option Tmp) (v : AV) : Same (putO a d v) (putO b d v) :=
  ⟨by simp [h.1], fun t => by rw [putO_get, putO_get, h.1, h.2 t]⟩
theorem RT.same {Γ : Ghost} {a b : TM} {vs : Array Value} (h : Same a b) (k : RT Γ a vs) : RT Γ b vs :=
  ⟨k.size.trans h.1, fun t => (h.2 t) ▸ k.get t⟩

theorem tmS_n {S : Nat → Bool} : ∀ (ds : List (Option Tmp × AV)) (i : Nat) (tm : TM), (tmS S ds i tm).n = tm.n
  | [], _, _ => rfl
  | p :: r, i, tm => by
    simp only [tmS]
    rw [tmS_n r (i + 1)]
    split
    · exact putO_n _ _ _
    · rfl
theorem tmS_same {S : Nat → Bool} : ∀ (ds : List (Option Tmp × AV)) (i : Nat) {a b : TM}, Same a b → Same (tmS S ds i a) (tmS S ds i b)
  | [], _, _, _, h => h
  | p :: r, i, a, b, h => by
    simp only [tmS]
    refine tmS_same r (i + 1) ?_
    split
    · exact h.put _ _
    · exact h

theorem tmS_at {S S' : Nat → Bool} {t : Nat} : ∀ (ds : List (Option Tmp × AV)) (i : Nat) (tm tm' : TM), tm.n = tm'.n → tm.get t = tm'.get t →
    (∀ k v, ds[k]? = some (some t, v) → S (i + k) = S' (i + k)) → (tmS S ds i tm).get t = (tmS S' ds i tm').get t
  | [], _, _, _, _, h, _ => h
  | (d, v) :: r, i, tm, tm', hn, h, hk => by
    simp only [tmS]
    refine tmS_at r (i + 1) _ _ ?_ ?_ fun k v hv => by
      have := hk (k + 1) v (by simpa using hv)
      have e1 : i + 1 + k = i + (k + 1) := by omega
      rw [e1]; exact this
    · split <;> split <;> simp [hn]
    · by_cases hd : d = some t
      · have := hk 0 v (by simp [hd])
        rw [Nat.add_zero] at this
        rw [this]
        split
        · rw [putO_get, putO_get, h, hn]
        · exact h
      · have hf : ∀ x : TM, (putO x d v).get t = x.get t := fun x => by rw [putO_get, if_neg (fun k => hd k.1)]
        split <;> split <;> (try rw [hf]) <;> (try rw [hf]) <;> exact h

theorem putO_comm (tm : TM) {d e : Option Tmp} (v u : AV) (h : ∀ t, d = some t → e ≠ some t) : Same (putO (putO tm d v) e u) (putO (putO tm e u) d v) := by
  refine ⟨by simp, fun t => ?_⟩
  rw [putO_get, putO_get, putO_get, putO_get]
  simp only [putO_n]
  by_cases h1 : d = some t
  · have h2 := h t h1
    rw [if_neg (fun k => h2 k.1)]
    by_cases h3 : t < tm.n
    · rw [if_pos ⟨h1, h3⟩, if_pos ⟨h1, h3⟩]
    · rw [if_neg (fun k => h3 k.2), if_neg (fun k => h3 k.2), if_neg (fun k => h3 k.2)]
  · have e1 : ∀ x y : AV, (if d = some t ∧ t < tm.n then x else y) = y := fun x y => if_neg (fun k => h1 k.1)
    rw [e1, e1]
theorem tmS_comm {S : Nat → Bool} {d : Option Tmp} {v : AV} : ∀ (ds : List (Option Tmp × AV)) (i : Nat) (tm : TM),
    (∀ m p, ds[m]? = some p → S (i + m) = true → ∀ t, d = some t → p.1 ≠ some t) → Same (tmS S ds i (putO tm d v)) (putO (tmS S ds i tm) d v)
  | [], _, _, _ => Same.refl _
  | p :: r, i, tm, h => by
    simp only [tmS]
    have hr : ∀ tm, Same (tmS S r (i + 1) (putO tm d v)) (putO (tmS S r (i + 1) tm) d v) := fun tm =>
      tmS_comm r (i + 1) tm fun m q hq hs => h (m + 1) q (by simpa using hq) (by rw [Nat.add_right_comm] at hs; exact hs)
    split
    · rename_i hs
      exact (tmS_same r (i + 1) (putO_comm tm v p.2 (h 0 p rfl (by simpa using hs)))).trans (hr _)
    · exact hr tm
theorem tmS_put {S : Nat → Bool} {j : Nat} {d : Option Tmp} {v : AV} (hj : S j = false) : ∀ (ds : List (Option Tmp × AV)) (i k : Nat) (tm : TM), i + k = j → ds[k]? = some (d, v) →
    (∀ m p, k < m → ds[m]? = some p → S (i + m) = true → ∀ t, d = some t → p.1 ≠ some t) → Same (tmS (fun m => m == j || S m) ds i tm) (putO (tmS S ds i tm) d v)
  | [], _, _, _, _, h, _ => by simp at h
  | p :: r, i, 0, tm, hi, h, hd => by
    simp only [List.getElem?_cons_zero, Option.some.injEq] at h
    subst h
    have hij : i = j := by omega
    subst hij
    simp only [tmS, BEq.rfl, Bool.true_or, if_true, hj, Bool.false_eq_true, if_false]
    rw [tmS_congr (S' := S) r (i + 1) _ fun m hm => by
      have : (m == i) = false := by simp; omega
      simp [this]]
    exact tmS_comm r (i + 1) tm fun m q hq hs => hd (m + 1) q (by omega) (by simpa using hq) (by rw [Nat.add_right_comm] at hs; exact hs)
  | p :: r, i, k + 1, tm, hi, h, hd => by
    simp only [tmS]
    have : (i == j) = false := by simp; omega
    simp only [this, Bool.false_or]
    exact tmS_put hj r (i + 1) k _ (by omega) (by simpa using h) fun m q hm hq hs => hd (m + 1) q (by omega) (by simpa using hq) (by rw [Nat.add_right_comm] at hs; exact hs)

/-! ### The trace -/
theorem runOps_trace {E : Env} {call : Call1} {pre : Option Nat} {pol : Nat → Nat} {ops : Array Oper} : ∀ (r : List Oper) (i : Nat) (tm : TM) (st : St) {q : TM × St},
    runOps E call pre pol ops r i tm st = some q → ∃ l, runOpsT E call pre pol ops r i tm st = some (l, q)
  | [], _, _, _, _, h => by
    simp only [runOps, Option.some.injEq] at h
    subst h
    exact ⟨[], rfl⟩
  | o :: r, i, tm, st, q, h => by
    simp only [runOps] at h
    simp only [runOpsT]
    split at h
    · rename_i hw
      split at h
      · rename_i v st' hs
        obtain ⟨l, hl⟩ := runOps_trace r (i + 1) _ _ h
        simp only [hl]
        exact ⟨_, rfl⟩
      · cases h
    · rename_i hw
      obtain ⟨l, hl⟩ := runOps_trace r (i + 1) _ _ h
      simp only [hl]
      exact ⟨_, rfl⟩
    · cases h

/-- What a trace tells of one operation. -/
structure TrOk (E : Env) (call : Call1) (pre : Option Nat) (pol : Nat → Nat) (ops : Array Oper) (ds : List (Option Tmp × AV)) (i : Nat) (tm : TM) (st : St) (l : List Tr) (k : Nat) (o : Oper) (e : Tr) : Prop where
  at_ : l[k]? = some e
  tm : e.tm = tmS (fun m => decide (m < i + k)) ds i tm
  was : e.was = stA st l k
  now : e.now = stA st l (k + 1)
  did : wantedA ops e.tm o = some e.did
  done : e.did = true → stepPre E call pre (pol (i + k)) (i + k) e.tm e.was o = some (e.v, e.now)
  not : e.did = false → e.v = .tup [] ∧ e.now = e.was

theorem TrOk.shift {E : Env} {call : Call1} {pre : Option Nat} {pol : Nat → Nat} {ops : Array Oper} {r : List Oper} {i : Nat} {tm : TM} {st : St} {l : List Tr} {o : Oper} {e : Tr}
    (h : ∀ k p, r[k]? = some p → ∃ q, TrOk E call pre pol ops (dsOf r l) (i + 1) (putO tm o.dst e.v) e.now l k p q) {k : Nat} {p : Oper} (hk : r[k]? = some p) :
    ∃ q, TrOk E call pre pol ops (dsOf (o :: r) (e :: l)) i tm st (e :: l) (k + 1) p q := by
  obtain ⟨q, h1, h2, h3, h4, h5, h6, h7⟩ := h k p hk
  have hik : i + 1 + k = i + (k + 1) := by omega
  refine ⟨q, by simpa using h1, ?_, h3, h4, h5, ?_, h7⟩
  · rw [h2, hik]
    show _ = tmS _ ((o.dst, e.v) :: dsOf r l) i tm
    simp only [tmS]
    have : decide (i < i + (k + 1)) = true := by simp
    rw [this]; rfl
  · rw [← hik]; exact h6

theorem runOpsT_ok {E : Env} {call : Call1} {pre : Option Nat} {pol : Nat → Nat} {ops : Array Oper} : ∀ (r : List Oper) (i : Nat) (tm : TM) (st : St) {l : List Tr} {q : TM × St},
    runOpsT E call pre pol ops r i tm st = some (l, q) →
      l.length = r.length ∧ q.1 = tmS (fun _ => true) (dsOf r l) i tm ∧ q.2 = stA st l l.length ∧ ∀ k o, r[k]? = some o → ∃ e, TrOk E call pre pol ops (dsOf r l) i tm st l k o e
  | [], i, tm, st, l, q, h => by
    simp only [runOpsT, Option.some.injEq, Prod.mk.injEq] at h
    obtain ⟨rfl, rfl⟩ := h
    exact ⟨rfl, rfl, rfl, fun k o hk => by simp at hk⟩
  | o :: r, i, tm, st, l, q, h => by
    have first : ∀ (e : Tr) (l : List Tr), e.tm = tm → e.tm = tmS (fun m => decide (m < i + 0)) (dsOf (o :: r) (e :: l)) i tm := fun e l he => by
      rw [he, tmS_none]
      intro m hm; simp; omega
    simp only [runOpsT] at h
    split at h
    · rename_i hw
      split at h
      · rename_i v st' hs
        split at h
        · rename_i l' q' hl
          simp only [Option.some.injEq, Prod.mk.injEq] at h
          obtain ⟨rfl, rfl⟩ := h
          obtain ⟨h1, h2, h3, h4⟩ := runOpsT_ok r (i + 1) _ _ hl
          refine ⟨by simp [h1], h2, h3, fun k p hk => ?_⟩
          cases k with
          | zero =>
            simp only [List.getElem?_cons_zero, Option.some.injEq] at hk
            subst hk
            exact ⟨⟨tm, st, st', v, true⟩, ⟨rfl, first _ _ rfl, rfl, (stA_zero _ _).symm, hw, fun _ => hs, fun hd => by cases hd⟩⟩
          | succ k => exact TrOk.shift (e := ⟨tm, st, st', v, true⟩) h4 (by simpa using hk)
        · cases h
      · cases h
    · rename_i hw
      split at h
      · rename_i l' q' hl
        simp only [Option.some.injEq, Prod.mk.injEq] at h
        obtain ⟨rfl, rfl⟩ := h
        obtain ⟨h1, h2, h3, h4⟩ := runOpsT_ok r (i + 1) _ _ hl
        refine ⟨by simp [h1], h2, h3, fun k p hk => ?_⟩
        cases k with
        | zero =>
          simp only [List.getElem?_cons_zero, Option.some.injEq] at hk
          subst hk
          exact ⟨⟨tm, st, st, .tup [], false⟩, ⟨rfl, first _ _ rfl, rfl, (stA_zero _ _).symm, hw, fun hd => (by cases hd), fun _ => ⟨rfl, rfl⟩⟩⟩
        | succ k => exact TrOk.shift (e := ⟨tm, st, st, .tup [], false⟩) h4 (by simpa using hk)
      · cases h
    · cases h

/-! ### All that is known of a region -/
structure Facts (E : Env) (call : Call1) (base : Nat) (pol : Nat → Nat) (ops : Array Oper) (l : List Tr) (tm : TM) (st : St) : Prop where
  edges : ∀ (j : Nat) (o : Oper), ops[j]? = some o → ∀ e ∈ o.after, Region.binds .any e = true → e.on < j
  pairs : ∀ (i j : Nat) (p o : Oper), i < j → ops[i]? = some p → ops[j]? = some o → isBefore (Region.before ops) i j = true ∨
    ((∀ d, p.dst = some d → d ∉ namesOf ops o) ∧ (∀ d, o.dst = some d → d ∉ namesOf ops p) ∧ ¬ (turns o.op = true ∧ turns p.op = true))
  len : l.length = ops.size
  tr : ∀ (k : Nat) (o : Oper), ops[k]? = some o → ∃ e, TrOk E call (some base) pol ops (dsOf ops.toList l) 0 tm st l k o e
  dyn : ∀ (i j : Nat) (o p : Oper) (e q : Tr), ops[i]? = some o → ops[j]? = some p → turns o.op = true → readsSt p.op = true → i ≠ j →
    ¬ (i < j ∧ isBefore (Region.before ops) i j = true) → ¬ (j < i ∧ isBefore (Region.before ops) j i = true) → l[i]? = some e → l[j]? = some q → e.did = true → q.did = true →
    quiet E q.tm e.was p = some q.v ∧ quiet E q.tm e.now p = some q.v

theorem drawStatic_spec {ops : Array Oper} (h : drawStatic ops = true) :
    (∀ (j : Nat) (o : Oper), ops[j]? = some o → ∀ e ∈ o.after, Region.binds .any e = true → e.on < j) ∧
    (∀ (i j : Nat) (p o : Oper), i < j → ops[i]? = some p → ops[j]? = some o → isBefore (Region.before ops) i j = true ∨
      ((∀ d, p.dst = some d → d ∉ namesOf ops o) ∧ (∀ d, o.dst = some d → d ∉ namesOf ops p) ∧ ¬ (turns o.op = true ∧ turns p.op = true))) := by
  have mem : ∀ (j : Nat) (o : Oper), ops[j]? = some o → (o, j) ∈ ops.toList.zipIdx := fun j o h => by
    rw [List.mem_zipIdx_iff_getElem?]; simpa using h
  simp only [drawStatic, Bool.and_eq_true, List.all_eq_true] at h
  obtain ⟨h1, h2⟩ := h
  refine ⟨fun j o hj e he hb => ?_, fun i j p o hij hi hj => ?_⟩
  · have := h1 (o, j) (mem j o hj)
    simp only [Array.all_eq_true_iff_forall_mem] at this
    have := this e he
    simpa [hb] using this
  · have := h2 (o, j) (mem j o hj) (p, i) (mem i p hi)
    simp only [Bool.or_eq_true, decide_eq_true_eq, Bool.and_eq_true, Bool.not_eq_true', Bool.and_eq_false_imp] at this
    rcases this with (h | h) | ⟨⟨h3, h4⟩, h5⟩
    · omega
    · exact .inl h
    · refine .inr ⟨fun d hd => ?_, fun d hd => ?_, fun ⟨x, y⟩ => ?_⟩
      · rw [hd] at h3
        simpa using h3
      · rw [hd] at h4
        simpa using h4
      · rw [h5 x] at y; cases y

theorem Facts.mk' {E : Env} {call : Call1} {base : Nat} {pol : Nat → Nat} {ops : Array Oper} {l : List Tr} {tm : TM} {st : St} {q : TM × St}
    (hs : drawStatic ops = true) (hr : runOpsT E call (some base) pol ops ops.toList 0 tm st = some (l, q)) (hd : (dynPairs ops).all (dynOk E ops l) = true) : Facts E call base pol ops l tm st := by
  obtain ⟨h1, h2⟩ := drawStatic_spec hs
  obtain ⟨h3, _, _, h4⟩ := runOpsT_ok _ _ _ _ hr
  refine ⟨h1, h2, by simpa using h3, fun k o hk => h4 k o (by simpa using hk), ?_⟩
  intro i j o p e q hi hj ht hre hne hn1 hn2 he hq hed hqd
  have mem : ∀ (j : Nat) (o : Oper), ops[j]? = some o → (o, j) ∈ ops.toList.zipIdx := fun j o h => by
    rw [List.mem_zipIdx_iff_getElem?]; simpa using h
  have hm : (i, j) ∈ dynPairs ops := by
    simp only [dynPairs, List.mem_flatMap]
    refine ⟨(o, i), mem i o hi, ?_⟩
    simp only [ht, if_true, List.mem_filterMap]
    refine ⟨(p, j), mem j p hj, ?_⟩
    have c1 : (decide (i < j) && isBefore (Region.before ops) i j) = false := by
      rw [Bool.eq_false_iff]; intro h
      simp only [Bool.and_eq_true, decide_eq_true_eq] at h
      exact hn1 h
    have c2 : (decide (j < i) && isBefore (Region.before ops) j i) = false := by
      rw [Bool.eq_false_iff]; intro h
      simp only [Bool.and_eq_true, decide_eq_true_eq] at h
      exact hn2 h
    have c3 : (i != j) = true := by simpa using hne
    simp only [hre, c1, c2, c3]
    rfl
  have := List.all_eq_true.1 hd _ hm
  simp only [dynOk, he, hq, hj, hed, hqd, Bool.not_true, Bool.false_or] at this
  split at this
  · rename_i a b ha hb
    simp only [Bool.and_eq_true] at this
    rw [ha, hb, AV.eq_of_beq _ _ this.1, AV.eq_of_beq _ _ this.2]
    exact ⟨rfl, rfl⟩
  · cases this

end Go.Abs

/- Regions that draw their order: the walk. -/
namespace Go.Abs
open Go.RowKit

section
variable {P : Program} {E : Env} {call : Call1} {base : Nat} {pol : Nat → Nat} {ops : Array Oper} {l : List Tr} {tm : TM} {st : St}

/-- Who has been: closed under what is before. -/
def Closed (ops : Array Oper) (S : Nat → Bool) : Prop := ∀ i j, S j = true → isBefore (Region.before ops) i j = true → S i = true

theorem ds_get {k : Nat} {p : Option Tmp × AV} (h : (dsOf ops.toList l)[k]? = some p) : ∃ o e, ops[k]? = some o ∧ l[k]? = some e ∧ p = (o.dst, e.v) := by
  unfold dsOf at h
  rw [List.getElem?_zipWith] at h
  cases h1 : ops.toList[k]? with
  | none => rw [h1] at h; simp at h
  | some o =>
    cases h2 : l[k]? with
    | none => rw [h1, h2] at h; simp at h
    | some e =>
      rw [h1, h2] at h
      simp only [Option.some.injEq] at h
      exact ⟨o, e, by simpa using h1, rfl, h.symm⟩
theorem ds_of {k : Nat} {o : Oper} {e : Tr} (h1 : ops[k]? = some o) (h2 : l[k]? = some e) : (dsOf ops.toList l)[k]? = some (o.dst, e.v) := by
  unfold dsOf
  rw [List.getElem?_zipWith]
  have : ops.toList[k]? = some o := by simpa using h1
  rw [this, h2]

theorem before_in {S : Nat → Bool} (F : Facts E call base pol ops l tm st) (hc : Closed ops S) {j : Nat} {o : Oper} (hj : ops[j]? = some o) (hr : ∀ e ∈ o.after, Region.binds .any e = true → S e.on = true) :
    ∀ i, isBefore (Region.before ops) i j = true → S i = true := by
  intro i hi
  obtain ⟨e, he, hb, h⟩ := isBefore_edge hj (F.edges j o hj) hi
  have := hr e he hb
  rcases h with rfl | h
  · exact this
  · exact hc i e.on this h

theorem Closed.add {S : Nat → Bool} (F : Facts E call base pol ops l tm st) (hc : Closed ops S) {j : Nat} {o : Oper} (hj : ops[j]? = some o) (hr : ∀ e ∈ o.after, Region.binds .any e = true → S e.on = true) :
    Closed ops (fun m => m == j || S m) := by
  intro i k hk hb
  simp only [Bool.or_eq_true, beq_iff_eq] at hk ⊢
  rcases hk with rfl | hk
  · exact .inr (before_in F hc hj hr i hb)
  · exact .inr (hc i k hk hb)

theorem names_same {S : Nat → Bool} (F : Facts E call base pol ops l tm st) (hc : Closed ops S) {j : Nat} {o : Oper} {e : Tr} (hj : ops[j]? = some o) (hSj : S j = false)
    (hr : ∀ e ∈ o.after, Region.binds .any e = true → S e.on = true) (he : TrOk E call (some base) pol ops (dsOf ops.toList l) 0 tm st l j o e) :
    ∀ t ∈ namesOf ops o, (tmS S (dsOf ops.toList l) 0 tm).get t = e.tm.get t := by
  intro t ht
  rw [he.tm]
  refine tmS_at _ 0 tm tm rfl rfl fun k v hk => ?_
  obtain ⟨p, q, hp, hq, heq⟩ := ds_get hk
  have hd : p.dst = some t := (congrArg Prod.fst heq).symm
  rw [Nat.zero_add, Nat.zero_add]
  rcases Nat.lt_trichotomy k j with h | h | h
  · rcases F.pairs k j p o h hp hj with hb | ⟨hb, _, _⟩
    · rw [before_in F hc hj hr k hb]; simp [h]
    · exact absurd ht (hb t hd)
  · subst h; rw [hSj]; simp
  · have hS : S k = false := by
      rcases F.pairs j k o p h hj hp with hb | ⟨_, hb, _⟩
      · cases hk : S k with
        | false => rfl
        | true => rw [hc j k hk hb] at hSj; cases hSj
      · exact absurd ht (hb t hd)
    rw [hS]
    have : ¬ k < j := by omega
    simp [this]

theorem put_same {S : Nat → Bool} (F : Facts E call base pol ops l tm st) (hc : Closed ops S) {j : Nat} {o : Oper} {e : Tr} (hj : ops[j]? = some o) (hSj : S j = false) (he : l[j]? = some e) :
    Same (tmS (fun m => m == j || S m) (dsOf ops.toList l) 0 tm) (putO (tmS S (dsOf ops.toList l) 0 tm) o.dst e.v) := by
  refine tmS_put hSj _ 0 j tm (Nat.zero_add j) (ds_of hj he) ?_
  intro m p hm hp hS t hd hpd
  obtain ⟨o', e', h1, h2, rfl⟩ := ds_get hp
  dsimp only at hpd
  rw [Nat.zero_add] at hS
  rcases F.pairs j m o o' hm hj h1 with hb | ⟨hb, _, _⟩
  · rw [hc j m hS hb] at hSj; cases hSj
  · exact absurd (by rw [namesOf, hpd]; simp) (hb t hd)

/-- An operation that does not turn the state leaves it. -/
theorem quiet_state {k : Nat} {o : Oper} {e : Tr} (he : TrOk E call (some base) pol ops (dsOf ops.toList l) 0 tm st l k o e) (ht : turns o.op = false ∨ e.did = false) : e.now = e.was := by
  cases hd : e.did with
  | false => exact (he.not hd).2
  | true =>
    rcases ht with ht | ht
    · have := he.done hd
      unfold stepPre at this
      split at this
      · simp only [Option.some.injEq, Prod.mk.injEq] at this; exact this.2.symm
      · rename_i hna
        have hl : isLoud o.op = false := by
          cases hop : o.op <;> rw [hop] at ht <;> first | exact ht | (exact absurd hop (hna _ _ rfl))
        unfold stepOp at this
        rw [hl] at this
        simp only [Bool.false_eq_true, if_false, Option.map_eq_some_iff, Prod.mk.injEq] at this
        obtain ⟨_, _, _, h⟩ := this
        exact h.symm
    · rw [hd] at ht; cases ht

theorem state_step (F : Facts E call base pol ops l tm st) {k : Nat} {o : Oper} (hk : ops[k]? = some o) (ht : turns o.op = false) : stA st l (k + 1) = stA st l k := by
  obtain ⟨e, he⟩ := F.tr k o hk
  rw [← he.now, ← he.was]
  exact quiet_state he (.inl ht)
theorem state_same (F : Facts E call base pol ops l tm st) {a : Nat} : ∀ (n : Nat), a + n ≤ ops.size → (∀ i o, a ≤ i → i < a + n → ops[i]? = some o → turns o.op = false) → stA st l (a + n) = stA st l a
  | 0, _, _ => rfl
  | n + 1, hn, h => by
    rw [← Nat.add_assoc, state_step F (Array.getElem?_eq_getElem (by omega : a + n < ops.size)) (h (a + n) _ (by omega) (by omega) (Array.getElem?_eq_getElem (by omega)))]
    exact state_same F n (by omega) fun i o h1 h2 => h i o h1 (by omega)

/-- The turns that have been are the first ones. -/
def UpTo (ops : Array Oper) (S : Nat → Bool) (k : Nat) : Prop := k ≤ ops.size ∧ ∀ i o, ops[i]? = some o → turns o.op = true → (S i = true ↔ i < k)

theorem turn_state {S : Nat → Bool} (F : Facts E call base pol ops l tm st) (hc : Closed ops S) {k : Nat} (hk : UpTo ops S k) {j : Nat} {o : Oper} (hj : ops[j]? = some o) (hSj : S j = false)
    (hr : ∀ e ∈ o.after, Region.binds .any e = true → S e.on = true) (ht : turns o.op = true) : stA st l k = stA st l j ∧ UpTo ops (fun m => m == j || S m) (j + 1) := by
  have hlt : j < ops.size := (Array.getElem?_eq_some_iff.1 hj).1
  have hkj : k ≤ j := by
    have := (hk.2 j o hj ht)
    rcases Nat.lt_or_ge j k with h | h
    · rw [this.2 h] at hSj; cases hSj
    · exact h
  have hno : ∀ i p, k ≤ i → i < j → ops[i]? = some p → turns p.op = false := by
    intro i p h1 h2 hp
    cases htp : turns p.op with
    | false => rfl
    | true =>
      have hS : S i = true := by
        rcases F.pairs i j p o h2 hp hj with hb | ⟨_, _, hb⟩
        · exact before_in F hc hj hr i hb
        · exact absurd ⟨ht, htp⟩ hb
      have := (hk.2 i p hp htp).1 hS
      omega
  refine ⟨?_, by omega, fun i p hp htp => ?_⟩
  · have := state_same F (a := k) (j - k) (by omega) fun i p h1 h2 hp => hno i p h1 (by omega) hp
    rw [Nat.add_sub_cancel' hkj] at this
    exact this.symm
  · simp only [Bool.or_eq_true, beq_iff_eq]
    rcases Nat.lt_trichotomy i j with h | h | h
    · have : i < k := by
        rcases Nat.lt_or_ge i k with h' | h'
        · exact h'
        · rw [hno i p h' h hp] at htp; cases htp
      constructor
      · intro _; omega
      · intro _; exact .inr ((hk.2 i p hp htp).2 this)
    · subst h; simp
    · have hS := hk.2 i p hp htp
      constructor
      · rintro (h' | h')
        · omega
        · have := hS.1 h'; omega
      · intro h'; omega

theorem UpTo.add {S : Nat → Bool} {k j : Nat} (hk : UpTo ops S k) {o : Oper} (hj : ops[j]? = some o) (ht : turns o.op = false) : UpTo ops (fun m => m == j || S m) k := by
  refine ⟨hk.1, fun i p hp htp => ?_⟩
  simp only [Bool.or_eq_true, beq_iff_eq]
  have := hk.2 i p hp htp
  constructor
  · rintro (rfl | h)
    · rw [hj] at hp; cases hp; rw [ht] at htp; cases htp
    · exact this.1 h
  · exact fun h => .inr (this.2 h)

/-- What a quiet operation reads is the same wherever it can stand. -/
theorem quiet_same {S : Nat → Bool} (F : Facts E call base pol ops l tm st) (hc : Closed ops S) {k : Nat} (hk : UpTo ops S k) {j : Nat} {o : Oper} {q : Tr} (hj : ops[j]? = some o) (hSj : S j = false)
    (hr : ∀ e ∈ o.after, Region.binds .any e = true → S e.on = true) (hl : isLoud o.op = false) (he : TrOk E call (some base) pol ops (dsOf ops.toList l) 0 tm st l j o q) (hd : q.did = true) :
    quiet E q.tm (stA st l k) o = some q.v := by
  have hlt : j < ops.size := (Array.getElem?_eq_some_iff.1 hj).1
  have hown : quiet E q.tm (stA st l j) o = some q.v := by
    have := he.done hd
    unfold stepPre at this
    split at this
    · rename_i _ t h1 h2; rw [h2] at hl; simp [isLoud] at hl
    · unfold stepOp at this
      rw [hl] at this
      simp only [Bool.false_eq_true, if_false, Option.map_eq_some_iff, Prod.mk.injEq] at this
      obtain ⟨v, h1, rfl, _⟩ := this
      rw [← he.was]; exact h1
  cases hre : readsSt o.op with
  | false => rw [quiet_any hre]; exact hown
  | true =>
    have hjt : turns o.op = false := by
      cases hop : o.op <;> rw [hop] at hl <;> first | exact hl | rfl
    -- downwards from j
    have down : ∀ (n : Nat) (a : Nat), a + n = j → k ≤ a → quiet E q.tm (stA st l a) o = some q.v := by
      intro n
      induction n with
      | zero => intro a ha _; rw [show a = j by omega]; exact hown
      | succ n ih =>
        intro a ha hka
        have hal : a < ops.size := by omega
        obtain ⟨p, hp⟩ : ∃ p, ops[a]? = some p := ⟨_, Array.getElem?_eq_getElem hal⟩
        obtain ⟨e, hte⟩ := F.tr a p hp
        have hnext := ih (a + 1) (by omega) (by omega)
        cases htp : turns p.op with
        | false => rw [← state_step F hp htp]; exact hnext
        | true =>
          cases hed : e.did with
          | false =>
            have := quiet_state hte (.inr hed)
            rw [hte.now, hte.was] at this
            rw [← this]; exact hnext
          | true =>
            have := (F.dyn a j p o e q hp hj htp hre (by omega) (fun ⟨_, hb⟩ => by
              have := before_in F hc hj hr a hb
              have := (hk.2 a p hp htp).1 this
              omega) (fun ⟨h, _⟩ => by omega) hte.at_ he.at_ hed hd).1
            rw [hte.was] at this; exact this
    have up : ∀ (n : Nat), j + n ≤ k → quiet E q.tm (stA st l (j + n)) o = some q.v := by
      intro n
      induction n with
      | zero => intro _; exact hown
      | succ n ih =>
        intro hn
        have hal : j + n < ops.size := by have := hk.1; omega
        obtain ⟨p, hp⟩ : ∃ p, ops[j + n]? = some p := ⟨_, Array.getElem?_eq_getElem hal⟩
        obtain ⟨e, hte⟩ := F.tr (j + n) p hp
        have hprev := ih (by omega)
        rw [← Nat.add_assoc]
        cases htp : turns p.op with
        | false => rw [state_step F hp htp]; exact hprev
        | true =>
          cases hed : e.did with
          | false =>
            have := quiet_state hte (.inr hed)
            rw [hte.now, hte.was] at this
            rw [this]; exact hprev
          | true =>
            have hnj : j + n ≠ j := by
              intro h
              rw [h] at hp; rw [hj] at hp; cases hp
              rw [hjt] at htp; cases htp
            have hS := (hk.2 _ p hp htp).2 (by omega)
            have := (F.dyn (j + n) j p o e q hp hj htp hre hnj (fun ⟨h, _⟩ => by omega) (fun ⟨_, hb⟩ => by
              have := hc j (j + n) hS hb
              rw [hSj] at this; cases this) hte.at_ he.at_ hed hd).2
            rw [hte.now] at this; exact this
    rcases Nat.le_total k j with h | h
    · exact down (j - k) k (by omega) (Nat.le_refl _)
    · have := up (k - j) (by omega)
      rw [Nat.add_sub_cancel' h] at this; exact this
end
end Go.Abs

/- Regions that draw their order: joined. -/
namespace Go.Abs
open Go.RowKit

section
variable {P : Program} {E : Env} {call : Call1} {base : Nat} {pol : Nat → Nat} {ops : Array Oper} {l : List Tr} {tm : TM} {st : St}

theorem preObjs_ok {base : Nat} : ∀ (r : List Oper) (i : Nat) {acc objs : List (Nat × AObj)}, preObjs E base r i acc = some objs →
    (∀ b, (b < base + i ∨ base + i + r.length ≤ b) → getL objs b = getL acc b) ∧
    (∀ (k : Nat) (o : Oper) (t : TypeId), r[k]? = some o → o.op = .alloc t → ∃ ty, E.ty t = some ty ∧ 0 < ty.size ∧ getL objs (base + (i + k)) = some (.row ty.size [ty.zeroV])) ∧
    (∀ b, getL objs b = getL acc b ∨ ∃ sz xs, getL objs b = some (.row sz xs))
  | [], i, acc, objs, h => by
    simp only [preObjs, Option.some.injEq] at h
    subst h
    exact ⟨fun _ _ => rfl, fun k o t hk => by simp at hk, fun _ => .inl rfl⟩
  | o :: r, i, acc, objs, h => by
    simp only [preObjs] at h
    have other : preObjs E base r (i + 1) acc = some objs → (∀ t, o.op ≠ .alloc t) → _ := fun h hn => by
      obtain ⟨h1, h2, h3⟩ := preObjs_ok r (i + 1) h
      refine (⟨fun b hb => h1 b (by simp only [List.length_cons] at hb; omega), fun k p t hk hp => ?_, h3⟩ :
        (∀ b, (b < base + i ∨ base + i + (o :: r).length ≤ b) → getL objs b = getL acc b) ∧
        (∀ (k : Nat) (p : Oper) (t : TypeId), (o :: r)[k]? = some p → p.op = .alloc t → ∃ ty, E.ty t = some ty ∧ 0 < ty.size ∧ getL objs (base + (i + k)) = some (.row ty.size [ty.zeroV])) ∧
        (∀ b, getL objs b = getL acc b ∨ ∃ sz xs, getL objs b = some (.row sz xs)))
      cases k with
      | zero =>
        simp only [List.getElem?_cons_zero, Option.some.injEq] at hk
        subst hk
        exact absurd hp (hn t)
      | succ k =>
        have e1 : i + (k + 1) = i + 1 + k := by omega
        rw [e1]; exact h2 k p t (by simpa using hk) hp
    split at h
    · rename_i t hop
      split at h
      · rename_i ty ht
        split at h
        · rename_i hsz
          obtain ⟨h1, h2, h3⟩ := preObjs_ok r (i + 1) h
          have own : getL objs (base + i) = some (.row ty.size [ty.zeroV]) := by
            rw [h1 _ (.inl (by omega)), getL_cons, if_pos rfl]
          refine ⟨fun b hb => ?_, fun k p t' hk hp => ?_, fun b => ?_⟩
          · simp only [List.length_cons] at hb
            rw [h1 b (by omega), getL_cons, if_neg (by omega)]
          · cases k with
            | zero =>
              simp only [List.getElem?_cons_zero, Option.some.injEq] at hk
              subst hk
              rw [hop] at hp; cases hp
              exact ⟨ty, ht, hsz, own⟩
            | succ k =>
              have e1 : i + (k + 1) = i + 1 + k := by omega
              rw [e1]; exact h2 k p t' (by simpa using hk) hp
          · rcases h3 b with h | h
            · rw [getL_cons] at h
              split at h
              · exact .inr ⟨_, _, h⟩
              · exact .inl h
            · exact .inr h
        · cases h
      · cases h
    · rename_i hn
      exact other h hn

theorem Inv.pre {B : Nat} {w0 w : World} {Γ : Ghost} (hI : Inv B w0 Γ st w) {n : Nat} {objs : List (Nat × AObj)}
    (h1 : ∀ b, (b < st.next ∨ st.next + n ≤ b) → getL objs b = getL st.objs b) (h2 : ∀ b, getL objs b = getL st.objs b ∨ ∃ sz xs, getL objs b = some (.row sz xs)) :
    Out B w0 Γ st Γ { st with next := st.next + n, objs := objs } w := by
  let st' : St := { st with next := st.next + n, objs := objs }
  have ha : ∀ j, st'.alive j = st.alive j := fun j => rfl
  have hnew : ∀ j, st'.get j = st.get j ∨ (st.next ≤ j ∧ ∃ sz xs, st'.get j = some (.row sz xs)) := by
    intro j
    rcases Nat.lt_or_ge j st.next with h | h
    · exact .inl (h1 j (.inl h))
    · rcases h2 j with h' | h'
      · exact .inl h'
      · exact .inr ⟨h, h'⟩
  have hown : ∀ j b, OwnB Γ st' j b → OwnB Γ st j b := by
    rintro j b (⟨sz, xs, bs, sz', tot, k1, k2, k3⟩ | ⟨kt, et, es, k1, k2⟩ | ⟨k1, e, tot, k2⟩)
    · rcases hnew j with h | ⟨h, _⟩
      · exact .inl ⟨sz, xs, bs, sz', tot, h ▸ k1, k2, k3⟩
      · rw [(hI.fresh j h).1] at k2; cases k2
    · rcases hnew j with h | ⟨h, _⟩
      · exact .inr (.inl ⟨kt, et, es, h ▸ k1, k2⟩)
      · rw [(hI.fresh j h).2.1] at k2; cases k2
    · exact .inr (.inr ⟨k1, e, tot, k2⟩)
  refine ⟨Ghost.Le.refl Γ, ⟨hI.below, hI.base, hI.inert, ?_, ?_, ?_, hI.toks, ?_, ?_, ?_, hI.ety, hI.tys, hI.ttys, hI.old⟩, ?_⟩
  · intro j hj
    have hj' : st.next + n ≤ j := hj
    obtain ⟨f1, f2, f3, f4, f5⟩ := hI.fresh j (by omega)
    exact ⟨f1, f2, f3, (h1 j (.inr hj')).trans f4, f5⟩
  · intro j sz xs blk bs sz' tot k1 k2
    rcases hnew j with h | ⟨h, _⟩
    · exact hI.rows j sz xs blk bs sz' tot (h ▸ k1) k2
    · rw [(hI.fresh j h).1] at k2; cases k2
  · intro j kt et es k1
    rcases hnew j with h | ⟨h, sz, xs, h'⟩
    · exact hI.maps j kt et es (h ▸ k1)
    · have : st'.get j = _ := k1
      rw [h'] at this; cases this
  · exact fun i j b hi hj => hI.uniq i j b (hown i b hi) (hown j b hj)
  · exact fun i b hi => hI.above i b (hown i b hi)
  · intro i hi
    have hi' : st.alive i = true := hi
    rcases hnew i with h | ⟨h, _⟩
    · exact h.trans (hI.disj i hi')
    · rw [(hI.fresh i h).2.2.2.2] at hi'; cases hi'
  · exact ⟨Nat.le_add_right _ _, fun j hj k1 k2 => ⟨k1, k2, h1 j (.inl hj)⟩⟩

theorem alloc_comes (hE : ∀ t y, E.ty t = some y → TyOk P t y) {B : Nat} {w0 w : World} {Γ : Ghost} {st : St} (hI : Inv B w0 Γ st w) {t : TypeId} {ty : Ty} {i : Nat}
    (ht : E.ty t = some ty) (hsz : 0 < ty.size) (hg : st.get i = some (.row ty.size [ty.zeroV])) (ho : Γ.obj i = none) :
    ∃ u w', (Instr.alloc t true (.tuple #[])).run P w = .ok u w' ∧ Inv B w0 (Γ.addObj i (w.heap.size, 0, ty.size, 1)) st w' ∧ R (Γ.addObj i (w.heap.size, 0, ty.size, 1)) (.ptr i 0 0) u := by
  obtain ⟨inf, z, hi, hz, hs, _, hzs, hzo, hzr⟩ := (hE t ty ht).zero
  have hat := alloc_at w (.cells z.cells t)
  refine ⟨.pointer (some ⟨w.heap.size, 0, none⟩), w.alloc (.cells z.cells t), ?_, hI.comes (Touch.alloc w _) hg ho hat hsz (Nat.le_refl 1) (by rw [Nat.one_mul, hzs]; exact Nat.le_refl _) (RE.one (hzr Γ) hzo hzs ?_), ?_⟩
  · simp [Instr.alloc, run_zero hi hz, newVar, newRow]
  · intro j v hj
    show z.cells[0 + j]? = some v
    rw [Nat.zero_add, ← Array.getElem?_toList]; exact hj
  · simp only [R]
    exact ⟨w.heap.size, 0, ty.size, 1, by simp [Ghost.addObj], by simp⟩

/-- Where a draw stands. -/
structure DI (E : Env) (base : Nat) (ops : Array Oper) (l : List Tr) (tm : TM) (st : St) (B : Nat) (w0 : World) (Γ0 : Ghost) (stO : St) (ds : List Deferred) (S : Nat → Bool) (k : Nat) (Γ : Ghost) (a : Act) (w : World) : Prop where
  closed : Closed ops S
  upto : UpTo ops S k
  out : Out B w0 Γ0 stO Γ (stA st l k) w
  tmps : RT Γ (tmS S (dsOf ops.toList l) 0 tm) a.tmps
  defers : a.defers = ds
  low : base + ops.size ≤ (stA st l k).next
  pend : ∀ (i : Nat) (o : Oper) (t : TypeId), ops[i]? = some o → o.op = .alloc t → S i = false → ∃ ty, E.ty t = some ty ∧ 0 < ty.size ∧ Γ.obj (base + i) = none ∧ Γ.mp (base + i) = none ∧
    (stA st l k).get (base + i) = some (.row ty.size [ty.zeroV])

theorem DI.step (hE : EnvOk P E) {B : Nat} {w0 : World} (hcall : CallsOk P B w0 call) (F : Facts E call base pol ops l tm st) {Γ0 : Ghost} {stO : St} {ds : List Deferred} (hbase : base = stO.next)
    {S : Nat → Bool} {k : Nat} {Γ : Ghost} {a : Act} {w : World} (D : DI E base ops l tm st B w0 Γ0 stO ds S k Γ a w) {j : Nat} {o : Oper} (hj : ops[j]? = some o) (hSj : S j = false)
    (hr : ∀ e ∈ o.after, Region.binds .any e = true → S e.on = true) {Q : Exit → Act → World → Prop} {K : Act → World → Prop}
    (hK : ∀ k' Γ' a' w', DI E base ops l tm st B w0 Γ0 stO ds (fun m => m == j || S m) k' Γ' a' w' → K a' w') : wpOp P ops Q j K a w := by
  have hlt : j < ops.size := (Array.getElem?_eq_some_iff.1 hj).1
  obtain ⟨e, he⟩ := F.tr j o hj
  have hnames := names_same F D.closed hj hSj hr he
  have hlooks : ∀ t ∈ o.looksAt ops, (tmS S (dsOf ops.toList l) 0 tm).get t = e.tm.get t := fun t ht => hnames t (List.mem_append_right _ ht)
  have hput := put_same F D.closed hj hSj he.at_
  have hclosed := D.closed.add F hj hr
  have hpend : ∀ i (o : Oper) t, ops[i]? = some o → o.op = .alloc t → (i == j || S i) = false → i ≠ j ∧ S i = false := fun i o t _ _ h => by
    simp only [Bool.or_eq_false_iff, beq_eq_false_iff_ne] at h; exact h
  have hwant : wantedA ops (tmS S (dsOf ops.toList l) 0 tm) o = some e.did := by rw [wanted_looks hlooks]; exact he.did
  unfold wpOp
  simp only [hj]
  rw [wanted_sound D.tmps hwant]
  cases hdid : e.did with
  | false =>
    simp only [Bool.false_eq_true, if_false]
    obtain ⟨hv, hnow⟩ := he.not hdid
    have htm : RT Γ (tmS (fun m => m == j || S m) (dsOf ops.toList l) 0 tm) (a.put o.dst undef).tmps := by
      rw [hv] at hput; exact (D.tmps.put o.dst (undef_R Γ)).same hput.symm
    cases ht : turns o.op with
    | false =>
      exact hK k Γ _ w ⟨hclosed, D.upto.add hj ht, D.out, htm, by rw [put_defers]; exact D.defers, D.low, fun i p t hi hp hs => D.pend i p t hi hp (hpend i p t hi hp hs).2⟩
    | true =>
      obtain ⟨hst, hup⟩ := turn_state F D.closed D.upto hj hSj hr ht
      have hs2 : stA st l (j + 1) = stA st l k := by rw [hst, ← he.now, ← he.was]; exact hnow
      exact hK (j + 1) Γ _ w ⟨hclosed, hup, hs2 ▸ D.out, htm, by rw [put_defers]; exact D.defers, hs2 ▸ D.low, fun i p t hi hp hs => hs2 ▸ D.pend i p t hi hp (hpend i p t hi hp hs).2⟩
  | true =>
    simp only [if_true]
    refine .inl ?_
    have hdone := he.done hdid
    rw [Nat.zero_add] at hdone
    by_cases hal : ∃ t, o.op = .alloc t
    · obtain ⟨t, hop⟩ := hal
      have ht : turns o.op = false := by rw [hop]; rfl
      obtain ⟨ty, hty, hsz, p1, p2, p3⟩ := D.pend j o t hj hop hSj
      obtain ⟨u, w', hrun, hinv, hru⟩ := alloc_comes hE.ty D.out.inv hty hsz p3 p1
      have hv : e.v = .ptr (base + j) 0 0 := by
        unfold stepPre at hdone
        rw [hop] at hdone
        simp only [Option.some.injEq, Prod.mk.injEq] at hdone
        exact hdone.1.symm
      have hex : (execOp a.eval o).run P w = .ok (.value u) w' := by
        have : execOp a.eval o = (do pure (Next.value (← Instr.alloc t true (.tuple #[]))) : Sem Next) := by
          obtain ⟨dst, op, ty, pos, after, guard⟩ := o
          dsimp only at hop; subst hop; rfl
        rw [this]
        simp only [Sem.run_bind, hrun, Result.andThen_ok, Sem.run_pure]
      unfold Oper.wp
      rw [hex]
      have hle : Γ.Le (Γ.addObj (base + j) (w.heap.size, 0, ty.size, 1)) := Ghost.le_addObj p1
      refine hK k _ _ w' ⟨hclosed, D.upto.add hj ht, ⟨D.out.le.trans hle, hinv, ⟨D.out.keep.1, fun i hi k1 k2 => ?_⟩⟩, ?_, by rw [put_defers]; exact D.defers, D.low, fun i p t' hi hp hs => ?_⟩
      · obtain ⟨x1, x2, x3⟩ := D.out.keep.2 i hi k1 k2
        refine ⟨?_, x2, x3⟩
        simp only [Ghost.addObj]
        rw [if_neg (by omega)]; exact x1
      · rw [hv] at hput
        exact ((RT.mono hle D.tmps).put o.dst hru).same hput.symm
      · obtain ⟨hne, hs'⟩ := hpend i p t' hi hp hs
        obtain ⟨ty', y1, y2, y3, y4, y5⟩ := D.pend i p t' hi hp hs'
        refine ⟨ty', y1, y2, ?_, y4, y5⟩
        simp only [Ghost.addObj]
        rw [if_neg (by omega)]; exact y3
    · have hstep : stepOp E call (pol j) e.tm e.was o = some (e.v, e.now) := by
        unfold stepPre at hdone
        split at hdone
        · rename_i t h1 h2; exact absurd ⟨_, h2⟩ hal
        · exact hdone
      have fin : ∀ (k' : Nat), UpTo ops (fun m => m == j || S m) k' → stepOp E call (pol j) (tmS S (dsOf ops.toList l) 0 tm) (stA st l k) o = some (e.v, stA st l k') →
          (o.wp P a w K Q) := by
        intro k' hup hs
        refine step_sound hE hcall D.out.inv D.tmps hs fun u w' Γ' o1 r1 => ?_
        refine hK k' Γ' _ w' ⟨hclosed, hup, D.out.trans o1, ?_, by rw [put_defers]; exact D.defers, Nat.le_trans D.low o1.keep.1, fun i p t' hi hp hs => ?_⟩
        · exact ((RT.mono o1.le D.tmps).put o.dst r1).same hput.symm
        · obtain ⟨hne, hs'⟩ := hpend i p t' hi hp hs
          obtain ⟨ty', y1, y2, y3, y4, y5⟩ := D.pend i p t' hi hp hs'
          have hil : i < ops.size := (Array.getElem?_eq_some_iff.1 hi).1
          obtain ⟨z1, z2, z3⟩ := o1.keep.2 (base + i) (by have := D.low; omega) y3 y4
          exact ⟨ty', y1, y2, z1, z2, z3.trans y5⟩
      cases ht : turns o.op with
      | true =>
        obtain ⟨hst, hup⟩ := turn_state F D.closed D.upto hj hSj hr ht
        refine fin (j + 1) hup ?_
        rw [step_looks hlooks, hst, ← he.now, ← he.was]
        exact hstep
      | false =>
        refine fin k (D.upto.add hj ht) ?_
        have hl : isLoud o.op = false := by
          cases hop : o.op <;> rw [hop] at ht <;> first | exact ht | (exact absurd ⟨_, hop⟩ hal)
        have hq := quiet_same F D.closed D.upto hj hSj hr hl he hdid
        unfold stepOp
        rw [hl]
        simp only [Bool.false_eq_true, if_false]
        rw [quiet_looks hlooks, hq]
        rfl
end
end Go.Abs

/- Regions, whole. -/
namespace Go.Abs
open Go.RowKit

theorem count_set : ∀ (l : List Bool) (j : Nat), l[j]? = some false → (l.set j true).count false + 1 = l.count false
  | [], j, h => by simp at h
  | b :: l, 0, h => by
    simp only [List.getElem?_cons_zero, Option.some.injEq] at h
    subst h
    simp
  | b :: l, j + 1, h => by
    have := count_set l j (by simpa using h)
    simp only [List.set_cons_succ, List.count_cons]
    omega

section
variable {P : Program} {E : Env} {call : Call1} {base : Nat} {pol : Nat → Nat} {ops : Array Oper} {l : List Tr} {tm : TM} {st : St}

theorem all_listed (F : Facts E call base pol ops l tm st) {listed : Array Bool} (hs : listed.size = ops.size) (hr : Region.ready .any ops listed = []) : ∀ j, j < ops.size → listed.getD j false = true := by
  intro j
  induction j using Nat.strongRecOn with
  | ind j ih =>
    intro hj
    cases hb : listed.getD j false with
    | true => rfl
    | false =>
      have hm : j ∈ Region.ready .any ops listed := by
        rw [mem_ready]
        refine ⟨?_, ops[j], Array.getElem?_eq_getElem hj, fun e he hb => ih e.on (F.edges j _ (Array.getElem?_eq_getElem hj) e he hb) ?_⟩
        · rw [Array.getD_eq_getD_getElem?] at hb ⊢
          rw [Array.getElem?_eq_getElem (by omega)] at hb ⊢
          exact hb
        · have := F.edges j _ (Array.getElem?_eq_getElem hj) e he hb
          omega
      rw [hr] at hm; cases hm

theorem draw_any (hE : EnvOk P E) {B : Nat} {w0 : World} (hcall : CallsOk P B w0 call) (F : Facts E call base pol ops l tm st) {Γ0 : Ghost} {stO : St} {ds : List Deferred} (hbase : base = stO.next)
    {Q : Exit → Act → World → Prop}
    (hQ : ∀ Γ' a' w', Out B w0 Γ0 stO Γ' (stA st l l.length) w' → RT Γ' (tmS (fun _ => true) (dsOf ops.toList l) 0 tm) a'.tmps → a'.defers = ds → Q .normal a' w') :
    ∀ (fuel : Nat) (listed : Array Bool) (k : Nat) (Γ : Ghost) (a : Act) (w : World), listed.size = ops.size → listed.toList.count false ≤ fuel →
      DI E base ops l tm st B w0 Γ0 stO ds (fun m => listed.getD m false) k Γ a w → wpAny P .any ops Q fuel listed a w := by
  have done : ∀ (listed : Array Bool) (k : Nat) (Γ : Ghost) (a : Act) (w : World), listed.size = ops.size → Region.ready .any ops listed = [] →
      DI E base ops l tm st B w0 Γ0 stO ds (fun m => listed.getD m false) k Γ a w → Q .normal a w := by
    intro listed k Γ a w hs hr D
    have hall := all_listed F hs hr
    have hst : stA st l l.length = stA st l k := by
      rw [F.len]
      have := state_same F (a := k) (ops.size - k) (by have := D.upto.1; omega) fun i o h1 h2 ho => by
        cases ht : turns o.op with
        | false => rfl
        | true =>
          have := (D.upto.2 i o ho ht).1 (hall i (by omega))
          omega
      rw [Nat.add_sub_cancel' D.upto.1] at this
      exact this
    refine hQ Γ a w (hst ▸ D.out) ?_ D.defers
    have : Same (tmS (fun _ => true) (dsOf ops.toList l) 0 tm) (tmS (fun m => listed.getD m false) (dsOf ops.toList l) 0 tm) := by
      refine ⟨by rw [tmS_n, tmS_n], fun t => tmS_at _ 0 tm tm rfl rfl fun j v hj => ?_⟩
      obtain ⟨o, e, h1, _, _⟩ := ds_get hj
      rw [Nat.zero_add]
      exact (hall j (Array.getElem?_eq_some_iff.1 h1).1).symm
    exact D.tmps.same this.symm
  intro fuel
  induction fuel with
  | zero =>
    intro listed k Γ a w hs hc D
    have hr : Region.ready .any ops listed = [] := by
      cases hr : Region.ready .any ops listed with
      | nil => rfl
      | cons j r =>
        have hm : j ∈ Region.ready .any ops listed := by rw [hr]; simp
        obtain ⟨h1, o, h2, _⟩ := mem_ready.1 hm
        have hlt : j < listed.size := by rw [hs]; exact (Array.getElem?_eq_some_iff.1 h2).1
        rw [Array.getD_eq_getD_getElem?, Array.getElem?_eq_getElem hlt] at h1
        have : false ∈ listed.toList := by
          have h1' : listed[j] = false := h1
          rw [← h1']
          simp
        have := List.count_pos_iff.2 this
        omega
    exact ⟨hr, done listed k Γ a w hs hr D⟩
  | succ fuel ih =>
    intro listed k Γ a w hs hc D
    refine ⟨fun hr => done listed k Γ a w hs hr D, fun j hj => ?_⟩
    obtain ⟨h1, o, h2, h3⟩ := mem_ready.1 hj
    have hlt : j < ops.size := (Array.getElem?_eq_some_iff.1 h2).1
    have hf : listed[j]? = some false := by
      rw [Array.getD_eq_getD_getElem?, Array.getElem?_eq_getElem (by omega)] at h1
      rw [Array.getElem?_eq_getElem (by omega)]
      exact congrArg some h1
    have hfun : (fun m => m == j || listed.getD m false) = fun m => (listed.setIfInBounds j true).getD m false := by
      funext m
      simp only [Array.getD_eq_getD_getElem?, Array.getElem?_setIfInBounds]
      by_cases h : j = m
      · subst h
        rw [if_pos rfl, if_pos (by omega)]
        simp
      · rw [if_neg h]
        have : (m == j) = false := by simp; omega
        rw [this, Bool.false_or]
    refine D.step hE hcall F hbase h2 (by rw [Array.getD_eq_getD_getElem?, hf]; rfl) h3 fun k' Γ' a' w' D' => ?_
    rw [hfun] at D'
    refine ih _ k' Γ' a' w' (by simpa using hs) ?_ D'
    have := count_set listed.toList j (by simpa using hf)
    rw [Array.toList_setIfInBounds]
    omega

theorem draw_sound (hE : EnvOk P E) {B : Nat} {w0 : World} (hcall : CallsOk P B w0 call) {st st' st2 : St} {Γ : Ghost} {w : World} {a : Act} {tm tm' : TM} {objs : List (Nat × AObj)} {l : List Tr}
    (hI : Inv B w0 Γ st w) (hF : RT Γ tm a.tmps) (hs : drawStatic ops = true) (hp : preObjs E st.next ops.toList 0 st.objs = some objs) (hst : st2 = { st with next := st.next + ops.size, objs := objs })
    (hr : runOpsT E call (some st.next) pol ops ops.toList 0 tm st2 = some (l, (tm', st'))) (hd : (dynPairs ops).all (dynOk E ops l) = true) {Q : Exit → Act → World → Prop} {id : Nat}
    (hQ : ∀ Γ' a' w', Out B w0 Γ st Γ' st' w' → RT Γ' tm' a'.tmps → a'.defers = a.defers → Q .normal a' w') : (Code.region id ops true).wp P Q a w := by
  subst hst
  refine wp_region_any hE.mixed ?_
  have F := Facts.mk' hs hr hd
  obtain ⟨_, h2, h3, _⟩ := runOpsT_ok _ _ _ _ hr
  obtain ⟨p1, p2, p3⟩ := preObjs_ok _ 0 hp
  have o1 := (hI.drawn (w.drawn + 1)).pre (n := ops.size) (objs := objs) (fun b hb => p1 b (by simpa using hb)) p3
  dsimp only at h2 h3
  refine draw_any hE hcall F (ds := a.defers) (Γ0 := Γ) (stO := st) rfl (fun Γ' a' w' q1 q2 q3 => hQ Γ' a' w' (by rw [h3]; exact q1) (by rw [h2]; exact q2) q3) ops.size _ 0 Γ a _ (by simp) (by simp) ?_
  have hS : (fun m => (Array.replicate ops.size false).getD m false) = fun _ => false := by
    funext m
    simp only [Array.getD_eq_getD_getElem?, Array.getElem?_replicate]
    split <;> rfl
  rw [hS]
  refine ⟨fun i j h => (by cases h), ⟨Nat.zero_le _, fun i o _ _ => by simp⟩, ?_, ?_, rfl, ?_, fun i o t hi hop _ => ?_⟩
  · rw [stA_zero]; exact o1
  · rw [tmS_none _ _ _ fun _ _ => rfl]; exact hF
  · rw [stA_zero]; exact Nat.le_refl _
  · rw [stA_zero]
    obtain ⟨ty, y1, y2, y3⟩ := p2 i o t (by simpa using hi) hop
    rw [Nat.zero_add] at y3
    have hf := hI.fresh (st.next + i) (Nat.le_add_right _ _)
    exact ⟨ty, y1, y2, hf.1, hf.2.1, y3⟩

theorem region_sound (hE : EnvOk P E) {B : Nat} {w0 : World} (hcall : CallsOk P B w0 call) {st st' : St} {Γ : Ghost} {w : World} {a : Act} {tm tm' : TM} {draw : Bool} {dy : List (Nat × Nat)}
    (hI : Inv B w0 Γ st w) (hF : RT Γ tm a.tmps) (hok : draw = true → drawStatic ops = true ∧ dynPairs ops = dy) (h : execReg E call pol dy ops draw tm st = some (tm', st')) {Q : Exit → Act → World → Prop} {id : Nat}
    (hQ : ∀ Γ' a' w', Out B w0 Γ st Γ' st' w' → RT Γ' tm' a'.tmps → a'.defers = a.defers → Q .normal a' w') : (Code.region id ops draw).wp P Q a w := by
  unfold execReg at h
  cases draw with
  | false =>
    simp only [Bool.false_eq_true, if_false] at h
    exact wp_region_list (runOps_sound hE hcall _ 0 hI hF h hQ)
  | true =>
    obtain ⟨hs, hdy⟩ := hok rfl
    simp only [if_true] at h
    split at h
    · cases h
    · rename_i objs hp
      split at h
      · obtain ⟨l, hl⟩ := runOps_trace _ _ _ _ h
        exact draw_sound hE hcall hI hF hs hp rfl hl (by rw [hdy]; rfl) hQ
      · rename_i d ds
        split at h
        · rename_i l q hl
          split at h
          · rename_i hok
            cases h
            exact draw_sound hE hcall hI hF hs hp rfl hl (by rw [hdy]; exact hok) hQ
          · cases h
        · cases h
end
end Go.Abs

/- Code and calls. -/
namespace Go.Abs
open Go.RowKit

theorem exists_least (p : Nat → Prop) (h : ∃ n, p n) : ∃ n, p n ∧ ∀ m, p m → n ≤ m := by
  obtain ⟨n, hn⟩ := h
  induction n using Nat.strongRecOn with
  | ind n ih =>
    by_cases hm : ∃ m, m < n ∧ p m
    · obtain ⟨m, h1, h2⟩ := hm
      exact ih m h1 h2
    · exact ⟨n, hn, fun m hp => Nat.le_of_not_lt fun hlt => hm ⟨m, hlt, hp⟩⟩

section
variable {P : Program}

theorem wp_loop_n {c : Code} {Q : Exit → Act → World → Prop} (I : Nat → Act → World → Prop) {n : Nat} {a : Act} {w : World} (h0 : I n a w)
    (round : ∀ n a w, I n a w → c.wp P (Exit.then (fun a' w' => ∃ m, m < n ∧ I m a' w') Q) a w) : (Code.loop c).wp P Q a w := by
  classical
  let J : Act → World → Prop := fun a w => ∃ n, I n a w
  let μ : Act → World → Nat := fun a w => if h : J a w then Classical.choose (exists_least _ h) else 0
  have hμ : ∀ a w (h : J a w), I (μ a w) a w ∧ ∀ m, I m a w → μ a w ≤ m := fun a w h => by
    simp only [μ, dif_pos h]
    exact Classical.choose_spec (exists_least _ h)
  refine wp_loop J μ ⟨n, h0⟩ fun a w hJ => ?_
  obtain ⟨h1, _⟩ := hμ a w hJ
  refine wp_mono (round _ a w h1) fun e a' w' he => ?_
  cases e with
  | normal =>
    obtain ⟨m, hm, hI⟩ := he
    exact ⟨⟨m, hI⟩, Nat.lt_of_le_of_lt ((hμ a' w' ⟨m, hI⟩).2 m hI) hm⟩
  | _ => exact he

def AExit.out : AExit → Exit
  | .normal => .normal
  | .exit i => .exit i
  | .ret => .ret

theorem exec_sound {E : Env} (hE : EnvOk P E) {B : Nat} {w0 : World} {call : Call1} (hcall : CallsOk P B w0 call) {fid : Nat} : ∀ (n : Nat) (c : Code) {Γ : Ghost} {st st' : St} {w : World} {a : Act} {tm tm' : TM} {e : AExit} {Q : Exit → Act → World → Prop},
    Inv B w0 Γ st w → RT Γ tm a.tmps → codeOk (E.dyn fid) c = true → exec E call fid n c tm st = some (e, tm', st') →
    (∀ Γ' a' w', Out B w0 Γ st Γ' st' w' → RT Γ' tm' a'.tmps → a'.defers = a.defers → Q e.out a' w') → c.wp P Q a w := by
  intro n
  induction n using Nat.strongRecOn with
  | ind n ih =>
    intro c Γ st st' w a tm tm' e Q hI hF hok h hQ
    cases n with
    | zero => simp [exec] at h
    | succ n =>
      cases c with
      | skip =>
        simp only [exec, Option.some.injEq, Prod.mk.injEq] at h
        obtain ⟨rfl, rfl, rfl⟩ := h
        exact wp_skip (hQ Γ a w ⟨Ghost.Le.refl Γ, hI, Keep.refl Γ st⟩ hF rfl)
      | ret =>
        simp only [exec, Option.some.injEq, Prod.mk.injEq] at h
        obtain ⟨rfl, rfl, rfl⟩ := h
        exact wp_ret (hQ Γ a w ⟨Ghost.Le.refl Γ, hI, Keep.refl Γ st⟩ hF rfl)
      | exit id =>
        simp only [exec, Option.some.injEq, Prod.mk.injEq] at h
        obtain ⟨rfl, rfl, rfl⟩ := h
        exact wp_exit (hQ Γ a w ⟨Ghost.Le.refl Γ, hI, Keep.refl Γ st⟩ hF rfl)
      | region id ops draw =>
        simp only [exec] at h
        split at h
        · rename_i tm1 st1 hr
          simp only [Option.some.injEq, Prod.mk.injEq] at h
          obtain ⟨rfl, rfl, rfl⟩ := h
          refine region_sound hE hcall hI hF (fun hd => ?_) hr hQ
          subst hd
          simpa only [codeOk, Bool.and_eq_true, decide_eq_true_eq] using hok
        · cases h
      | seq x y =>
        simp only [codeOk, Bool.and_eq_true] at hok
        simp only [exec] at h
        refine wp_seq ?_
        split at h
        · rename_i tm1 st1 hx
          refine ih n (Nat.lt_succ_self n) x hI hF hok.1 hx fun Γ1 a1 w1 o1 f1 d1 => ?_
          exact ih n (Nat.lt_succ_self n) y o1.inv f1 hok.2 h fun Γ2 a2 w2 o2 f2 d2 => hQ Γ2 a2 w2 (o1.trans o2) f2 (d2.trans d1)
        · rename_i r hr
          refine ih n (Nat.lt_succ_self n) x hI hF hok.1 h fun Γ1 a1 w1 o1 f1 d1 => ?_
          cases e with
          | normal => exact absurd h (hr _ _)
          | exit i => exact hQ Γ1 a1 w1 o1 f1 d1
          | ret => exact hQ Γ1 a1 w1 o1 f1 d1
      | cond c x y =>
        simp only [codeOk, Bool.and_eq_true] at hok
        simp only [exec] at h
        have hc := hF.eval c
        split at h
        · rename_i hb
          rw [hb] at hc; simp only [R] at hc
          exact wp_cond_true hc (ih n (Nat.lt_succ_self n) x hI hF hok.1 h hQ)
        · rename_i hb
          rw [hb] at hc; simp only [R] at hc
          exact wp_cond_false hc (ih n (Nat.lt_succ_self n) y hI hF hok.2 h hQ)
        · cases h
      | block id x =>
        simp only [codeOk] at hok
        simp only [exec] at h
        refine wp_block ?_
        split at h
        · rename_i i tm1 st1 hx
          refine ih n (Nat.lt_succ_self n) x hI hF hok hx fun Γ1 a1 w1 o1 f1 d1 => ?_
          split at h
          · rename_i hi
            simp only [Option.some.injEq, Prod.mk.injEq] at h
            obtain ⟨rfl, rfl, rfl⟩ := h
            simp only [AExit.out, Exit.inBlock, if_pos hi]
            exact hQ Γ1 a1 w1 o1 f1 d1
          · rename_i hi
            simp only [Option.some.injEq, Prod.mk.injEq] at h
            obtain ⟨rfl, rfl, rfl⟩ := h
            simp only [AExit.out, Exit.inBlock, if_neg hi]
            exact hQ Γ1 a1 w1 o1 f1 d1
        · rename_i r hr
          refine ih n (Nat.lt_succ_self n) x hI hF hok h fun Γ1 a1 w1 o1 f1 d1 => ?_
          cases e with
          | normal => exact hQ Γ1 a1 w1 o1 f1 d1
          | exit i => exact absurd h (hr _ _ _)
          | ret => exact hQ Γ1 a1 w1 o1 f1 d1
      | loop x =>
        simp only [codeOk] at hok
        refine wp_loop_n (fun m a1 w1 => m ≤ n + 1 ∧ ∃ Γ1 st1 tm1, Out B w0 Γ st Γ1 st1 w1 ∧ RT Γ1 tm1 a1.tmps ∧ a1.defers = a.defers ∧ exec E call fid m (.loop x) tm1 st1 = some (e, tm', st'))
          (n := n + 1) ⟨Nat.le_refl _, Γ, st, tm, ⟨Ghost.Le.refl Γ, hI, Keep.refl Γ st⟩, hF, rfl, h⟩ ?_
        rintro m a1 w1 ⟨hm, Γ1, st1, tm1, o1, f1, d1, hx⟩
        cases m with
        | zero => simp [exec] at hx
        | succ m =>
          simp only [exec] at hx
          split at hx
          · rename_i tm2 st2 h2
            refine ih m (by omega) x o1.inv f1 hok h2 fun Γ2 a2 w2 o2 f2 d2 => ?_
            exact ⟨m, Nat.lt_succ_self m, by omega, Γ2, st2, tm2, o1.trans o2, f2, d2.trans d1, hx⟩
          · rename_i r hr
            refine ih m (by omega) x o1.inv f1 hok hx fun Γ2 a2 w2 o2 f2 d2 => ?_
            cases e with
            | normal => exact absurd hx (hr _ _)
            | exit i => exact hQ Γ2 a2 w2 (o1.trans o2) f2 (d2.trans d1)
            | ret => exact hQ Γ2 a2 w2 (o1.trans o2) f2 (d2.trans d1)
      | _ => simp [exec] at h

/-! ### Results -/
theorem resA_sound {E : Env} (hE : EnvOk P E) {B : Nat} {w0 w : World} {Γ : Ghost} {st : St} (hI : Inv B w0 Γ st w) {tm : TM} {vs : Array Value} (hF : RT Γ tm vs) {r : ResultVar} {x : AV}
    (h : resA E tm st r = some x) : ∃ u, ((match r with | .tmp t => pure (vs.getD t undef) | .cell a t => (do loadVar t (← asAddr (vs.getD a undef))) : Sem Value)).run P w = .ok u w ∧ R Γ x u := by
  have hev : ∀ t, R Γ (tm.get t) (vs.getD t undef) := hF.get
  cases r with
  | tmp t =>
    simp only [resA, Option.some.injEq] at h
    subst h
    exact ⟨_, rfl, hev t⟩
  | cell a t =>
    simp only [resA] at h
    split at h
    · rename_i cs hc
      obtain ⟨u, hu, hr⟩ := load_sound hE.ty hI hc h (hev a)
      obtain ⟨b, o, ws, he, _⟩ := loadCells_sound hI hc (hev a)
      rw [he] at hu
      refine ⟨u, ?_, hr⟩
      simp only [Instr.loadAt, Instr.sureAddr, Sem.run_bind, Sem.run_pure, Result.andThen_ok] at hu
      show Sem.run P (do loadVar t (← asAddr (vs.getD a undef))) w = _
      rw [he]
      simp only [asAddr, Sem.run_bind, Sem.run_pure, Result.andThen_ok]
      exact hu
    · cases h

theorem run_mapM_list {α : Type} {f : α → Sem Value} {w : World} {Γ : Ghost} {g : α → Option AV} (hf : ∀ x y, g x = some y → ∃ u, (f x).run P w = .ok u w ∧ R Γ y u) :
    ∀ (l : List α) (ys : List AV), l.mapM g = some ys → ∃ us, (l.mapM f).run P w = .ok us w ∧ RL Γ ys us
  | [], ys, h => by
    simp only [List.mapM_nil, Option.pure_def, Option.some.injEq] at h
    subst h
    exact ⟨[], by simp, RL.nil Γ⟩
  | x :: l, ys, h => by
    simp only [List.mapM_cons, Option.bind_eq_bind, Option.bind_eq_some_iff, Option.pure_def, Option.some.injEq] at h
    obtain ⟨y, h1, ys', h2, rfl⟩ := h
    obtain ⟨u, hu, hr⟩ := hf x y h1
    obtain ⟨us, hus, hrs⟩ := run_mapM_list hf l ys' h2
    refine ⟨u :: us, ?_, RL.cons hr hrs⟩
    simp only [List.mapM_cons, Sem.run_bind, hu, hus, Result.andThen_ok, Sem.run_pure]

theorem resL_mapM {E : Env} {tm : TM} {st : St} : ∀ (rs : List ResultVar), resL E tm st rs = rs.mapM (resA E tm st)
  | [] => rfl
  | r :: rs => by
    simp only [resL, List.mapM_cons, resL_mapM rs, Option.bind_eq_bind, Option.pure_def]
    cases resA E tm st r with
    | none => rfl
    | some v => cases List.mapM (resA E tm st) rs <;> rfl

theorem results_sound {E : Env} (hE : EnvOk P E) {B : Nat} {w0 w : World} {Γ : Ghost} {st : St} (hI : Inv B w0 Γ st w) {tm : TM} {vs : Array Value} (hF : RT Γ tm vs) {fn : Func} {x : AV}
    (h : resultsA E fn.results.toList tm st = some x) : ∃ u, (results fn vs).run P w = .ok u w ∧ R Γ x u := by
  unfold resultsA at h
  have key : ∀ ys, resL E tm st fn.results.toList = some ys → ∃ us : List Value, (results fn vs).run P w = .ok (if h : us.toArray.size = 1 then us.toArray[0] else .tuple us.toArray) w ∧ RL Γ ys us := by
    intro ys hy
    rw [resL_mapM] at hy
    obtain ⟨us, h1, h2⟩ := run_mapM_list (fun r y hr => resA_sound hE hI hF hr) _ _ hy
    refine ⟨us, ?_, h2⟩
    unfold results
    rw [Array.mapM_eq_mapM_toList]
    simp only [Sem.run_bind, Sem.run_map, Sem.run_pure]
    exact congrArg (fun r : Result (List Value) => (r.andThen fun a w' => Result.ok a.toArray w').andThen fun a w' => Result.ok (if h : a.size = 1 then a[0] else Value.tuple a) w') h1
  split at h
  · rename_i v hv
    cases h
    obtain ⟨us, h1, h2⟩ := key _ hv
    obtain ⟨u, r, rfl, h3, h4⟩ := h2.of_cons
    rw [h4.of_nil] at h1
    exact ⟨u, by simpa using h1, h3⟩
  · rename_i ys hne hv
    cases h
    obtain ⟨us, h1, h2⟩ := key _ hv
    have hl : us.toArray.size ≠ 1 := by
      intro hl
      have := h2.length
      simp only [List.size_toArray] at hl
      match ys, this, hne with
      | [y], _, hne => exact hne y rfl
      | [], h, _ => simp only [List.length_nil] at h; omega
      | _ :: _ :: _, h, _ => simp only [List.length_cons] at h; omega
    rw [dif_neg hl] at h1
    exact ⟨_, h1, by simp only [R]; exact ⟨us.toArray, rfl, h2⟩⟩
  · cases h

/-! ### Calls -/
def PrimOk (P : Program) (E : Env) (B : Nat) (w0 : World) : Prop :=
  ∀ f g args st r st', E.prim f = some g → g args st = some (r, st') → (∀ (w : World) (vargs : Array Value), (callFunc f vargs).run P w = .ok (.enter f vargs) w) ∧
    ∀ Γ w (vargs : Array Value), Inv B w0 Γ st w → RL Γ args vargs.toList →
      Calls P f vargs w fun e w' => ∃ v Γ', e = .returned v ∧ Out B w0 Γ st Γ' st' w' ∧ R Γ' r v

theorem enters {f : FuncId} {fn : Func} {c : Code} (hf : P.funcs[f]? = some fn) (hb : fn.body = some c) (hn : (fn.name == "runtime.NumGoroutine") = false) (w : World) (vargs : Array Value) :
    (callFunc f vargs).run P w = .ok (.enter f vargs) w := by
  have h0 : Sem.run P program w = .ok P w := rfl
  unfold callFunc
  simp only [Sem.run_bind, h0, Result.andThen_ok, hf, hn, hb, Option.isNone_some, Bool.false_eq_true, if_false, Sem.run_pure]

theorem callF_sound {E : Env} (hE : EnvOk P E) {B : Nat} {w0 : World} (hp : PrimOk P E B w0) : ∀ n, CallsOk P B w0 (callF E n)
  | 0 => fun f args st r st' h => by simp [callF] at h
  | n + 1 => fun f args st r st' h => by
    simp only [callF] at h
    split at h
    · rename_i g hg
      exact hp f g args st r st' hg h
    · split at h
      · cases h
      · rename_i fi hfi
        obtain ⟨fn, h1, h2, h3, h4, h5⟩ := hE.fns f fi hfi
        refine ⟨enters h1 h2 h5, fun Γ w vargs hI hargs => calls_of_wp h1 h2 ?_⟩
        have hF : RT Γ (TM.of args fi.ntmps) (vargs ++ Array.replicate (fn.ntmps - vargs.size) undef) := by
          rw [h3]; exact RT.of hargs _
        have fin : ∀ tm1 st1, (resultsA E fi.results tm1 st1).map (fun v => (v, st1)) = some (r, st') → ∀ Γ' (a' : Act) w', Out B w0 Γ st Γ' st1 w' → RT Γ' tm1 a'.tmps → a'.defers = [] →
            a'.defers = [] ∧ ∃ v, (results fn a'.tmps).run P w' = .ok v w' ∧ ∃ u Γ', Ending.returned v = .returned u ∧ Out B w0 Γ st Γ' st' w' ∧ R Γ' r u := by
          intro tm1 st1 hres Γ' a' w' o1 f1 d1
          simp only [Option.map_eq_some_iff, Prod.mk.injEq] at hres
          obtain ⟨v, hv, rfl, rfl⟩ := hres
          rw [← h4] at hv
          obtain ⟨u, hu, hr⟩ := results_sound hE o1.inv f1 hv
          exact ⟨d1, u, hu, u, Γ', rfl, o1, hr⟩
        split at h
        · rename_i tm1 st1 hx
          exact exec_sound hE (callF_sound hE hp n) n _ hI hF (hE.static f fi hfi) hx fun Γ' a' w' o1 f1 d1 => fin tm1 st1 h Γ' a' w' o1 f1 d1
        · rename_i tm1 st1 hx
          exact exec_sound hE (callF_sound hE hp n) n _ hI hF (hE.static f fi hfi) hx fun Γ' a' w' o1 f1 d1 => fin tm1 st1 h Γ' a' w' o1 f1 d1
        · cases h
end
end Go.Abs

/- Tables as trees. -/
namespace Go.Abs

inductive Tree (α : Type) where
  | leaf
  | node (k : Nat) (v : α) (l r : Tree α)

def Tree.find {α : Type} : Tree α → Nat → Option α
  | .leaf, _ => none
  | .node k v l r, x => bif Nat.blt x k then l.find x else bif Nat.blt k x then r.find x else some v

def Tree.All {α : Type} (p : Nat → α → Prop) : Tree α → Prop
  | .leaf => True
  | .node k v l r => p k v ∧ l.All p ∧ r.All p

theorem Tree.find_all {α : Type} {p : Nat → α → Prop} : ∀ {t : Tree α}, t.All p → ∀ {x : Nat} {v : α}, t.find x = some v → p x v
  | .leaf, _, _, _, h => by simp [Tree.find] at h
  | .node k u l r, ha, x, v, h => by
    obtain ⟨h1, h2, h3⟩ := ha
    simp only [Tree.find] at h
    cases h4 : Nat.blt x k with
    | true => rw [h4] at h; exact Tree.find_all h2 h
    | false =>
      rw [h4] at h
      simp only [cond_false] at h
      cases h5 : Nat.blt k x with
      | true => rw [h5] at h; exact Tree.find_all h3 h
      | false =>
        rw [h5] at h
        simp only [cond_false, Option.some.injEq] at h
        subst h
        have a1 : ¬ x < k := fun k' => by
          have h := Eq.mpr Nat.blt_eq k'
          rw [h4] at h; cases h
        have a2 : ¬ k < x := fun k' => by
          have h := Eq.mpr Nat.blt_eq k'
          rw [h5] at h; cases h
        have : x = k := by omega
        subst this; exact h1

def fi (fn : Func) : FnI := ⟨fn.body.getD .skip, fn.ntmps, fn.results.toList⟩
structure FnOk (P : Program) (dy : Nat → Nat → List (Nat × Nat)) (f : Nat) (i : FnI) : Prop where
  ex : ∃ fn, P.funcs[f]? = some fn ∧ fn.body = some i.code ∧ fn.ntmps = i.ntmps ∧ fn.results.toList = i.results ∧ (fn.name == "runtime.NumGoroutine") = false
  static : codeOk (dy f) i.code = true

theorem EnvOk.of_trees {P : Program} {E : Env} {ts : Tree Ty} {fs : Tree FnI} (h1 : E.ty = ts.find) (h2 : E.fns = fs.find) (a1 : ts.All (TyOk P)) (a2 : fs.All (FnOk P E.dyn)) (hm : P.follows .mixedOrders = true) : EnvOk P E :=
  ⟨fun t y h => Tree.find_all a1 (by rw [← h1]; exact h), fun f i h => (Tree.find_all a2 (by rw [← h2]; exact h)).ex, hm, fun f i h => (Tree.find_all a2 (by rw [← h2]; exact h)).static⟩

/-- Exceptions from a rule, by function, region and operation. -/
def polOf : List (Nat × Nat × Nat × Nat) → Nat → Nat → Nat → Nat
  | [], _, _, _ => 2
  | (f, r, i, p) :: l, f', r', i' => bif Nat.beq f f' && Nat.beq r r' && Nat.beq i i' then p else polOf l f' r' i'
/-- The pairs of operations to look at, by function and region. -/
def dynOf : List (Nat × Nat × List (Nat × Nat)) → Nat → Nat → List (Nat × Nat)
  | [], _, _ => []
  | (f, r, p) :: l, f', r' => bif Nat.beq f f' && Nat.beq r r' then p else dynOf l f' r'
end Go.Abs

/- What a strings.Builder does, for the interpreter. -/
namespace Go.Abs
open Go.RowKit

section
variable {P : Program} {B : Nat} {w0 w w' : World} {Γ : Ghost} {st : St}

/-- Bytes of a block that nobody owns are frozen. -/
theorem Inv.freezeBlk (h : Inv B w0 Γ st w) {g : Nat} (hno : ∀ i, ¬ OwnB Γ st i g) (hB : B ≤ g) (t : Touch w w' g) {c : Array Value} {T : TypeId} {fr fr' : Nat × Nat}
    (hc : w.heap[g]? = some (.cells c T fr)) (hc' : w'.heap[g]? = some (.cells c T fr')) : Inv B w0 Γ st w' := by
  have hcell : ∀ b o, b < w.heap.size → w'.cell? ⟨b, o, none⟩ = w.cell? ⟨b, o, none⟩ := fun b o hb => by
    by_cases e : b = g
    · subst e; rw [cell_of_heap hc, cell_of_heap hc']
    · exact cell_same (t.other b hb e) o
  refine ⟨h.below.trans ⟨t.os, t.tape, t.out, t.size, fun k hk => t.other k (Nat.lt_of_lt_of_le hk h.base) (by omega)⟩, Nat.le_trans h.base t.size, fun b o v k => ?_, h.fresh, ?_, ?_, ?_, h.uniq, h.above, h.disj, ?_, h.tys, h.ttys, h.old⟩
  · rw [hcell b o (h.inert_lt k)]; exact h.inert b o v k
  · intro i sz xs blk bs sz' tot k1 k2
    obtain ⟨r1, r2, r3, r4⟩ := h.rows i sz xs blk bs sz' tot k1 k2
    refine ⟨r1, r2, r3, fun ht => ?_⟩
    have ho : OwnB Γ st i blk := .inl ⟨sz, xs, bs, sz', tot, k1, k2, ht⟩
    obtain ⟨⟨c1, T1, hc1, hs⟩, hn⟩ := r4 ht
    have hne : blk ≠ g := by rintro rfl; exact hno i ho
    exact ⟨⟨c1, T1, (t.other blk (h.lt ho) hne).trans hc1, hs⟩, hn⟩
  · intro i kt et es k1
    obtain ⟨blk, hb, en, clock, hm, hs⟩ := h.maps i kt et es k1
    have ho : OwnB Γ st i blk := .inr (.inl ⟨kt, et, es, k1, hb⟩)
    have hne : blk ≠ g := by rintro rfl; exact hno i ho
    exact ⟨blk, hb, en, clock, (t.other blk (h.lt ho) hne).trans hm, hs⟩
  · intro i blk e tot k1 k2
    have ho : OwnB Γ st i blk := .inr (.inr ⟨k1, e, tot, k2⟩)
    have hne : blk ≠ g := by rintro rfl; exact hno i ho
    obtain ⟨⟨c1, T1, hc1, hs⟩, hn⟩ := h.toks i blk e tot k1 k2
    exact ⟨⟨c1, T1, (t.other blk (h.lt ho) hne).trans hc1, hs⟩, hn⟩
  · intro blk T1 k
    obtain ⟨c1, fr1, h1⟩ := h.ety blk T1 k
    by_cases e : blk = g
    · subst e
      rw [hc] at h1; cases h1
      exact ⟨c, fr', hc'⟩
    · exact ⟨c1, fr1, (t.other blk (Array.getElem?_eq_some_iff.1 h1).1 e).trans h1⟩

def bytesOfA : List AV → Option (List UInt8)
  | [] => some []
  | .int .u8 n :: r => if 0 ≤ n ∧ n < 256 then (bytesOfA r).map (UInt8.ofNat n.toNat :: ·) else none
  | _ => none

/-- copyCheck: behind it the builder knows its own address. -/
def bldCopy (T : TypeId) (args : List AV) (st : St) : Option (AV × St) :=
  match args with
  | [.ptr b 0 0] =>
    match st.get b, st.ty b with
    | some (.row 2 [.agg [a, buf]]), some T' =>
      if T' = T then
        match a with
        | .nilptr => some (.tup [], st.put b (.row 2 [.agg [.ptr b 0 0, buf]]))
        | .ptr b' 0 0 => if b' = b then some (.tup [], st) else none
        | _ => none
      else none
    | _, _ => none
  | _ => none
/-- String: the bytes; nobody appends to them any more. -/
def bldString (T T5 : TypeId) (args : List AV) (st : St) : Option (AV × St) :=
  match args with
  | [.ptr b 0 0] =>
    match st.get b with
    | some (.row 2 [.agg [_, .vs 1 (.tok t) xs]]) =>
      match bytesOfA xs, st.tty t with
      | some (x :: l), some T' => if T' = T5 ∧ st.alive t = true ∧ st.ty b = some T ∧ l.length < 140737488355328 then some (.str ⟨(x :: l).toArray⟩, st.dropTok t) else none
      | _, _ => none
    | _ => none
  | _ => none

/-- What a prim must do. -/
def PrimDoes (P : Program) (B : Nat) (w0 : World) (f : FuncId) (g : List AV → St → Option (AV × St)) : Prop :=
  ∀ args st r st', g args st = some (r, st') → (∀ (w : World) (vargs : Array Value), (callFunc f vargs).run P w = .ok (.enter f vargs) w) ∧
    ∀ Γ w (vargs : Array Value), Inv B w0 Γ st w → RL Γ args vargs.toList →
      Calls P f vargs w fun e w' => ∃ v Γ', e = .returned v ∧ Out B w0 Γ st Γ' st' w' ∧ R Γ' r v

theorem one_arg {Γ : Ghost} {x : AV} {vargs : Array Value} (h : RL Γ [x] vargs.toList) : ∃ v, vargs = #[v] ∧ R Γ x v := by
  obtain ⟨v, r, h1, h2, h3⟩ := h.of_cons
  rw [h3.of_nil] at h1
  exact ⟨v, by rw [← Array.toArray_toList (xs := vargs), h1], h2⟩

/-- A builder in memory. -/
theorem bld_mem (hI : Inv B w0 Γ st w) {b : Nat} {a buf : AV} {v : Value} (hg : st.get b = some (.row 2 [.agg [a, buf]])) (hr : R Γ (.ptr b 0 0) v) :
    ∃ blk base tot c T va vb, Γ.obj b = some (blk, base, 2, tot) ∧ v = .pointer (some ⟨blk, base, none⟩) ∧ 0 < tot ∧ w.heap[blk]? = some (.cells c T (0, 0)) ∧ base + tot * 2 ≤ c.size ∧
      c[base]? = some va ∧ c[base + 1]? = some vb ∧ R Γ a va ∧ R Γ buf vb ∧ buf.cellOk = true := by
  simp only [R] at hr
  obtain ⟨blk, base, sz, tot, ho, rfl⟩ := hr
  obtain ⟨hsz, _, hlen, hmem⟩ := hI.rows b 2 _ blk base sz tot hg ho
  subst hsz
  have ht : 0 < tot := by simp only [List.length_cons, List.length_nil] at hlen; omega
  obtain ⟨⟨c, T, hc, hs, hre⟩, _⟩ := hmem ht
  simp only [RE] at hre
  obtain ⟨⟨v0, h1, h2, h3, h4⟩, _⟩ := hre
  simp only [R] at h1
  obtain ⟨vs, rfl, h5⟩ := h1
  obtain ⟨va, r1, e1, ra, h6⟩ := h5.of_cons
  obtain ⟨vb, r2, e2, rb, h7⟩ := h6.of_cons
  rw [h7.of_nil] at e2
  subst e2
  have hv : (Value.agg vs).cells.toList = [va, vb] := e1
  rw [hv] at h4
  refine ⟨blk, base, tot, c, T, va, vb, ho, by simp, ht, hc, hs, h4 0 va rfl, h4 1 vb rfl, ra, rb, ?_⟩
  simp only [AV.ok, List.all_cons, List.all_nil, Bool.and_true, Bool.and_eq_true] at h2
  exact h2.2

theorem bldCopy_sound {f : FuncId} {T : TypeId} (hent : ∀ (w : World) (vargs : Array Value), (callFunc f vargs).run P w = .ok (.enter f vargs) w)
    (hused : ∀ (b : Nat) (w : World), w.cell? ⟨b, 0, none⟩ = some (.pointer (some ⟨b, 0, none⟩)) → Calls P f #[.pointer (some ⟨b, 0, none⟩)] w fun e w' => e = .returned (.tuple #[]) ∧ w' = w)
    (hfresh : ∀ (b n : Nat) (w : World), 2 ≤ n → w.cell? ⟨b, 0, none⟩ = some (.pointer none) → w.shape? b = some (T, n) → w.frozen? ⟨b, 0, none⟩ = false →
      Calls P f #[.pointer (some ⟨b, 0, none⟩)] w fun e w' => e = .returned (.tuple #[]) ∧ w' = w.setCell ⟨b, 0, none⟩ (.pointer (some ⟨b, 0, none⟩))) : PrimDoes P B w0 f (bldCopy T) := by
  intro args st r st' h
  refine ⟨hent, fun Γ w vargs hI hargs => ?_⟩
  unfold bldCopy at h
  split at h
  · rename_i b
    split at h
    · rename_i a buf T' hg hty
      split at h
      · rename_i hT
        subst hT
        obtain ⟨v, rfl, hv⟩ := one_arg hargs
        obtain ⟨blk, base, tot, c, T1, va, vb, ho, rfl, ht, hc, hs, q1, q2, ra, rb, hok⟩ := bld_mem hI hg hv
        obtain ⟨blk2, sz2, tot2, o2, ety⟩ := hI.tys b T' hty
        rw [ho] at o2
        simp only [Option.some.injEq, Prod.mk.injEq] at o2
        obtain ⟨e1, e2, _, _⟩ := o2
        subst e2
        rw [← e1] at ety
        obtain ⟨c2, fr2, hc2⟩ := hI.ety _ _ ety
        rw [hc] at hc2
        simp only [Option.some.injEq, Obj.cells.injEq] at hc2
        obtain ⟨_, e3, _⟩ := hc2
        subst e3
        have hcell : w.cell? ⟨blk, 0, none⟩ = some va := by rw [cell_of_heap hc]; exact q1
        have hsz : 2 ≤ c.size := by omega
        split at h
        · cases h
          simp only [R] at ra
          subst ra
          refine (hfresh blk c.size w hsz hcell (by unfold World.shape?; rw [hc]) (by simp [World.frozen?, hc])).mono ?_
          rintro e w' ⟨rfl, rfl⟩
          have hw' : (w.setCell ⟨blk, 0, none⟩ (.pointer (some ⟨blk, 0, none⟩))).heap[blk]? = some (.cells (c.setIfInBounds 0 (.pointer (some ⟨blk, 0, none⟩))) T1 (0, 0)) := by
            simp only [World.setCell, Array.getElem?_modify, if_pos, hc, Option.map_some, Option.isSome_none, Bool.false_eq_true, if_false]
          have tw : Touch w (w.setCell ⟨blk, 0, none⟩ (.pointer (some ⟨blk, 0, none⟩))) blk := by
            refine ⟨fun k hk hne => ?_, by simp [World.setCell], rfl, rfl, rfl⟩
            simp only [World.setCell, Array.getElem?_modify]
            rw [if_neg (fun e => hne e.symm)]
          have out := hI.rowPut hg ho ht tw hw' (by simpa using hs) (xs' := [.agg [.ptr b 0 0, buf]]) (by simp only [List.length_cons, List.length_nil]; omega) (by
            simp only [RE]
            refine ⟨⟨.agg #[.pointer (some ⟨blk, 0, none⟩), vb], ?_, ?_, rfl, ?_⟩, trivial⟩
            · simp only [R]
              refine ⟨_, rfl, RL.cons ?_ (RL.cons rb (RL.nil _))⟩
              simp only [R]
              exact ⟨blk, 0, 2, tot, ho, by simp⟩
            · show ((AV.ptr b 0 0).cellOk && (buf.cellOk && true)) = true
              rw [hok]; rfl
            · intro j u hj
              have hj' : [Value.pointer (some ⟨blk, 0, none⟩), vb][j]? = some u := hj
              match j, hj' with
              | 0, hj' =>
                simp only [List.getElem?_cons_zero, Option.some.injEq] at hj'
                subst hj'
                show (c.setIfInBounds 0 _)[0 + 0]? = _
                rw [Array.getElem?_setIfInBounds, if_pos rfl, if_pos (by omega)]
              | 1, hj' =>
                simp only [List.getElem?_cons_succ, List.getElem?_cons_zero, Option.some.injEq] at hj'
                subst hj'
                show (c.setIfInBounds 0 _)[0 + 1]? = _
                rw [Array.getElem?_setIfInBounds, if_neg (by omega)]
                exact q2
              | j + 2, hj' => simp at hj') (TyAt.same hc hw')
          exact ⟨_, Γ, rfl, out, by simp only [R]; exact ⟨#[], rfl, RL.nil _⟩⟩
        · split at h
          · rename_i b' hb
            subst hb
            cases h
            simp only [R] at ra
            obtain ⟨blk3, base3, sz3, tot3, o3, rfl⟩ := ra
            rw [ho] at o3
            simp only [Option.some.injEq, Prod.mk.injEq] at o3
            obtain ⟨rfl, rfl, rfl, rfl⟩ := o3
            refine (hused blk w (by simpa using hcell)).mono ?_
            rintro e w' ⟨rfl, rfl⟩
            exact ⟨_, Γ, rfl, ⟨Ghost.Le.refl Γ, hI, Keep.refl Γ _⟩, by simp only [R]; exact ⟨#[], rfl, RL.nil _⟩⟩
          · cases h
        · cases h
      · cases h
    · cases h
  · cases h

theorem bytesOfA_spec {Γ : Ghost} {f : Nat → Option Value} : ∀ {xs : List AV} {l : List UInt8} {o : Nat}, bytesOfA xs = some l → RE Γ xs f o 1 → l.length = xs.length ∧ ∀ j x, l[j]? = some x → f (o + j) = some (.int .u8 x.toNat)
  | [], l, o, h, _ => by
    simp only [bytesOfA, Option.some.injEq] at h
    subst h
    exact ⟨rfl, fun j x hj => by simp at hj⟩
  | a :: xs, l, o, h, hre => by
    unfold bytesOfA at h
    split at h
    · rename_i heq; cases heq
    · rename_i n r heq
      cases heq
      split at h
      · rename_i hn
        simp only [Option.map_eq_some_iff] at h
        obtain ⟨l', hl, rfl⟩ := h
        simp only [RE] at hre
        obtain ⟨⟨v, h1, h2, h3, h4⟩, h5⟩ := hre
        obtain ⟨e1, e2⟩ := bytesOfA_spec hl h5
        refine ⟨by simp [e1], fun j x hj => ?_⟩
        cases j with
        | zero =>
          simp only [List.getElem?_cons_zero, Option.some.injEq] at hj
          subst hj
          simp only [R] at h1
          subst h1
          have := h4 0 _ rfl
          rw [this]
          have : (UInt8.ofNat n.toNat).toNat = n.toNat := by
            rw [UInt8.toNat_ofNat']
            exact Nat.mod_eq_of_lt (by omega)
          rw [this]
          congr 2
          omega
        | succ j =>
          have := e2 j x (by simpa using hj)
          rw [← this]
          congr 1
          omega
      · cases h
    · cases h

theorem bldString_sound {f : FuncId} {T5 : TypeId} (hent : ∀ (w : World) (vargs : Array Value), (callFunc f vargs).run P w = .ok (.enter f vargs) w)
    (hcall : ∀ (b q g o cap cells : Nat) (l : List UInt8) (w : World), q = 0 → l ≠ [] → w.cell? ⟨b, 1, none⟩ = some (.slice (some ⟨g, o, none⟩) l.length cap) → l.length ≤ cap → l.length ≤ 9223372036854775807 →
      w.shape? g = some (T5, cells) → o + l.length ≤ cells → (∀ j x, l[j]? = some x → w.cell? ⟨g, o + j, none⟩ = some (.int .u8 x.toNat)) →
      Calls P f #[.pointer (some ⟨b, q, none⟩)] w fun e w' => e = .returned (.string ⟨l.toArray⟩) ∧ w' = w.drew.freeze ⟨g, o, none⟩ l.length) (T : TypeId) :
    PrimDoes P B w0 f (bldString T T5) := by
  intro args st r st' h
  refine ⟨hent, fun Γ w vargs hI hargs => ?_⟩
  unfold bldString at h
  split at h
  · rename_i b
    split at h
    · rename_i a t xs hg
      split at h
      · rename_i x l T' hb htt
        split at h
        · rename_i hT
          obtain ⟨rfl, hal, hty, hsize⟩ := hT
          cases h
          obtain ⟨v, rfl, hv⟩ := one_arg hargs
          obtain ⟨blk, base, tot, c, T1, va, vb, ho, rfl, ht, hc, hs, q1, q2, ra, rb, hok⟩ := bld_mem hI hg hv
          obtain ⟨blk2, sz2, tot2, o2, _⟩ := hI.tys b T hty
          rw [ho] at o2
          simp only [Option.some.injEq, Prod.mk.injEq] at o2
          obtain ⟨_, e2, _, _⟩ := o2
          subst e2
          simp only [R] at rb
          obtain ⟨g, o, cap, rfl, k1, _, k3, k4⟩ := rb
          obtain ⟨hlen, hbytes⟩ := bytesOfA_spec hb k4
          have hpos : 0 < xs.length := by rw [← hlen]; simp
          obtain ⟨g2, e', tot', tk1, ety⟩ := hI.ttys t T' htt
          rcases k3 with k3 | ⟨e3, tot3, tk3, k5, k6⟩
          · omega
          · rw [tk1] at tk3
            simp only [Option.some.injEq, Prod.mk.injEq] at tk3
            obtain ⟨rfl, rfl, rfl⟩ := tk3
            obtain ⟨⟨c2, T2, hc2, htot⟩, _⟩ := hI.toks t g2 e' tot' hal tk1
            obtain ⟨c4, fr4, hc4⟩ := hI.ety _ _ ety
            rw [hc2] at hc4
            simp only [Option.some.injEq, Obj.cells.injEq] at hc4
            obtain ⟨_, e4, _⟩ := hc4
            subst e4
            have hg2 : OwnB Γ st t g2 := .inr (.inr ⟨hal, e', tot', tk1⟩)
            have hll : (x :: l).length = xs.length := hlen
            refine (hcall blk 0 g2 o cap c2.size (x :: l) w rfl (by simp) ?_ (by omega) ?_ ?_ ?_ ?_).mono ?_
            · rw [cell_of_heap hc, hll]; simpa using q2
            · simp only [List.length_cons]; omega
            · unfold World.shape?; rw [hc2]
            · omega
            · intro j y hj
              exact hI.inert _ _ _ (hbytes j y hj)
            · rintro e w' ⟨rfl, rfl⟩
              have out1 := hI.dropTok t
              have hno : ∀ i, ¬ OwnB Γ (st.dropTok t) i g2 := by
                intro i hi
                have hi' : OwnB Γ st i g2 := by
                  rcases hi with hi | hi | ⟨k1, k2⟩
                  · exact .inl hi
                  · exact .inr (.inl hi)
                  · rw [St.alive_dropTok] at k1
                    split at k1
                    · cases k1
                    · exact .inr (.inr ⟨k1, k2⟩)
                have := hI.uniq i t g2 hi' hg2
                subst this
                rcases hi with ⟨sz, ys, _, _, _, k1, _⟩ | ⟨_, _, _, k1, _⟩ | ⟨k1, _⟩
                · rw [St.get_dropTok, hI.disj _ hal] at k1; cases k1
                · rw [St.get_dropTok, hI.disj _ hal] at k1; cases k1
                · rw [St.alive_dropTok] at k1; simp at k1
              obtain ⟨fr, hfr⟩ := freeze_heap w.drew g2 o (x :: l).length c2 T2 (0, 0) hc2
              have inv2 := out1.inv.freezeBlk hno (hI.above t g2 hg2) ((Touch.drawn w _ _).trans (freeze_touch w.drew g2 o (x :: l).length)) hc2 hfr
              exact ⟨_, Γ, rfl, ⟨Ghost.Le.refl Γ, inv2, out1.keep⟩, by simp only [R]⟩
        · cases h
      · cases h
    · cases h
  · cases h
end
end Go.Abs
