/- Own text of this claim: part 7 of an interpreter that is proved sound against the model, and of what it shows of the law. -/
import Derived.Test.YthomnnnhkfjbdaaGreatAbs6
namespace Go.Abs

theorem exec_lift {E : Env} {fid n m k : Nat} {c : Code} {tm : TM} {st : St} {r : AExit × TM × St} (h : exec E (callF E n) fid n c tm st = some r) (hm : n ≤ m) (hk : n ≤ k) : exec E (callF E k) fid m c tm st = some r :=
  exec_mono (callF_mono n k hk) n m c tm st hm h

def W (E : Env) (fid : Nat) (c : Code) (tm : TM) (st : St) (Q : AExit → TM → St → Prop) : Prop :=
  ∃ n e tm' st', exec E (callF E n) fid n c tm st = some (e, tm', st') ∧ Q e tm' st'
def CW (E : Env) (f : FuncId) (args : List AV) (st : St) (Q : AV → St → Prop) : Prop :=
  ∃ n r st', callF E n f args st = some (r, st') ∧ Q r st'
def OW (E : Env) (pre : Pre) (pol : Nat → Nat) (ops : Array Oper) (l : List Oper) (i : Nat) (tm : TM) (st : St) (Q : TM → St → Prop) : Prop :=
  ∃ n tm' st', runOps E (callF E n) pre pol ops l i tm st = some (tm', st') ∧ Q tm' st'

section
variable {E : Env} {fid : Nat} {tm : TM} {st : St}

def seqQ (E : Env) (fid : Nat) (b : Code) (Q : AExit → TM → St → Prop) (e : AExit) (tm : TM) (st : St) : Prop :=
  match e with
  | .normal => W E fid b tm st Q
  | e => Q e tm st
theorem W.seq {a b : Code} {Q : AExit → TM → St → Prop} (h : W E fid a tm st (seqQ E fid b Q)) : W E fid (.seq a b) tm st Q := by
  obtain ⟨n, e, tm1, st1, h1, h2⟩ := h
  cases e with
  | normal =>
    obtain ⟨m, e', tm2, st2, h3, h4⟩ := h2
    refine ⟨max n m + 1, e', tm2, st2, ?_, h4⟩
    simp only [exec]
    rw [exec_lift h1 (by omega) (by omega)]
    exact exec_lift h3 (by omega) (by omega)
  | exit i =>
    refine ⟨n + 1, _, tm1, st1, ?_, h2⟩
    simp only [exec]
    rw [exec_lift h1 (by omega) (by omega)]
  | ret =>
    refine ⟨n + 1, _, tm1, st1, ?_, h2⟩
    simp only [exec]
    rw [exec_lift h1 (by omega) (by omega)]
theorem seqQ.normal {b : Code} {Q : AExit → TM → St → Prop} (h : W E fid b tm st Q) : seqQ E fid b Q .normal tm st := h
theorem seqQ.exit {b : Code} {Q : AExit → TM → St → Prop} {i : Nat} (h : Q (.exit i) tm st) : seqQ E fid b Q (.exit i) tm st := h
theorem seqQ.ret {b : Code} {Q : AExit → TM → St → Prop} (h : Q .ret tm st) : seqQ E fid b Q .ret tm st := h

def blockQ (i : Nat) (Q : AExit → TM → St → Prop) (e : AExit) (tm : TM) (st : St) : Prop :=
  match e with
  | .exit j => if j = i then Q .normal tm st else Q (.exit j) tm st
  | e => Q e tm st
theorem W.block {a : Code} {i : Nat} {Q : AExit → TM → St → Prop} (h : W E fid a tm st (blockQ i Q)) : W E fid (.block i a) tm st Q := by
  obtain ⟨n, e, tm1, st1, h1, h2⟩ := h
  cases e with
  | normal =>
    refine ⟨n + 1, _, tm1, st1, ?_, h2⟩
    simp only [exec]
    rw [exec_lift h1 (by omega) (by omega)]
  | exit j =>
    simp only [blockQ] at h2
    by_cases hj : j = i
    · rw [if_pos hj] at h2
      refine ⟨n + 1, _, tm1, st1, ?_, h2⟩
      simp only [exec]
      rw [exec_lift h1 (by omega) (by omega)]
      dsimp only
      rw [if_pos hj]
    · rw [if_neg hj] at h2
      refine ⟨n + 1, _, tm1, st1, ?_, h2⟩
      simp only [exec]
      rw [exec_lift h1 (by omega) (by omega)]
      dsimp only
      rw [if_neg hj]
  | ret =>
    refine ⟨n + 1, _, tm1, st1, ?_, h2⟩
    simp only [exec]
    rw [exec_lift h1 (by omega) (by omega)]
theorem blockQ.normal {i : Nat} {Q : AExit → TM → St → Prop} (h : Q .normal tm st) : blockQ i Q .normal tm st := h
theorem blockQ.here {i : Nat} {Q : AExit → TM → St → Prop} (h : Q .normal tm st) : blockQ i Q (.exit i) tm st := by
  simp only [blockQ, if_true]; exact h
theorem blockQ.exit {i j : Nat} {Q : AExit → TM → St → Prop} (hj : Nat.beq j i = false) (h : Q (.exit j) tm st) : blockQ i Q (.exit j) tm st := by
  have : j ≠ i := fun k => by subst k; simp at hj
  simp only [blockQ, if_neg this]; exact h
theorem blockQ.ret {i : Nat} {Q : AExit → TM → St → Prop} (h : Q .ret tm st) : blockQ i Q .ret tm st := h

theorem W.skip {Q : AExit → TM → St → Prop} (h : Q .normal tm st) : W E fid .skip tm st Q := ⟨1, _, _, _, rfl, h⟩
theorem W.ret {Q : AExit → TM → St → Prop} (h : Q .ret tm st) : W E fid .ret tm st Q := ⟨1, _, _, _, rfl, h⟩
theorem W.exit {i : Nat} {Q : AExit → TM → St → Prop} (h : Q (.exit i) tm st) : W E fid (.exit i) tm st Q := ⟨1, _, _, _, rfl, h⟩
theorem W.cond {c : Operand} {a b : Code} {Q : AExit → TM → St → Prop} {t : Bool} (ht : evalO tm c = .bool t) (h1 : t = true → W E fid a tm st Q) (h2 : t = false → W E fid b tm st Q) : W E fid (.cond c a b) tm st Q := by
  cases t with
  | true =>
    obtain ⟨n, e, tm1, st1, h3, h4⟩ := h1 rfl
    refine ⟨n + 1, e, tm1, st1, ?_, h4⟩
    simp only [exec]
    rw [ht]
    exact exec_lift h3 (by omega) (by omega)
  | false =>
    obtain ⟨n, e, tm1, st1, h3, h4⟩ := h2 rfl
    refine ⟨n + 1, e, tm1, st1, ?_, h4⟩
    simp only [exec]
    rw [ht]
    exact exec_lift h3 (by omega) (by omega)
theorem W.mono {c : Code} {Q Q' : AExit → TM → St → Prop} (h : W E fid c tm st Q) (hq : ∀ e tm st, Q e tm st → Q' e tm st) : W E fid c tm st Q' := by
  obtain ⟨n, e, tm1, st1, h1, h2⟩ := h
  exact ⟨n, e, tm1, st1, h1, hq _ _ _ h2⟩

def loopQ (I : Nat → TM → St → Prop) (k : Nat) (Q : AExit → TM → St → Prop) (e : AExit) (tm : TM) (st : St) : Prop :=
  match e with
  | .normal => ∃ j, j < k ∧ I j tm st
  | e => Q e tm st
theorem W.loop {c : Code} {Q : AExit → TM → St → Prop} (I : Nat → TM → St → Prop) (hb : ∀ k tm st, I k tm st → W E fid c tm st (loopQ I k Q)) : ∀ (k : Nat) (tm : TM) (st : St), I k tm st → W E fid (.loop c) tm st Q := by
  intro k
  induction k using Nat.strongRecOn with
  | ind k ih =>
    intro tm st h
    obtain ⟨n, e, tm1, st1, h1, h2⟩ := hb k tm st h
    cases e with
    | normal =>
      obtain ⟨j, hj, hI⟩ := h2
      obtain ⟨m, e', tm2, st2, h3, h4⟩ := ih j hj tm1 st1 hI
      refine ⟨max n m + 1, e', tm2, st2, ?_, h4⟩
      simp only [exec]
      rw [exec_lift h1 (by omega) (by omega)]
      exact exec_lift h3 (by omega) (by omega)
    | exit i =>
      refine ⟨n + 1, _, tm1, st1, ?_, h2⟩
      simp only [exec]
      rw [exec_lift h1 (by omega) (by omega)]
    | ret =>
      refine ⟨n + 1, _, tm1, st1, ?_, h2⟩
      simp only [exec]
      rw [exec_lift h1 (by omega) (by omega)]
theorem loopQ.normal {I : Nat → TM → St → Prop} {k : Nat} {Q : AExit → TM → St → Prop} (j : Nat) (hj : j < k) (h : I j tm st) : loopQ I k Q .normal tm st := ⟨j, hj, h⟩
theorem loopQ.exit {I : Nat → TM → St → Prop} {k : Nat} {Q : AExit → TM → St → Prop} {i : Nat} (h : Q (.exit i) tm st) : loopQ I k Q (.exit i) tm st := h
theorem loopQ.ret {I : Nat → TM → St → Prop} {k : Nat} {Q : AExit → TM → St → Prop} (h : Q .ret tm st) : loopQ I k Q .ret tm st := h

theorem W.region {id : Nat} {ops : Array Oper} {Q : AExit → TM → St → Prop} (h : OW E none (E.pol fid id) ops ops.toList 0 tm st (Q .normal)) : W E fid (.region id ops false) tm st Q := by
  obtain ⟨n, tm1, st1, h1, h2⟩ := h
  refine ⟨n + 1, .normal, tm1, st1, ?_, h2⟩
  simp only [exec, execReg, Bool.false_eq_true, if_false]
  rw [runOps_mono (callF_mono n (n + 1) (by omega)) _ _ _ _ h1]
def St.at (st : St) (n : Nat) : St := { st with next := n }
def hasAlloc (ops : Array Oper) : Bool := ops.toList.any fun o => match o.op with | .alloc _ => true | _ => false
theorem preObjs_none {E : Env} {base : Nat} : ∀ (l : List Oper) (i : Nat) (acc : List (Nat × AObj)), (l.any fun o => match o.op with | .alloc _ => true | _ => false) = false → preObjs E base l i acc = some acc
  | [], _, _, _ => rfl
  | o :: l, i, acc, h => by
    simp only [List.any_cons, Bool.or_eq_false_iff] at h
    have ih := preObjs_none (E := E) (base := base) l (i + 1) acc h.2
    unfold preObjs
    split
    · rename_i t ht
      rw [ht] at h; simp at h
    · exact ih
theorem W.draw {id : Nat} {ops : Array Oper} {Q : AExit → TM → St → Prop} {objs : List (Nat × AObj)} (hd : E.dyn fid id = []) (ho : preObjs E st.next ops.toList 0 st.objs = some objs) (hk : E.mks fid id = false)
    (h : OW E (some (st.next, false)) (E.pol fid id) ops ops.toList 0 tm { st with next := st.next + ops.size, objs := objs } (Q .normal)) : W E fid (.region id ops true) tm st Q := by
  obtain ⟨n, tm1, st1, h1, h2⟩ := h
  refine ⟨n + 1, .normal, tm1, st1, ?_, h2⟩
  simp only [exec, execReg, if_true, ho, hd, hk]
  rw [runOps_mono (callF_mono n (n + 1) (by omega)) _ _ _ _ h1]
theorem W.draw0 {id : Nat} {ops : Array Oper} {Q : AExit → TM → St → Prop} (hd : E.dyn fid id = []) (ho : hasAlloc ops = false) (hk : E.mks fid id = false)
    (h : OW E (some (st.next, false)) (E.pol fid id) ops ops.toList 0 tm (st.at (st.next + ops.size)) (Q .normal)) : W E fid (.region id ops true) tm st Q :=
  W.draw hd (preObjs_none _ _ _ ho) hk h

theorem stepPre_quiet {call : Call1} {pre : Pre} {pol i : Nat} {o : Oper} {v : AV} (hl : isLoud o.op = false) (hq : quiet E tm st o = some v) : stepPre E call pre pol i tm st o = some (v, st) := by
  unfold stepPre
  split
  · rename_i h; rw [h] at hl; simp [isLoud] at hl
  · rename_i h; rw [h] at hl; simp [isLoud] at hl
  · rename_i h; rw [h] at hl; simp [isLoud] at hl
  · unfold stepOp
    rw [hl, hq]; rfl
def noCall : Call1 := fun _ _ _ => none
theorem stepPre_loud {call : Call1} {pre : Pre} {pol i : Nat} {o : Oper} {v : AV} {st' : St} (hp : ∀ b, pre = some b → b.2 = false ∧ ∀ t, o.op ≠ .alloc t) (hl : isLoud o.op = true) (hf : isFnCall o.op = false) (hq : loud E noCall pol tm st o = some (v, st')) : stepPre E call pre pol i tm st o = some (v, st') := by
  unfold stepPre
  split
  · rename_i b f t h; exact absurd h ((hp _ rfl).2 t)
  · have := (hp _ rfl).1; cases this
  · have := (hp _ rfl).1; cases this
  · unfold stepOp
    rw [if_pos hl, loud_mono (fun _ _ _ _ h => by cases h) hq]
    dsimp only
    rw [hf, Bool.and_false]; rfl
def retQ (E : Env) (rs : List ResultVar) (Q : AV → St → Prop) (e : AExit) (tm : TM) (st : St) : Prop :=
  (e = .normal ∨ e = .ret) ∧ ∃ v, resultsA E rs tm st = some v ∧ Q v st
theorem retQ.ret {rs : List ResultVar} {Q : AV → St → Prop} {v : AV} (h : resultsA E rs tm st = some v) (hq : Q v st) : retQ E rs Q .ret tm st := ⟨.inr rfl, v, h, hq⟩
theorem CW.fn {f : FuncId} {fn : FnI} {args : List AV} {Q : AV → St → Prop} (hp : E.prim f = none) (hf : E.fns f = some fn)
    (h : ∀ tm, tm.n = max fn.ntmps args.length → (∀ i x, args[i]? = some x → tm.get i = x) → W E f fn.code tm st (retQ E fn.results Q)) : CW E f args st Q := by
  have hof : ∀ i x, args[i]? = some x → (TM.of args fn.ntmps).get i = x := fun i x hx => by
    obtain ⟨hi, h1⟩ := List.getElem?_eq_some_iff.1 hx
    simp only [TM.of, TM.get]
    rw [Tri.get_ofL, if_pos (by omega), Nat.sub_zero, List.getD_eq_getElem?_getD, hx]; rfl
  obtain ⟨n, e, tm1, st1, h1, he, v, h2, h3⟩ := h (TM.of args fn.ntmps) rfl hof
  refine ⟨n + 1, v, st1, ?_, h3⟩
  simp only [callF, hp, hf]
  rw [h1]
  rcases he with rfl | rfl <;> simp only [h2, Option.map_some]
theorem CW.prim {f : FuncId} {g : List AV → St → Option (AV × St)} {args : List AV} {Q : AV → St → Prop} {r : AV} {st' : St} (hp : E.prim f = some g) (h : g args st = some (r, st')) (hq : Q r st') : CW E f args st Q := by
  refine ⟨1, r, st', ?_, hq⟩
  simp only [callF, hp]
  exact h
theorem CW.mono {f : FuncId} {args : List AV} {Q Q' : AV → St → Prop} (h : CW E f args st Q) (hq : ∀ r st, Q r st → Q' r st) : CW E f args st Q' := by
  obtain ⟨n, r, st1, h1, h2⟩ := h
  exact ⟨n, r, st1, h1, hq _ _ h2⟩
end
end Go.Abs

namespace Go.Abs

theorem runOps_of_T {E : Env} {c : Call1} {pre : Pre} {pol : Nat → Nat} {ops : Array Oper} : ∀ (l : List Oper) (i : Nat) (tm : TM) (st : St) {tr : List Tr} {q : TM × St}, runOpsT E c pre pol ops l i tm st = some (tr, q) → runOps E c pre pol ops l i tm st = some q ∧ tr.length = l.length
  | [], _, _, _, _, _, h => by
    simp only [runOpsT, Option.some.injEq, Prod.mk.injEq] at h
    obtain ⟨rfl, rfl⟩ := h
    exact ⟨rfl, rfl⟩
  | o :: l, i, tm, st, tr, q, h => by
    cases hw : wantedA ops tm o with
    | none => simp only [runOpsT, hw] at h; cases h
    | some b =>
      cases b with
      | true =>
        cases hs : stepPre E c pre (pol i) i tm st o with
        | none => simp only [runOpsT, hw, hs] at h; cases h
        | some vs =>
          obtain ⟨v, st'⟩ := vs
          cases hl : runOpsT E c pre pol ops l (i + 1) (putO tm o.dst v) st' with
          | none => simp only [runOpsT, hw, hs, hl] at h; cases h
          | some lq =>
            obtain ⟨l', q'⟩ := lq
            simp only [runOpsT, hw, hs, hl, Option.some.injEq, Prod.mk.injEq] at h
            obtain ⟨rfl, rfl⟩ := h
            have := runOps_of_T l (i + 1) _ _ hl
            simp only [runOps, hw, hs]
            exact ⟨this.1, by simp [this.2]⟩
      | false =>
        cases hl : runOpsT E c pre pol ops l (i + 1) (putO tm o.dst (.tup [])) st with
        | none => simp only [runOpsT, hw, hl] at h; cases h
        | some lq =>
          obtain ⟨l', q'⟩ := lq
          simp only [runOpsT, hw, hl, Option.some.injEq, Prod.mk.injEq] at h
          obtain ⟨rfl, rfl⟩ := h
          have := runOps_of_T l (i + 1) _ _ hl
          simp only [runOps, hw]
          exact ⟨this.1, by simp [this.2]⟩

def Stays (E : Env) (st : St) (l : List Oper) (tr : List Tr) : Prop :=
  ∀ (k : Nat) (t : Tr) (o : Oper), tr[k]? = some t → l[k]? = some o → t.was = st ∧ t.now = st ∧ (t.did = true → isLoud o.op = false → quiet E t.tm st o = some t.v)
theorem Stays.cons {E : Env} {st : St} {o : Oper} {l : List Oper} {t : Tr} {tr : List Tr} (h : t.was = st ∧ t.now = st ∧ (t.did = true → isLoud o.op = false → quiet E t.tm st o = some t.v)) (hs : Stays E st l tr) : Stays E st (o :: l) (t :: tr) := by
  intro k t' o' h1 h2
  cases k with
  | zero =>
    simp only [List.getElem?_cons_zero, Option.some.injEq] at h1 h2
    subst h1; subst h2; exact h
  | succ k =>
    simp only [List.getElem?_cons_succ] at h1 h2
    exact hs k t' o' h1 h2

def OWc (E : Env) (c : Bool) (pre : Pre) (pol : Nat → Nat) (ops : Array Oper) (l : List Oper) (i : Nat) (tm : TM) (st : St) (Q : TM → St → Prop) : Prop :=
  ∃ n tr tm' st', runOpsT E (callF E n) pre pol ops l i tm st = some (tr, tm', st') ∧ (c = true → st' = st ∧ Stays E st l tr) ∧ Q tm' st'

section
variable {E : Env} {fid : Nat} {tm : TM} {st : St}

theorem OWc.toOW {c : Bool} {pre : Pre} {pol : Nat → Nat} {ops : Array Oper} {l : List Oper} {i : Nat} {Q : TM → St → Prop} (h : OWc E c pre pol ops l i tm st Q) : OW E pre pol ops l i tm st Q := by
  obtain ⟨n, tr, tm', st', h1, _, h2⟩ := h
  exact ⟨n, tm', st', (runOps_of_T _ _ _ _ h1).1, h2⟩

def dyCheck (ops : Array Oper) (dy : List (Nat × Nat)) : Bool :=
  dy.all fun p => Nat.blt p.1 ops.toList.length && Nat.blt p.2 ops.toList.length && (match ops.toList[p.2]? with | some o => !isLoud o.op | none => false)
theorem W.drawC {id : Nat} {ops : Array Oper} {dy : List (Nat × Nat)} {Q : AExit → TM → St → Prop} (hd : E.dyn fid id = dy) (ho : hasAlloc ops = false) (hc : dyCheck ops dy = true)
    (h : OWc E true (some (st.next, false)) (E.pol fid id) ops ops.toList 0 tm (st.at (st.next + ops.size)) (Q .normal)) (hk : E.mks fid id = false := by rfl) : W E fid (.region id ops true) tm st Q := by
  obtain ⟨n, tr, tm1, st1, h1, hs, h2⟩ := h
  obtain ⟨hst, hsy⟩ := hs rfl
  subst hst
  have hlen := (runOps_of_T _ _ _ _ h1).2
  refine ⟨n + 1, .normal, tm1, _, ?_, h2⟩
  have hpre : preObjs E st.next ops.toList 0 st.objs = some st.objs := preObjs_none _ _ _ ho
  have h1' := runOpsT_mono (callF_mono n (n + 1) (by omega)) _ _ _ _ h1
  simp only [exec, execReg, if_true, hpre, hd, hk]
  cases dy with
  | nil =>
    dsimp only
    have := (runOps_of_T _ _ _ _ h1').1
    unfold St.at at this
    rw [this]
    rfl
  | cons d ds =>
    dsimp only
    unfold St.at at h1'
    rw [h1']
    dsimp only
    have hall : (d :: ds).all (dynOk E ops tr) = true := by
      rw [List.all_eq_true]
      intro p hp
      have hc' := List.all_eq_true.1 hc p hp
      simp only [Bool.and_eq_true] at hc'
      obtain ⟨⟨c1, c2⟩, c3⟩ := hc'
      have c1 : p.1 < ops.toList.length := Eq.mp Nat.blt_eq c1
      have c2 : p.2 < ops.toList.length := Eq.mp Nat.blt_eq c2
      have e1 : p.1 < tr.length := by rw [hlen]; exact c1
      have e2 : p.2 < tr.length := by rw [hlen]; exact c2
      have o1 := List.getElem?_eq_getElem c1
      have o2 := List.getElem?_eq_getElem c2
      have t1 := List.getElem?_eq_getElem e1
      have t2 := List.getElem?_eq_getElem e2
      rw [o2] at c3
      have c3 : isLoud ops.toList[p.2].op = false := by simpa using c3
      obtain ⟨a1, a2, _⟩ := hsy p.1 _ _ t1 o1
      obtain ⟨_, _, b3⟩ := hsy p.2 _ _ t2 o2
      unfold dynOk
      rw [t1, t2, show ops[p.2]? = ops.toList[p.2]? from (Array.getElem?_toList).symm, o2]
      dsimp only
      by_cases hd1 : tr[p.2].did = true
      · rw [a1, a2, b3 hd1 c3]
        simp [AV.beq_refl]
      · simp [hd1]
    rw [if_pos hall]
    rfl

def lk : List (Nat × AV) → Nat → Option AV
  | [], _ => none
  | (i, v) :: r, j => bif Nat.beq i j then some v else lk r j
def evL (l : List (Nat × AV)) : Operand → Option AV
  | .tmp t => lk l t
  | .const v => some (ofValue v)
  | .global g => some (.gptr g)
  | .func f => some (.fn f [] [])
def evLs (l : List (Nat × AV)) : List Operand → Option (List AV)
  | [] => some []
  | x :: r => match evL l x, evLs l r with
    | some v, some vs => some (v :: vs)
    | _, _ => none

structure Fa (N : Nat) (l : List (Nat × AV)) (L : List (Nat × AObj)) (K : List (Nat × Bool)) (tm : TM) (st : St) : Prop where
  n : tm.n = N
  get : ∀ i v, lk l i = some v → tm.get i = v
  obj : ∀ (k b : Nat) (o : AObj), L[k]? = some (b, o) → st.get b = some o ∧ b < st.next
  uniq : ∀ (k k' b : Nat) (o o' : AObj), L[k]? = some (b, o) → L[k']? = some (b, o') → k = k'
  tok : ∀ (k t : Nat), K[k]? = some (t, true) → st.alive t = true ∧ t < st.next
  uniqT : ∀ (k k' t : Nat), K[k]? = some (t, true) → K[k']? = some (t, true) → k = k'

theorem Fa.ev {N : Nat} {l : List (Nat × AV)} {L : List (Nat × AObj)} {K : List (Nat × Bool)} (h : Fa N l L K tm st) {x : Operand} {v : AV} (hx : evL l x = some v) : evalO tm x = v := by
  cases x with
  | tmp t => exact h.get t v hx
  | const u => simpa [evL, evalO] using hx
  | global g => simpa [evL, evalO] using hx
  | func f => simpa [evL, evalO] using hx
theorem Fa.evs {N : Nat} {l : List (Nat × AV)} {L : List (Nat × AObj)} {K : List (Nat × Bool)} (h : Fa N l L K tm st) : ∀ {xs : List Operand} {vs : List AV}, evLs l xs = some vs → xs.map (evalO tm) = vs
  | [], vs, hx => by simpa [evLs] using hx
  | x :: xs, vs, hx => by
    simp only [evLs] at hx
    split at hx
    · rename_i v ws h1 h2
      cases hx
      rw [List.map_cons, h.ev h1, h.evs h2]
    · cases hx
theorem Fa.put {N : Nat} {l : List (Nat × AV)} {L : List (Nat × AObj)} {K : List (Nat × Bool)} (h : Fa N l L K tm st) {d : Nat} (hd : Nat.blt d N = true) (v : AV) : Fa N ((d, v) :: l) L K (tm.put d v) st := by
  have hd' : d < tm.n := by rw [h.n]; exact Eq.mp Nat.blt_eq hd
  refine ⟨by rw [TM.n_put]; exact h.n, fun i u hu => ?_, h.obj, h.uniq, h.tok, h.uniqT⟩
  rw [TM.get_put]
  simp only [lk] at hu
  cases hb : Nat.beq d i with
  | true =>
    rw [hb] at hu
    simp only [cond_true, Option.some.injEq] at hu
    have := Nat.eq_of_beq_eq_true hb
    rw [if_pos ⟨this.symm, hd'⟩]; exact hu
  | false =>
    rw [hb] at hu
    simp only [cond_false] at hu
    have := Nat.ne_of_beq_eq_false hb
    rw [if_neg (fun k => this k.1.symm)]
    exact h.get i u hu
def Sub (l l' : List (Nat × AV)) : Prop := ∀ i v, lk l' i = some v → lk l i = some v
theorem Sub.nil (l : List (Nat × AV)) : Sub l [] := fun _ _ h => by simp [lk] at h
theorem Sub.cons {l l' : List (Nat × AV)} {i : Nat} {v : AV} (h : lk l i = some v) (k : Sub l l') : Sub l ((i, v) :: l') := by
  intro j u hu
  simp only [lk] at hu
  cases hb : Nat.beq i j with
  | true =>
    rw [hb] at hu
    simp only [cond_true, Option.some.injEq] at hu
    have := Nat.eq_of_beq_eq_true hb
    subst this; rw [h, hu]
  | false =>
    rw [hb] at hu
    exact k j u hu
def SubO (L L' : List (Nat × AObj)) : Prop := ∃ f : Nat → Nat, (∀ (k : Nat) (p : Nat × AObj), L'[k]? = some p → L[f k]? = some p) ∧ ∀ k k' : Nat, k < L'.length → k' < L'.length → f k = f k' → k = k'
theorem SubO.nil (L : List (Nat × AObj)) : SubO L [] := ⟨id, fun k p h => by simp at h, fun k k' h => by simp at h⟩
theorem SubO.refl (L : List (Nat × AObj)) : SubO L L := ⟨id, fun k p h => h, fun k k' _ _ h => h⟩
def SubK (K K' : List (Nat × Bool)) : Prop := ∃ f : Nat → Nat, (∀ (k t : Nat), K'[k]? = some (t, true) → K[f k]? = some (t, true)) ∧ ∀ k k' t t' : Nat, K'[k]? = some (t, true) → K'[k']? = some (t', true) → f k = f k' → k = k'
theorem SubK.nil (K : List (Nat × Bool)) : SubK K [] := ⟨id, fun k t h => by simp at h, fun k k' t t' h => by simp at h⟩
theorem SubK.refl (K : List (Nat × Bool)) : SubK K K := ⟨id, fun _ _ h => h, fun _ _ _ _ _ _ h => h⟩
theorem SubK.drop {K K' : List (Nat × Bool)} {p : Nat × Bool} (h : SubK K K') : SubK (p :: K) K' := by
  obtain ⟨f, h1, h2⟩ := h
  exact ⟨fun k => f k + 1, fun k q hk => by simpa using h1 k q hk, fun k k' t t' a b e => h2 k k' t t' a b (by simpa using e)⟩
theorem SubK.keep {K K' : List (Nat × Bool)} {t : Nat} {b b' : Bool} (hb : b' = true → b = true) (h : SubK K K') : SubK ((t, b) :: K) ((t, b') :: K') := by
  obtain ⟨f, h1, h2⟩ := h
  refine ⟨fun k => match k with | 0 => 0 | k + 1 => f k + 1, fun k q hk => ?_, fun k k' u u' a b e => ?_⟩
  · cases k with
    | zero =>
      simp only [List.getElem?_cons_zero, Option.some.injEq, Prod.mk.injEq] at hk ⊢
      exact ⟨hk.1, hb hk.2⟩
    | succ k => simpa using h1 k q (by simpa using hk)
  · cases k with
    | zero => cases k' with
      | zero => rfl
      | succ k' => simp at e
    | succ k => cases k' with
      | zero => simp at e
      | succ k' =>
        simp only [Nat.add_right_cancel_iff] at e
        rw [h2 k k' u u' (by simpa using a) (by simpa using b) e]
theorem SubK.new {K K' : List (Nat × Bool)} {t : Nat} (h : SubK K K') : SubK K ((t, false) :: K') := by
  obtain ⟨f, h1, h2⟩ := h
  refine ⟨fun k => match k with | 0 => 0 | k + 1 => f k, fun k q hk => ?_, fun k k' u u' a b e => ?_⟩
  · cases k with
    | zero => simp at hk
    | succ k => simpa using h1 k q (by simpa using hk)
  · cases k with
    | zero => simp at a
    | succ k => cases k' with
      | zero => simp at b
      | succ k' => rw [h2 k k' u u' (by simpa using a) (by simpa using b) e]
theorem SubO.drop {L L' : List (Nat × AObj)} {p : Nat × AObj} (h : SubO L L') : SubO (p :: L) L' := by
  obtain ⟨f, h1, h2⟩ := h
  exact ⟨fun k => f k + 1, fun k q hk => by simpa using h1 k q hk, fun k k' a b e => h2 k k' a b (by simpa using e)⟩
theorem SubO.keep {L L' : List (Nat × AObj)} {p : Nat × AObj} (h : SubO L L') : SubO (p :: L) (p :: L') := by
  obtain ⟨f, h1, h2⟩ := h
  refine ⟨fun k => match k with | 0 => 0 | k + 1 => f k + 1, fun k q hk => ?_, fun k k' a b e => ?_⟩
  · cases k with
    | zero => exact hk
    | succ k => simpa using h1 k q (by simpa using hk)
  · simp only [List.length_cons] at a b
    cases k with
    | zero => cases k' with
      | zero => rfl
      | succ k' => simp at e
    | succ k => cases k' with
      | zero => simp at e
      | succ k' =>
        simp only [Nat.add_right_cancel_iff] at e
        rw [h2 k k' (by omega) (by omega) e]
theorem Fa.sub {N : Nat} {l l' : List (Nat × AV)} {L L' : List (Nat × AObj)} {K K' : List (Nat × Bool)} (h : Fa N l L K tm st) (h1 : Sub l l') (h2 : SubO L L') (h3 : SubK K K') : Fa N l' L' K' tm st := by
  obtain ⟨f, f1, f2⟩ := h2
  obtain ⟨g, g1, g2⟩ := h3
  refine ⟨h.n, fun i v hv => h.get i v (h1 i v hv), fun k b o hk => h.obj (f k) b o (f1 k _ hk), fun k k' b o o' hk hk' => ?_, fun k t hk => ?_, fun k k' t hk hk' => ?_⟩
  · exact f2 k k' (List.getElem?_eq_some_iff.1 hk).1 (List.getElem?_eq_some_iff.1 hk').1 (h.uniq _ _ b o o' (f1 k _ hk) (f1 k' _ hk'))
  · exact h.tok (g k) t (g1 k t hk)
  · exact g2 k k' t t hk hk' (h.uniqT _ _ t (g1 k t hk) (g1 k' t hk'))
theorem Fa.at {N : Nat} {l : List (Nat × AV)} {L : List (Nat × AObj)} {K : List (Nat × Bool)} (h : Fa N l L K tm st) {m : Nat} (hm : st.next ≤ m) : Fa N l L K tm (st.at m) :=
  ⟨h.n, h.get, fun k b o hk => ⟨(h.obj k b o hk).1, Nat.lt_of_lt_of_le (h.obj k b o hk).2 hm⟩, h.uniq, fun k t hk => ⟨(h.tok k t hk).1, Nat.lt_of_lt_of_le (h.tok k t hk).2 hm⟩, h.uniqT⟩
end

def WS (E : Env) (fid N : Nat) (c : Code) (l : List (Nat × AV)) (L : List (Nat × AObj)) (K : List (Nat × Bool)) (Q : AExit → TM → St → Prop) : Prop :=
  ∀ tm st, Fa N l L K tm st → W E fid c tm st Q
def QS (N : Nat) (e : AExit) (l : List (Nat × AV)) (L : List (Nat × AObj)) (K : List (Nat × Bool)) (Q : AExit → TM → St → Prop) : Prop :=
  ∀ tm st, Fa N l L K tm st → Q e tm st
def OS (E : Env) (c : Bool) (pol : Nat → Nat) (ops : Array Oper) (r : List Oper) (i N : Nat) (l : List (Nat × AV)) (L : List (Nat × AObj)) (K : List (Nat × Bool)) (Q : AExit → TM → St → Prop) : Prop :=
  ∀ pre tm st, Fa N l L K tm st → (∀ b, pre = some b → hasAlloc ops = false ∧ b.2 = false) → OWc E c pre pol ops r i tm st (Q .normal)
def OD (E : Env) (c : Bool) (pol : Nat → Nat) (ops : Array Oper) (o : Oper) (r : List Oper) (i N : Nat) (l : List (Nat × AV)) (L : List (Nat × AObj)) (K : List (Nat × Bool)) (Q : AExit → TM → St → Prop) : Prop :=
  ∀ pre tm st, Fa N l L K tm st → (∀ b, pre = some b → hasAlloc ops = false ∧ b.2 = false) → wantedA ops tm o = some true → OWc E c pre pol ops (o :: r) i tm st (Q .normal)

section
variable {E : Env} {fid N : Nat} {l : List (Nat × AV)} {L : List (Nat × AObj)} {K : List (Nat × Bool)} {Q : AExit → TM → St → Prop}

theorem WS.seq {a b : Code} (h : WS E fid N a l L K (seqQ E fid b Q)) : WS E fid N (.seq a b) l L K Q := fun tm st hF => .seq (h tm st hF)
theorem WS.block {a : Code} {i : Nat} (h : WS E fid N a l L K (blockQ i Q)) : WS E fid N (.block i a) l L K Q := fun tm st hF => .block (h tm st hF)
theorem WS.skip (h : QS N .normal l L K Q) : WS E fid N .skip l L K Q := fun tm st hF => .skip (h tm st hF)
theorem WS.ret (h : QS N .ret l L K Q) : WS E fid N .ret l L K Q := fun tm st hF => .ret (h tm st hF)
theorem WS.exit {i : Nat} (h : QS N (.exit i) l L K Q) : WS E fid N (.exit i) l L K Q := fun tm st hF => .exit (h tm st hF)
theorem WS.condT {c : Operand} {a b : Code} (ht : evL l c = some (.bool true)) (h : WS E fid N a l L K Q) : WS E fid N (.cond c a b) l L K Q :=
  fun tm st hF => .cond (hF.ev ht) (fun _ => h tm st hF) (fun k => by cases k)
theorem WS.condF {c : Operand} {a b : Code} (ht : evL l c = some (.bool false)) (h : WS E fid N b l L K Q) : WS E fid N (.cond c a b) l L K Q :=
  fun tm st hF => .cond (hF.ev ht) (fun k => by cases k) (fun _ => h tm st hF)
theorem WS.cond {c : Operand} {a b : Code} {t : Bool} (ht : evL l c = some (.bool t)) (h1 : t = true → WS E fid N a l L K Q) (h2 : t = false → WS E fid N b l L K Q) : WS E fid N (.cond c a b) l L K Q :=
  fun tm st hF => .cond (hF.ev ht) (fun k => h1 k tm st hF) (fun k => h2 k tm st hF)
theorem WS.region {id : Nat} {ops : Array Oper} (h : OS E false (E.pol fid id) ops ops.toList 0 N l L K Q) : WS E fid N (.region id ops false) l L K Q :=
  fun tm st hF => .region (h none tm st hF (fun _ k => by cases k)).toOW
theorem WS.draw {id : Nat} {ops : Array Oper} (hd : E.dyn fid id = []) (ho : hasAlloc ops = false) (h : OS E false (E.pol fid id) ops ops.toList 0 N l L K Q) (hk : E.mks fid id = false := by rfl) : WS E fid N (.region id ops true) l L K Q :=
  fun tm st hF => .draw0 hd ho hk (h (some (st.next, false)) tm _ (hF.at (by omega)) (fun b hb => ⟨ho, by cases hb; rfl⟩)).toOW
theorem WS.drawC {id : Nat} {ops : Array Oper} {dy : List (Nat × Nat)} (hd : E.dyn fid id = dy) (ho : hasAlloc ops = false) (hc : dyCheck ops dy = true) (h : OS E true (E.pol fid id) ops ops.toList 0 N l L K Q) (hk : E.mks fid id = false := by rfl) : WS E fid N (.region id ops true) l L K Q :=
  fun tm st hF => .drawC hd ho hc (h (some (st.next, false)) tm _ (hF.at (by omega)) (fun b hb => ⟨ho, by cases hb; rfl⟩)) hk
theorem WS.sub {c : Code} {l' : List (Nat × AV)} {L' : List (Nat × AObj)} {K' : List (Nat × Bool)} (h1 : Sub l l') (h2 : SubO L L') (h3 : SubK K K') (h : WS E fid N c l' L' K' Q) : WS E fid N c l L K Q :=
  fun tm st hF => h tm st (hF.sub h1 h2 h3)

theorem QS.seqN {b : Code} (h : WS E fid N b l L K Q) : QS N .normal l L K (seqQ E fid b Q) := h
theorem QS.seqE {b : Code} {i : Nat} (h : QS N (.exit i) l L K Q) : QS N (.exit i) l L K (seqQ E fid b Q) := h
theorem QS.seqR {b : Code} (h : QS N .ret l L K Q) : QS N .ret l L K (seqQ E fid b Q) := h
theorem QS.blockN {i : Nat} (h : QS N .normal l L K Q) : QS N .normal l L K (blockQ i Q) := h
theorem QS.blockH {i : Nat} (h : QS N .normal l L K Q) : QS N (.exit i) l L K (blockQ i Q) := fun tm st hF => blockQ.here (h tm st hF)
theorem QS.blockR {i : Nat} (h : QS N .ret l L K Q) : QS N .ret l L K (blockQ i Q) := h
def resS (l : List (Nat × AV)) : List ResultVar → Option (List AV)
  | [] => some []
  | .tmp t :: rs => match lk l t, resS l rs with
    | some v, some vs => some (v :: vs)
    | _, _ => none
  | .cell _ _ :: _ => none
def res1 (l : List (Nat × AV)) (rs : List ResultVar) : Option AV :=
  match resS l rs with
  | some [v] => some v
  | some vs => some (.tup vs)
  | none => none
theorem Fa.resS {tm : TM} {st : St} (hF : Fa N l L K tm st) : ∀ {rs : List ResultVar} {vs : List AV}, resS l rs = some vs → resL E tm st rs = some vs
  | [], vs, h => h
  | .cell _ _ :: _, vs, h => by simp [Abs.resS] at h
  | .tmp t :: rs, vs, h => by
    simp only [Abs.resS] at h
    split at h
    · rename_i v vs' h1 h2
      simp only [resL, resA, hF.get t v h1, hF.resS h2]
      exact h
    · cases h
theorem Fa.res1 {tm : TM} {st : St} (hF : Fa N l L K tm st) {rs : List ResultVar} {v : AV} (h : res1 l rs = some v) : resultsA E rs tm st = some v := by
  unfold Abs.res1 at h
  cases hr : Abs.resS l rs with
  | none => rw [hr] at h; cases h
  | some vs =>
    rw [hr] at h
    unfold resultsA
    rw [hF.resS hr]
    match vs, h with
    | [], h => exact h
    | [_], h => exact h
    | _ :: _ :: _, h => exact h
theorem QS.retR {rs : List ResultVar} {v : AV} {Q : AV → St → Prop} (h : res1 l rs = some v) (hq : ∀ st, Q v st) : QS N .ret l L K (retQ E rs Q) :=
  fun _ st hF => retQ.ret (hF.res1 h) (hq st)
def loopS {D : Type} (N : Nat) (lf : D → List (Nat × AV)) (Lf : D → List (Nat × AObj)) (Kf : D → List (Nat × Bool)) (p : D → Prop) (m : D → Nat) (k : Nat) (tm : TM) (st : St) : Prop :=
  ∃ d, m d = k ∧ p d ∧ Fa N (lf d) (Lf d) (Kf d) tm st
theorem WS.loop {D : Type} {c : Code} (lf : D → List (Nat × AV)) (Lf : D → List (Nat × AObj)) (Kf : D → List (Nat × Bool)) (p : D → Prop) (m : D → Nat) (d0 : D) (h0 : p d0) (hl : Sub l (lf d0)) (hL : SubO L (Lf d0)) (hK : SubK K (Kf d0))
    (hb : ∀ d, p d → WS E fid N c (lf d) (Lf d) (Kf d) (loopQ (loopS N lf Lf Kf p m) (m d) Q)) : WS E fid N (.loop c) l L K Q := by
  intro tm st hF
  refine W.loop (loopS N lf Lf Kf p m) ?_ (m d0) tm st ⟨d0, rfl, h0, hF.sub hl hL hK⟩
  rintro k tm st ⟨d, rfl, hp, hF⟩
  exact hb d hp tm st hF
theorem QS.loopN {D : Type} {lf : D → List (Nat × AV)} {Lf : D → List (Nat × AObj)} {Kf : D → List (Nat × Bool)} {p : D → Prop} {m : D → Nat} {k : Nat} (d : D) (hp : p d) (hm : m d < k) (hl : Sub l (lf d)) (hL : SubO L (Lf d)) (hK : SubK K (Kf d)) : QS N .normal l L K (loopQ (loopS N lf Lf Kf p m) k Q) :=
  fun _ _ hF => loopQ.normal (m d) hm ⟨d, rfl, hp, hF.sub hl hL hK⟩
theorem QS.loopE {I : Nat → TM → St → Prop} {k i : Nat} (h : QS N (.exit i) l L K Q) : QS N (.exit i) l L K (loopQ I k Q) := h
theorem QS.loopR {I : Nat → TM → St → Prop} {k : Nat} (h : QS N .ret l L K Q) : QS N .ret l L K (loopQ I k Q) := h

variable {c : Bool} {pol : Nat → Nat} {ops : Array Oper} {o : Oper} {r : List Oper} {i : Nat}
theorem OS.nil (h : QS N .normal l L K Q) : OS E c pol ops [] i N l L K Q := by
  intro pre tm st hF _
  exact ⟨0, [], tm, st, rfl, fun _ => ⟨rfl, fun k t o h1 h2 => by simp at h1⟩, h tm st hF⟩
def wantS (ops : Array Oper) (l : List (Nat × AV)) (o : Oper) : Option Bool :=
  match o.guard with
  | none => some true
  | some (j, want) =>
    match (ops.toList[j]?).bind (·.dst) with
    | none => some false
    | some d =>
      match lk l d with
      | some (.bool b) => some (b == want)
      | some (.tup _) => some false
      | _ => none
theorem Fa.want {tm : TM} {st : St} (hF : Fa N l L K tm st) {b : Bool} (h : wantS ops l o = some b) : wantedA ops tm o = some b := by
  unfold wantS at h
  unfold wantedA
  split at h
  · rename_i hg; rw [hg]; exact h
  · rename_i j want hg
    rw [hg]
    dsimp only
    rw [← Array.getElem?_toList]
    split at h
    · rename_i hd; rw [hd]; exact h
    · rename_i d hd
      rw [hd]
      dsimp only
      split at h
      · rename_i b' hb; rw [hF.get d _ hb]; exact h
      · rename_i b' hb; rw [hF.get d _ hb]; exact h
      · cases h
theorem OS.do (hw : wantS ops l o = some true) (h : OD E c pol ops o r i N l L K Q) : OS E c pol ops (o :: r) i N l L K Q :=
  fun pre tm st hF hp => h pre tm st hF hp (hF.want hw)
theorem OWc.skip {pre : Pre} {tm : TM} {st : St} {Q : TM → St → Prop} (hw : wantedA ops tm o = some false) (k : OWc E c pre pol ops r (i + 1) (putO tm o.dst (.tup [])) st Q) : OWc E c pre pol ops (o :: r) i tm st Q := by
  obtain ⟨n, tr, tm1, st1, h1, hs, h2⟩ := k
  refine ⟨n, ⟨tm, st, st, .tup [], false⟩ :: tr, tm1, st1, ?_, fun hc => ⟨(hs hc).1, ?_⟩, h2⟩
  · simp only [runOpsT]
    rw [hw]
    dsimp only
    rw [h1]
  · exact .cons ⟨rfl, rfl, fun k => by cases k⟩ (hs hc).2
theorem OS.skip {d : Nat} (hw : wantS ops l o = some false) (hd : o.dst = some d) (hn : Nat.blt d N = true) (h : OS E c pol ops r (i + 1) N ((d, .tup []) :: l) L K Q) : OS E c pol ops (o :: r) i N l L K Q := by
  intro pre tm st hF hp
  refine .skip (hF.want hw) ?_
  rw [hd]
  exact h pre _ st (hF.put hn _) hp
theorem OS.split {j d : Nat} {want b : Bool} (hg : o.guard = some (j, want)) (hd : (ops.toList[j]?).bind (·.dst) = some d) (hb : lk l d = some (.bool b))
    (h1 : b = true → OS E c pol ops (o :: r) i N ((d, .bool true) :: l) L K Q) (h2 : b = false → OS E c pol ops (o :: r) i N ((d, .bool false) :: l) L K Q) : OS E c pol ops (o :: r) i N l L K Q := by
  intro pre tm st hF hp
  have hF' : ∀ v, v = AV.bool b → Fa N ((d, v) :: l) L K tm st := fun v hv => hF.sub (fun i u hu => by
    simp only [lk] at hu
    cases hb' : Nat.beq d i with
    | true =>
      rw [hb'] at hu
      simp only [cond_true, Option.some.injEq] at hu
      have := Nat.eq_of_beq_eq_true hb'
      subst this; rw [hb, ← hu, hv]
    | false => rw [hb'] at hu; exact hu) (.refl _) (.refl _)
  cases b with
  | true => exact h1 rfl pre tm st (hF' _ rfl) hp
  | false => exact h2 rfl pre tm st (hF' _ rfl) hp

theorem OD.quiet {d : Nat} {v : AV} (hd : o.dst = some d) (hn : Nat.blt d N = true) (hl : isLoud o.op = false) (hq : ∀ tm st, Fa N l L K tm st → quiet E tm st o = some v) (k : OS E c pol ops r (i + 1) N ((d, v) :: l) L K Q) : OD E c pol ops o r i N l L K Q := by
  intro pre tm st hF hp hw
  obtain ⟨n, tr, tm1, st1, h1, hs, h2⟩ := k pre (tm.put d v) st (hF.put hn v) hp
  refine ⟨n, ⟨tm, st, st, v, true⟩ :: tr, tm1, st1, ?_, fun hc => ⟨(hs hc).1, ?_⟩, h2⟩
  · simp only [runOpsT]
    rw [hw]
    dsimp only
    rw [stepPre_quiet hl (hq tm st hF), hd]
    dsimp only [putO]
    rw [h1]
  · exact .cons ⟨rfl, rfl, fun _ _ => hq tm st hF⟩ (hs hc).2
end
end Go.Abs

namespace Go.Abs

def evPs (l : List (Nat × AV)) : List (Nat × Operand) → Option (List (Nat × AV))
  | [] => some []
  | (i, x) :: r => match evL l x, evPs l r with
    | some v, some vs => some ((i, v) :: vs)
    | _, _ => none
def fieldAddrA (E : Env) (s : TypeId) (a : AV) (f : Nat) : Option AV :=
  match E.ty s with
  | some sty =>
    match sty.fs[f]? with
    | some (ft, off) =>
      match E.ty ft with
      | some fty => if fty.size = 0 then none else movedA a off
      | none => none
    | none => none
  | none => none
def fieldA (E : Env) (t : TypeId) (a : AV) (f : Nat) : Option AV :=
  match E.ty t with
  | some sty =>
    match sty.fs[f]?, a with
    | some (ft, off), .agg cs => partA E ft cs off
    | _, _ => none
  | none => none
def indexAddrA (E : Env) (t : TypeId) (a iv : AV) : Option AV :=
  match E.ty t, iv with
  | some ty, .int _ i =>
    match ty.d with
    | .slice e =>
      match E.ty e with
      | some et => elemAddrA et.size a i
      | none => none
    | .array n e =>
      match E.ty e with
      | some et => if 0 ≤ i ∧ i < n then movedA a (i.toNat * et.size) else none
      | none => none
    | _ => none
  | _, _ => none
def indexA (E : Env) (t : TypeId) (a iv : AV) : Option AV :=
  match E.ty t, iv with
  | some ty, .int _ i =>
    match ty.d, a with
    | .array n e, .agg cs =>
      match E.ty e with
      | some et => if 0 ≤ i ∧ i < n then partA E e cs (i.toNat * et.size) else none
      | none => none
    | .string, .str s =>
      if 0 ≤ i then
        match s[i.toNat]? with
        | some b => some (.int .u8 b.toNat)
        | none => none
      else none
    | _, _ => none
  | _, _ => none
def convertA (E : Env) (src dst : TypeId) (a : AV) : Option AV :=
  match E.ty src, E.ty dst with
  | some _, some ty =>
    match ty.d, a with
    | .int k, .int _ n => some (.int k (k.wrap n))
    | .string, .str s => some (.str s)
    | .slice e, .str s =>
      match E.ty e with
      | some et => if et.d = .int .u8 then some (.vs 1 .any (bytesA s)) else none
      | none => none
    | _, _ => none
  | _, _ => none
def buildSliceA (E : Env) (t : TypeId) (len : Nat) (ps : List (Nat × AV)) : Option AV :=
  match E.ty t with
  | some ty =>
    match ty.d with
    | .slice e =>
      match E.ty e with
      | some et => if 0 < et.size ∧ len * et.size ≤ 2 ^ 24 then (litA et 0 len ps).map (.vs et.size .full ·) else none
      | none => none
    | _ => none
  | none => none
def lenTy (E : Env) (st : St) (t : TypeId) (a : AV) : Option AV :=
  match E.ty t with
  | some ty => (lenT st ty.d a).map fun (n : Nat) => AV.int .i64 (n : Int)
  | none => none
def lookTy (E : Env) (st : St) (t : TypeId) (ok : Bool) (m k : AV) : Option AV :=
  match E.ty t with
  | some ty =>
    match ty.d with
    | .map kt et =>
      match E.ty kt, E.ty et with
      | some kty, some ety => lookA E st kty kt et ety.zeroV ok m k
      | _, _ => none
    | _ => none
  | none => none

section
variable {E : Env} {fid N : Nat} {l : List (Nat × AV)} {L : List (Nat × AObj)} {K : List (Nat × Bool)} {Q : AExit → TM → St → Prop}
variable {c : Bool} {pol : Nat → Nat} {ops : Array Oper} {r : List Oper} {i : Nat}
variable {d : Nat} {ty : TypeId} {pos : String} {after : Array Edge} {guard : Option (Nat × Bool)}

theorem Fa.evps {tm : TM} {st : St} (h : Fa N l L K tm st) : ∀ {xs : List (Nat × Operand)} {vs : List (Nat × AV)}, evPs l xs = some vs → (xs.map fun (p : Nat × Operand) => (p.1, evalO tm p.2)) = vs
  | [], vs, hx => by simpa [evPs] using hx
  | (j, x) :: xs, vs, hx => by
    simp only [evPs] at hx
    split at hx
    · rename_i v ws h1 h2
      cases hx
      rw [List.map_cons, h.ev h1, h.evps h2]
    · cases hx
theorem OD.move {x : Operand} {v : AV} (hn : Nat.blt d N = true) (hx : evL l x = some v) (k : OS E c pol ops r (i + 1) N ((d, v) :: l) L K Q) :
    OD E c pol ops { dst := some d, op := .move x, type := ty, pos := pos, after := after, guard := guard } r i N l L K Q :=
  .quiet rfl hn rfl (fun tm st hF => by show some (evalO tm x) = some v; rw [hF.ev hx]) k
theorem OD.assign {x : Operand} {v : AV} (hn : Nat.blt d N = true) (hx : evL l x = some v) (k : OS E c pol ops r (i + 1) N ((d, v) :: l) L K Q) :
    OD E c pol ops { dst := some d, op := .assign x, type := ty, pos := pos, after := after, guard := guard } r i N l L K Q :=
  .quiet rfl hn rfl (fun tm st hF => by show some (evalO tm x) = some v; rw [hF.ev hx]) k
theorem OD.pickT {x y z : Operand} {v : AV} (hn : Nat.blt d N = true) (hx : evL l x = some (.bool true)) (hy : evL l y = some v) (k : OS E c pol ops r (i + 1) N ((d, v) :: l) L K Q) :
    OD E c pol ops { dst := some d, op := .pick x y z, type := ty, pos := pos, after := after, guard := guard } r i N l L K Q :=
  .quiet rfl hn rfl (fun tm st hF => by
    have : Abs.quiet E tm st { dst := some d, op := .pick x y z, type := ty, pos := pos, after := after, guard := guard } = (match evalO tm x with | .bool t => some (if t then evalO tm y else evalO tm z) | _ => none) := rfl
    rw [this, hF.ev hx, hF.ev hy]; rfl) k
theorem OD.pickF {x y z : Operand} {v : AV} (hn : Nat.blt d N = true) (hx : evL l x = some (.bool false)) (hz : evL l z = some v) (k : OS E c pol ops r (i + 1) N ((d, v) :: l) L K Q) :
    OD E c pol ops { dst := some d, op := .pick x y z, type := ty, pos := pos, after := after, guard := guard } r i N l L K Q :=
  .quiet rfl hn rfl (fun tm st hF => by
    have : Abs.quiet E tm st { dst := some d, op := .pick x y z, type := ty, pos := pos, after := after, guard := guard } = (match evalO tm x with | .bool t => some (if t then evalO tm y else evalO tm z) | _ => none) := rfl
    rw [this, hF.ev hx, hF.ev hz]; rfl) k
theorem OD.load {t : TypeId} {x : Operand} {cs : List AV} {v : AV} (hn : Nat.blt d N = true) (hx : evL l x = some (.ip cs)) (hp : partA E t cs 0 = some v) (k : OS E c pol ops r (i + 1) N ((d, v) :: l) L K Q) :
    OD E c pol ops { dst := some d, op := .load t x, type := ty, pos := pos, after := after, guard := guard } r i N l L K Q :=
  .quiet rfl hn rfl (fun tm st hF => by
    have : Abs.quiet E tm st { dst := some d, op := .load t x, type := ty, pos := pos, after := after, guard := guard } = (match loadCells st (evalO tm x) with | none => none | some cs => partA E t cs 0) := rfl
    rw [this, hF.ev hx]; exact hp) k
theorem OD.loadP (kk : Nat) {t : TypeId} {x : Operand} {b j off sz : Nat} {xs : List AV} {e v : AV} (hn : Nat.blt d N = true) (hx : evL l x = some (.ptr b j off)) (hL : L[kk]? = some (b, .row sz xs)) (he : xs[j]? = some e) (ho : Nat.ble off e.cells.length = true)
    (hp : partA E t (e.cells.drop off) 0 = some v) (k : OS E c pol ops r (i + 1) N ((d, v) :: l) L K Q) :
    OD E c pol ops { dst := some d, op := .load t x, type := ty, pos := pos, after := after, guard := guard } r i N l L K Q :=
  .quiet rfl hn rfl (fun tm st hF => by
    have : Abs.quiet E tm st { dst := some d, op := .load t x, type := ty, pos := pos, after := after, guard := guard } = (match loadCells st (evalO tm x) with | none => none | some cs => partA E t cs 0) := rfl
    rw [this, hF.ev hx]
    simp only [loadCells, (hF.obj kk b _ hL).1, he]
    rw [if_pos (Nat.le_of_ble_eq_true ho)]
    exact hp) k
theorem OD.nilCheckP {x : Operand} {b j off : Nat} (hn : Nat.blt d N = true) (hx : evL l x = some (.ptr b j off)) (k : OS E c pol ops r (i + 1) N ((d, .ptr b j off) :: l) L K Q) :
    OD E c pol ops { dst := some d, op := .nilCheck x, type := ty, pos := pos, after := after, guard := guard } r i N l L K Q :=
  .quiet rfl hn rfl (fun tm st hF => by
    have : Abs.quiet E tm st { dst := some d, op := .nilCheck x, type := ty, pos := pos, after := after, guard := guard } = (match evalO tm x with | .ptr b i off => some (.ptr b i off) | .ip cs => some (.ip cs) | .gptr g => some (.gptr g) | .fn f [] cap => some (.fn f [] cap) | _ => none) := rfl
    rw [this, hF.ev hx]) k
theorem OD.bin {op : BinOp} {t t2 : TypeId} {x y : Operand} {a b v : AV} (hn : Nat.blt d N = true) (hx : evL l x = some a) (hy : evL l y = some b) (h : binA E op t x y a b = some v) (k : OS E c pol ops r (i + 1) N ((d, v) :: l) L K Q) :
    OD E c pol ops { dst := some d, op := .binOp op t x y t2, type := ty, pos := pos, after := after, guard := guard } r i N l L K Q :=
  .quiet rfl hn rfl (fun tm st hF => by
    show binA E op t x y (evalO tm x) (evalO tm y) = some v
    rw [hF.ev hx, hF.ev hy]; exact h) k
theorem OD.un {op : UnOp} {t : TypeId} {x : Operand} {a v : AV} (hn : Nat.blt d N = true) (hx : evL l x = some a) (h : unA op a = some v) (k : OS E c pol ops r (i + 1) N ((d, v) :: l) L K Q) :
    OD E c pol ops { dst := some d, op := .unOp op t x, type := ty, pos := pos, after := after, guard := guard } r i N l L K Q :=
  .quiet rfl hn rfl (fun tm st hF => by
    show unA op (evalO tm x) = some v
    rw [hF.ev hx]; exact h) k
theorem OD.convert {s t : TypeId} {x : Operand} {a v : AV} (hn : Nat.blt d N = true) (hx : evL l x = some a) (h : convertA E s t a = some v) (k : OS E c pol ops r (i + 1) N ((d, v) :: l) L K Q) :
    OD E c pol ops { dst := some d, op := .convert s t x, type := ty, pos := pos, after := after, guard := guard } r i N l L K Q :=
  .quiet rfl hn rfl (fun tm st hF => by
    show convertA E s t (evalO tm x) = some v
    rw [hF.ev hx]; exact h) k
theorem OD.makeFunc {f : FuncId} {first cap : Array Operand} {a b : List AV} (hn : Nat.blt d N = true) (hx : evLs l first.toList = some a) (hy : evLs l cap.toList = some b) (k : OS E c pol ops r (i + 1) N ((d, .fn f a b) :: l) L K Q) :
    OD E c pol ops { dst := some d, op := .makeFunc (.func f) first cap, type := ty, pos := pos, after := after, guard := guard } r i N l L K Q :=
  .quiet rfl hn rfl (fun tm st hF => by
    show some (AV.fn f (first.toList.map (evalO tm)) (cap.toList.map (evalO tm))) = _
    rw [hF.evs hx, hF.evs hy]) k
theorem OD.fieldAddr {s : TypeId} {x : Operand} {f : Nat} {a v : AV} (hn : Nat.blt d N = true) (hx : evL l x = some a) (h : fieldAddrA E s a f = some v) (k : OS E c pol ops r (i + 1) N ((d, v) :: l) L K Q) :
    OD E c pol ops { dst := some d, op := .fieldAddr s x f, type := ty, pos := pos, after := after, guard := guard } r i N l L K Q :=
  .quiet rfl hn rfl (fun tm st hF => by
    show fieldAddrA E s (evalO tm x) f = some v
    rw [hF.ev hx]; exact h) k
theorem OD.field {s : TypeId} {x : Operand} {f : Nat} {a v : AV} (hn : Nat.blt d N = true) (hx : evL l x = some a) (h : fieldA E s a f = some v) (k : OS E c pol ops r (i + 1) N ((d, v) :: l) L K Q) :
    OD E c pol ops { dst := some d, op := .field s x f, type := ty, pos := pos, after := after, guard := guard } r i N l L K Q :=
  .quiet rfl hn rfl (fun tm st hF => by
    show fieldA E s (evalO tm x) f = some v
    rw [hF.ev hx]; exact h) k
theorem OD.indexAddr {t : TypeId} {x y : Operand} {a b v : AV} (hn : Nat.blt d N = true) (hx : evL l x = some a) (hy : evL l y = some b) (h : indexAddrA E t a b = some v) (k : OS E c pol ops r (i + 1) N ((d, v) :: l) L K Q) :
    OD E c pol ops { dst := some d, op := .indexAddr t x y, type := ty, pos := pos, after := after, guard := guard } r i N l L K Q :=
  .quiet rfl hn rfl (fun tm st hF => by
    show indexAddrA E t (evalO tm x) (evalO tm y) = some v
    rw [hF.ev hx, hF.ev hy]; exact h) k
theorem OD.index {t : TypeId} {x y : Operand} {a b v : AV} (hn : Nat.blt d N = true) (hx : evL l x = some a) (hy : evL l y = some b) (h : indexA E t a b = some v) (k : OS E c pol ops r (i + 1) N ((d, v) :: l) L K Q) :
    OD E c pol ops { dst := some d, op := .index t x y, type := ty, pos := pos, after := after, guard := guard } r i N l L K Q :=
  .quiet rfl hn rfl (fun tm st hF => by
    show indexA E t (evalO tm x) (evalO tm y) = some v
    rw [hF.ev hx, hF.ev hy]; exact h) k
theorem OD.extract {x : Operand} {j : Nat} {xs : List AV} {v : AV} (hn : Nat.blt d N = true) (hx : evL l x = some (.tup xs)) (h : xs[j]? = some v) (k : OS E c pol ops r (i + 1) N ((d, v) :: l) L K Q) :
    OD E c pol ops { dst := some d, op := .extract x j, type := ty, pos := pos, after := after, guard := guard } r i N l L K Q :=
  .quiet rfl hn rfl (fun tm st hF => by
    have : Abs.quiet E tm st { dst := some d, op := .extract x j, type := ty, pos := pos, after := after, guard := guard } = (match evalO tm x with | .tup xs => xs[j]? | _ => none) := rfl
    rw [this, hF.ev hx]; exact h) k
theorem OD.build {t : TypeId} {ps : Array (Nat × Operand)} {vs : List (Nat × AV)} {v : AV} (hn : Nat.blt d N = true) (hx : evPs l ps.toList = some vs) (h : buildA E t vs = some v) (k : OS E c pol ops r (i + 1) N ((d, v) :: l) L K Q) :
    OD E c pol ops { dst := some d, op := .build t ps, type := ty, pos := pos, after := after, guard := guard } r i N l L K Q :=
  .quiet rfl hn rfl (fun tm st hF => by
    show buildA E t (ps.toList.map fun (p : Nat × Operand) => (p.1, evalO tm p.2)) = some v
    rw [hF.evps hx]; exact h) k
theorem OD.buildSlice {t : TypeId} {n : Nat} {ps : Array (Nat × Operand)} {vs : List (Nat × AV)} {v : AV} (hn : Nat.blt d N = true) (hx : evPs l ps.toList = some vs) (h : buildSliceA E t n vs = some v) (k : OS E c pol ops r (i + 1) N ((d, v) :: l) L K Q) :
    OD E c pol ops { dst := some d, op := .buildSlice t n ps, type := ty, pos := pos, after := after, guard := guard } r i N l L K Q :=
  .quiet rfl hn rfl (fun tm st hF => by
    show buildSliceA E t n (ps.toList.map fun (p : Nat × Operand) => (p.1, evalO tm p.2)) = some v
    rw [hF.evps hx]; exact h) k
theorem OD.len {x : Operand} {t : TypeId} {a v : AV} (hn : Nat.blt d N = true) (hx : evL l x = some a) (h : ∀ st, lenTy E st t a = some v) (k : OS E c pol ops r (i + 1) N ((d, v) :: l) L K Q) :
    OD E c pol ops { dst := some d, op := .call { callee := .builtin .len, args := #[x], argTypes := #[t] }, type := ty, pos := pos, after := after, guard := guard } r i N l L K Q :=
  .quiet rfl hn rfl (fun tm st hF => by
    show lenTy E st t (evalO tm x) = some v
    rw [hF.ev hx]; exact h st) k
theorem OD.max {x y : Operand} {ts : Array TypeId} {kd : IntKind} {a b : Int} (hn : Nat.blt d N = true) (hx : evL l x = some (.int kd a)) (hy : evL l y = some (.int kd b)) (k : OS E c pol ops r (i + 1) N ((d, .int kd (if b > a then b else a)) :: l) L K Q) :
    OD E c pol ops { dst := some d, op := .call { callee := .builtin .max, args := #[x, y], argTypes := ts }, type := ty, pos := pos, after := after, guard := guard } r i N l L K Q :=
  .quiet rfl hn rfl (fun tm st hF => by
    have : Abs.quiet E tm st { dst := some d, op := .call { callee := .builtin .max, args := #[x, y], argTypes := ts }, type := ty, pos := pos, after := after, guard := guard } = (match [evalO tm x, evalO tm y] with | [.int k x, .int l y] => if k = l then some (.int k (if y > x then y else x)) else none | _ => none) := rfl
    rw [this, hF.ev hx, hF.ev hy]; simp) k
theorem OD.min {x y : Operand} {ts : Array TypeId} {kd : IntKind} {a b : Int} (hn : Nat.blt d N = true) (hx : evL l x = some (.int kd a)) (hy : evL l y = some (.int kd b)) (k : OS E c pol ops r (i + 1) N ((d, .int kd (if b < a then b else a)) :: l) L K Q) :
    OD E c pol ops { dst := some d, op := .call { callee := .builtin .min, args := #[x, y], argTypes := ts }, type := ty, pos := pos, after := after, guard := guard } r i N l L K Q :=
  .quiet rfl hn rfl (fun tm st hF => by
    have : Abs.quiet E tm st { dst := some d, op := .call { callee := .builtin .min, args := #[x, y], argTypes := ts }, type := ty, pos := pos, after := after, guard := guard } = (match [evalO tm x, evalO tm y] with | [.int k x, .int l y] => if k = l then some (.int k (if y < x then y else x)) else none | _ => none) := rfl
    rw [this, hF.ev hx, hF.ev hy]; simp) k
theorem OD.lookup (kk : Nat) {t : TypeId} {x y : Operand} {ok : Bool} {b : Nat} {kt et : TypeId} {es : List (AV × AV)} {kv v : AV} (hn : Nat.blt d N = true) (hx : evL l x = some (.map b)) (hy : evL l y = some kv) (hL : L[kk]? = some (b, .map kt et es))
    (h : ∀ st : St, st.get b = some (.map kt et es) → lookTy E st t ok (.map b) kv = some v) (k : OS E c pol ops r (i + 1) N ((d, v) :: l) L K Q) :
    OD E c pol ops { dst := some d, op := .lookup t x y ok, type := ty, pos := pos, after := after, guard := guard } r i N l L K Q :=
  .quiet rfl hn rfl (fun tm st hF => by
    show lookTy E st t ok (evalO tm x) (evalO tm y) = some v
    rw [hF.ev hx, hF.ev hy]; exact h st (hF.obj kk b _ hL).1) k

theorem OD.loud {o : Oper} (hl : isLoud o.op = true) (hf : isFnCall o.op = false) (hal : ∀ t, o.op = .alloc t → hasAlloc ops = true)
    (hq : ∀ tm st, Fa N l L K tm st → ∃ v st' l' L' K', Abs.loud E noCall (pol i) tm st o = some (v, st') ∧ Fa N l' L' K' (putO tm o.dst v) st' ∧ OS E false pol ops r (i + 1) N l' L' K' Q) : OD E false pol ops o r i N l L K Q := by
  intro pre tm st hF hp hw
  obtain ⟨v, st', l', L', K', h1, h2, h3⟩ := hq tm st hF
  obtain ⟨n, tr, tm1, st1, h4, hs, h5⟩ := h3 pre _ st' h2 hp
  refine ⟨n, ⟨tm, st, st', v, true⟩ :: tr, tm1, st1, ?_, (fun hc => by cases hc), h5⟩
  have hs' : stepPre E (callF E n) pre (pol i) i tm st o = some (v, st') := stepPre_loud (fun b hb => ⟨(hp b hb).2, fun t ho => by
    have := (hp b hb).1
    rw [hal t ho] at this; cases this⟩) hl hf h1
  simp only [runOpsT]
  rw [hw]
  dsimp only
  rw [hs']
  dsimp only
  rw [h4]

theorem Fa.new {tm : TM} {st : St} (h : Fa N l L K tm st) (o : AObj) : Fa N l ((st.next, o) :: L) K tm (st.new o) := by
  refine ⟨h.n, h.get, fun k b o' hk => ?_, fun k k' b o1 o2 hk hk' => ?_, fun k t hk => ⟨(h.tok k t hk).1, by simp only [St.next_new]; have := (h.tok k t hk).2; omega⟩, h.uniqT⟩
  · cases k with
    | zero =>
      simp only [List.getElem?_cons_zero, Option.some.injEq, Prod.mk.injEq] at hk
      obtain ⟨rfl, rfl⟩ := hk
      exact ⟨by simp, by simp⟩
    | succ k =>
      simp only [List.getElem?_cons_succ] at hk
      have := h.obj k b o' hk
      refine ⟨?_, by simp only [St.next_new]; omega⟩
      rw [St.get_new, if_neg (by omega)]; exact this.1
  · cases k with
    | zero => cases k' with
      | zero => rfl
      | succ k' =>
        simp only [List.getElem?_cons_zero, List.getElem?_cons_succ, Option.some.injEq, Prod.mk.injEq] at hk hk'
        have := (h.obj k' b o2 hk').2
        omega
    | succ k => cases k' with
      | zero =>
        simp only [List.getElem?_cons_zero, List.getElem?_cons_succ, Option.some.injEq, Prod.mk.injEq] at hk hk'
        have := (h.obj k b o1 hk).2
        omega
      | succ k' =>
        simp only [List.getElem?_cons_succ] at hk hk'
        rw [h.uniq k k' b o1 o2 hk hk']
theorem Fa.tag {tm : TM} {st : St} (h : Fa N l L K tm st) (b : Nat) (t : TypeId) : Fa N l L K tm (st.tag b t) := ⟨h.n, h.get, h.obj, h.uniq, h.tok, h.uniqT⟩
theorem Fa.ttag {tm : TM} {st : St} (h : Fa N l L K tm st) (b : Nat) (t : TypeId) : Fa N l L K tm (st.ttag b t) := ⟨h.n, h.get, h.obj, h.uniq, h.tok, h.uniqT⟩
theorem Fa.set {tm : TM} {st : St} (h : Fa N l L K tm st) {k b : Nat} {o : AObj} (hk : L[k]? = some (b, o)) (o' : AObj) : Fa N l (L.set k (b, o')) K tm (st.put b o') := by
  refine ⟨h.n, h.get, fun k1 b1 o1 h1 => ?_, fun k1 k2 b1 o1 o2 h1 h2 => ?_, h.tok, h.uniqT⟩
  · rw [List.getElem?_set] at h1
    by_cases e : k = k1
    · subst e
      rw [if_pos rfl, if_pos (List.getElem?_eq_some_iff.1 hk).1] at h1
      simp only [Option.some.injEq, Prod.mk.injEq] at h1
      obtain ⟨rfl, rfl⟩ := h1
      exact ⟨by simp, (h.obj k b o hk).2⟩
    · rw [if_neg e] at h1
      have := h.obj k1 b1 o1 h1
      refine ⟨?_, this.2⟩
      rw [St.get_put, if_neg]
      · exact this.1
      · rintro rfl
        exact e (h.uniq k k1 b _ _ hk h1)
  · have hx : ∀ (j : Nat) (b1 : Nat) (o1 : AObj), (L.set k (b, o'))[j]? = some (b1, o1) → ∃ o2, L[j]? = some (b1, o2) := fun j b1 o1 hj => by
      rw [List.getElem?_set] at hj
      by_cases e : k = j
      · subst e
        rw [if_pos rfl, if_pos (List.getElem?_eq_some_iff.1 hk).1] at hj
        simp only [Option.some.injEq, Prod.mk.injEq] at hj
        obtain ⟨rfl, _⟩ := hj
        exact ⟨o, hk⟩
      · rw [if_neg e] at hj; exact ⟨o1, hj⟩
    obtain ⟨p1, h1⟩ := hx _ _ _ h1
    obtain ⟨p2, h2⟩ := hx _ _ _ h2
    exact h.uniq _ _ _ _ _ h1 h2

theorem OD.alloc {t : TypeId} {y : Ty} (hn : Nat.blt d N = true) (ht : E.ty t = some y) (hs : Nat.blt 0 y.size = true) (hal : hasAlloc ops = true) (k : ∀ b, OS E false pol ops r (i + 1) N ((d, .ptr b 0 0) :: l) ((b, .row y.size [y.zeroV]) :: L) K Q) :
    OD E false pol ops { dst := some d, op := .alloc t, type := ty, pos := pos, after := after, guard := guard } r i N l L K Q := by
  refine .loud rfl rfl (fun _ _ => hal) fun tm st hF => ⟨.ptr st.next 0 0, (st.new (.row y.size [y.zeroV])).tag st.next t, _, _, _, ?_, ((hF.new _).tag _ _).put hn _, k st.next⟩
  show allocA E st t = _
  unfold allocA
  rw [ht]
  dsimp only
  rw [if_pos (Eq.mp Nat.blt_eq hs)]
theorem OD.box {t : TypeId} {x : Operand} {y : Ty} {v : AV} (hn : Nat.blt d N = true) (hx : evL l x = some v) (ht : E.ty t = some y) (hs : Nat.blt 0 y.size = true) (hok : v.ok = true) (hc : v.cells.length = y.size) (k : ∀ b, OS E false pol ops r (i + 1) N ((d, .ptr b 0 0) :: l) ((b, .row y.size [v]) :: L) K Q) :
    OD E false pol ops { dst := some d, op := .box t x, type := ty, pos := pos, after := after, guard := guard } r i N l L K Q := by
  refine .loud rfl rfl (fun _ h => by cases h) fun tm st hF => ⟨.ptr st.next 0 0, st.new (.row y.size [v]), _, _, _, ?_, (hF.new _).put hn _, k st.next⟩
  show boxA E st t (evalO tm x) = _
  unfold boxA
  rw [ht, hF.ev hx]
  dsimp only
  rw [if_pos ⟨Eq.mp Nat.blt_eq hs, hok, hc⟩]
theorem OD.storeW (kk : Nat) {t : TypeId} {x z : Operand} {y : Ty} {b sz : Nat} {e v : AV} (hx : evL l x = some (.ptr b 0 0)) (hz : evL l z = some v) (ht : E.ty t = some y) (hL : L[kk]? = some (b, .row sz [e])) (hok : v.ok = true) (hc : v.cells.length = y.size) (he : e.cells.length = y.size)
    (hsame : (match e with | .agg _ => true | _ => false) = (match v with | .agg _ => true | _ => false)) (k : OS E false pol ops r (i + 1) N l (L.set kk (b, .row sz [v])) K Q) :
    OD E false pol ops { dst := none, op := .store t x z, type := ty, pos := pos, after := after, guard := guard } r i N l L K Q := by
  refine .loud rfl rfl (fun _ h => by cases h) fun tm st hF => ⟨.junk, st.put b (.row sz [v]), _, _, _, ?_, hF.set hL _, k⟩
  have : Abs.loud E noCall (pol i) tm st { dst := none, op := .store t x z, type := ty, pos := pos, after := after, guard := guard } = (match E.ty t with | some ty => if (evalO tm z).cells.length = ty.size then (storeA st (evalO tm x) (evalO tm z)).map fun s => (.junk, s) else none | none => none) := rfl
  rw [this, ht, hF.ev hx, hF.ev hz]
  dsimp only
  rw [if_pos hc]
  simp only [storeA, (hF.obj kk b _ hL).1, List.getElem?_cons_zero, hok, Bool.true_and, Nat.zero_add]
  rw [hc, he, if_pos (by simp)]
  cases e with
  | agg cs =>
    cases v with
    | agg ds =>
      simp only [AV.cells] at he hc
      simp [AV.cells, ← he]
    | _ => simp at hsame
  | _ =>
    cases v with
    | agg ds => simp at hsame
    | _ => simp
theorem OD.makeMap {t kt et : TypeId} {y : Ty} (hn : Nat.blt d N = true) (ht : E.ty t = some y) (hd : y.d = .map kt et) (k : ∀ b, OS E false pol ops r (i + 1) N ((d, .map b) :: l) ((b, .map kt et []) :: L) K Q) :
    OD E false pol ops { dst := some d, op := .makeMap t none, type := ty, pos := pos, after := after, guard := guard } r i N l L K Q := by
  refine .loud rfl rfl (fun _ h => by cases h) fun tm st hF => ⟨.map st.next, st.new (.map kt et []), _, _, _, ?_, (hF.new _).put hn _, k st.next⟩
  have : Abs.loud E noCall (pol i) tm st { dst := some d, op := .makeMap t none, type := ty, pos := pos, after := after, guard := guard } = (match E.ty t with | some ty => (match ty.d with | .map kt et => some (.map st.next, st.new (.map kt et [])) | _ => none) | none => none) := rfl
  rw [this, ht]
  dsimp only
  rw [hd]
theorem OD.mapUpdate (kk : Nat) {t kt et : TypeId} {x z u : Operand} {y ky : Ty} {b : Nat} {es es' : List (AV × AV)} {kv v : AV} (hx : evL l x = some (.map b)) (hz : evL l z = some kv) (hu : evL l u = some v) (ht : E.ty t = some y) (hd : y.d = .map kt et) (hk : E.ty kt = some ky) (hL : L[kk]? = some (b, .map kt et es))
    (h : ∀ st : St, st.get b = some (.map kt et es) → mapPutA E st ky kt et b kv v = some (st.put b (.map kt et es'))) (k : OS E false pol ops r (i + 1) N l (L.set kk (b, .map kt et es')) K Q) :
    OD E false pol ops { dst := none, op := .mapUpdate t x z u, type := ty, pos := pos, after := after, guard := guard } r i N l L K Q := by
  refine .loud rfl rfl (fun _ h => by cases h) fun tm st hF => ⟨.junk, st.put b (.map kt et es'), _, _, _, ?_, hF.set hL _, k⟩
  show mapOpA E st t (evalO tm x) (evalO tm z) (evalO tm u) = _
  unfold mapOpA
  rw [ht, hF.ev hx, hF.ev hz, hF.ev hu]
  dsimp only
  rw [hd]
  dsimp only
  rw [hk]
  dsimp only
  rw [h st (hF.obj kk b _ hL).1]
  rfl

def accA (t sz : Nat) (xs : List AV) : AV := match xs with | [] => .nilsl | _ :: _ => .vs sz (.tok t) xs
theorem Fa.tokDrop {tm : TM} {st : St} (h : Fa N l L K tm st) {kk t : Nat} (hk : K[kk]? = some (t, true)) : Fa N l L (K.set kk (st.next, true)) tm (st.dropTok t).newTok := by
  refine ⟨h.n, h.get, fun k b o hk => ⟨(h.obj k b o hk).1, by have := (h.obj k b o hk).2; simp only [St.next_newTok, St.next_dropTok]; omega⟩, h.uniq, fun k u hu => ?_, fun k k' u hu hu' => ?_⟩
  · rw [List.getElem?_set] at hu
    by_cases e : kk = k
    · subst e
      rw [if_pos rfl, if_pos (List.getElem?_eq_some_iff.1 hk).1] at hu
      simp only [Option.some.injEq, Prod.mk.injEq, and_true] at hu
      subst hu
      exact ⟨by simp, by simp⟩
    · rw [if_neg e] at hu
      have := h.tok k u hu
      refine ⟨?_, by simp only [St.next_newTok, St.next_dropTok]; omega⟩
      have hne : t ≠ u := by rintro rfl; exact e (h.uniqT _ _ _ hk hu)
      simp [hne, this.1]
  · have hlt : ∀ (k u : Nat), K[k]? = some (u, true) → u ≠ st.next := fun k u hu e => by have := (h.tok k u hu).2; omega
    rw [List.getElem?_set] at hu hu'
    have hl := (List.getElem?_eq_some_iff.1 hk).1
    by_cases e : kk = k
    · by_cases e' : kk = k'
      · omega
      · rw [if_pos e, if_pos hl] at hu
        rw [if_neg e'] at hu'
        simp only [Option.some.injEq, Prod.mk.injEq, and_true] at hu
        exact absurd hu.symm (hlt k' u hu')
    · by_cases e' : kk = k'
      · rw [if_neg e] at hu
        rw [if_pos e', if_pos hl] at hu'
        simp only [Option.some.injEq, Prod.mk.injEq, and_true] at hu'
        exact absurd hu'.symm (hlt k u hu)
      · rw [if_neg e] at hu
        rw [if_neg e'] at hu'
        exact h.uniqT _ _ _ hu hu'
theorem Fa.tokNew {tm : TM} {st : St} (h : Fa N l L K tm st) {kk t : Nat} (hk : K[kk]? = some (t, false)) : Fa N l L (K.set kk (st.next, true)) tm st.newTok := by
  refine ⟨h.n, h.get, fun k b o hk => ⟨(h.obj k b o hk).1, by have := (h.obj k b o hk).2; simp only [St.next_newTok]; omega⟩, h.uniq, fun k u hu => ?_, fun k k' u hu hu' => ?_⟩
  · rw [List.getElem?_set] at hu
    by_cases e : kk = k
    · subst e
      rw [if_pos rfl, if_pos (List.getElem?_eq_some_iff.1 hk).1] at hu
      simp only [Option.some.injEq, Prod.mk.injEq, and_true] at hu
      subst hu
      exact ⟨by simp, by simp⟩
    · rw [if_neg e] at hu
      have := h.tok k u hu
      exact ⟨by simp [this.1], by simp only [St.next_newTok]; omega⟩
  · have hlt : ∀ (k u : Nat), K[k]? = some (u, true) → u ≠ st.next := fun k u hu e => by have := (h.tok k u hu).2; omega
    rw [List.getElem?_set] at hu hu'
    have hl := (List.getElem?_eq_some_iff.1 hk).1
    by_cases e : kk = k
    · by_cases e' : kk = k'
      · omega
      · rw [if_pos e, if_pos hl] at hu
        rw [if_neg e'] at hu'
        simp only [Option.some.injEq, Prod.mk.injEq, and_true] at hu
        exact absurd hu.symm (hlt k' u hu')
    · by_cases e' : kk = k'
      · rw [if_neg e] at hu
        rw [if_pos e', if_pos hl] at hu'
        simp only [Option.some.injEq, Prod.mk.injEq, and_true] at hu'
        exact absurd hu'.symm (hlt k u hu)
      · rw [if_neg e] at hu
        rw [if_neg e'] at hu'
        exact h.uniqT _ _ _ hu hu'
theorem OD.append (kk : Nat) {ts tx e : TypeId} {s x : Operand} {t sz sz' : Nat} {xs ys : List AV} {a : AV} {tys tyx et : Ty} (hn : Nat.blt d N = true) (hpol : Nat.beq (pol i) 1 = false) (hs : evL l s = some (accA t sz xs)) (hx : evL l x = some a) (hK : K[kk]? = some (t, !xs.isEmpty))
    (h1 : E.ty ts = some tys) (h2 : E.ty tx = some tyx) (h3 : tys.d = .slice e) (h4 : E.ty e = some et) (h5 : Nat.blt 0 et.size = true) (h6 : sz = et.size) (h7 : (tyx.d = .string ∧ isStrA a = true) ∨ ((∃ e', tyx.d = .slice e') ∧ isStrA a = false)) (h8 : ∀ st, elemsA st a = some (sz', ys)) (h9 : okElems et ys = true) (h10 : ys.isEmpty || Nat.beq sz' et.size)
    (hroom : roomA et (xs.length + ys.length) = true) (k : ∀ t', OS E false pol ops r (i + 1) N ((d, accA t' sz (xs ++ ys)) :: l) L (K.set kk (t', !(xs ++ ys).isEmpty)) Q) :
    OD E false pol ops { dst := some d, op := .call { callee := .builtin .append, args := #[s, x], argTypes := #[ts, tx] }, type := ty, pos := pos, after := after, guard := guard } r i N l L K Q := by
  subst h6
  have key : ∀ st : St, appendOpA E false st ts tx (accA t et.size xs) a = appendA false e et st (accA t et.size xs) ys := fun st => by
    unfold appendOpA
    rw [h1, h2]
    dsimp only
    rw [h3]
    dsimp only
    rw [h4]
    dsimp only
    rw [if_pos (Eq.mp Nat.blt_eq h5)]
    have h10' : (ys.isEmpty || sz' == et.size) = true := by
      cases hy : ys.isEmpty with
      | true => rfl
      | false =>
        rw [hy] at h10
        simp only [Bool.false_or] at h10
        simp [Nat.eq_of_beq_eq_true h10]
    rcases h7 with ⟨h7, h7'⟩ | ⟨⟨e', h7⟩, h7'⟩
    · rw [h7]; dsimp only; rw [h8 st]; dsimp only; rw [if_pos ⟨h9, h10', by simp [h7']⟩]
    · rw [h7]; dsimp only; rw [h8 st]; dsimp only; rw [if_pos ⟨h9, h10', by simp [h7']⟩]
  refine .loud rfl rfl (fun _ h => by cases h) fun tm st hF => ?_
  have h0 : Abs.loud E noCall (pol i) tm st { dst := some d, op := .call { callee := .builtin .append, args := #[s, x], argTypes := #[ts, tx] }, type := ty, pos := pos, after := after, guard := guard } = appendOpA E (pol i == 1) st ts tx (evalO tm s) (evalO tm x) := rfl
  have hp : (pol i == 1) = false := by
    have := Nat.ne_of_beq_eq_false hpol
    simpa using this
  rw [h0, hF.ev hs, hF.ev hx, hp, key st]
  cases xs with
  | nil =>
    cases ys with
    | nil =>
      refine ⟨.nilsl, st, _, L, _, rfl, ?_, k t⟩
      have : K.set kk (t, !([] ++ [] : List AV).isEmpty) = K := by
        have hx : (!([] ++ [] : List AV).isEmpty) = (!([] : List AV).isEmpty) := rfl
        rw [hx]
        apply List.ext_getElem?
        intro j
        rw [List.getElem?_set]
        by_cases e : kk = j
        · subst e; rw [if_pos rfl, if_pos (List.getElem?_eq_some_iff.1 hK).1, hK]
        · rw [if_neg e]
      rw [this]
      exact hF.put hn _
    | cons y ys =>
      refine ⟨.vs et.size (.tok st.next) (y :: ys), st.newTok.ttag st.next e, _, L, _, ?_, ?_, k st.next⟩
      · simp only [accA, appendA]
        rw [if_pos (by simpa using hroom)]
        rfl
      · exact ((hF.tokNew (by simpa using hK)).ttag _ _).put hn _
  | cons x0 xs =>
    have hK' : K[kk]? = some (t, true) := by simpa using hK
    refine ⟨.vs et.size (.tok st.next) (x0 :: xs ++ ys), tokOnA st t e, _, L, _, ?_, ?_, k st.next⟩
    · simp only [accA, appendA]
      rw [if_pos ⟨trivial, (hF.tok kk t hK').1, hroom⟩]
    · have hF' : Fa N l L (K.set kk (st.next, true)) tm (tokOnA st t e) := by
        unfold tokOnA
        split
        · split
          · exact (hF.tokDrop hK').ttag _ _
          · exact hF.tokDrop hK'
        · exact hF.tokDrop hK'
      exact hF'.put hn _

theorem OD.call {f : Operand} {args : Array Operand} {argTypes : Array TypeId} {g : FuncId} {first cap vs : List AV} {p : List AV → St → Option (AV × St)} {v : AV} (hn : Nat.blt d N = true) (hf : evL l f = some (.fn g first cap)) (ha : evLs l args.toList = some vs) (hp : E.prim g = some p) (hr : ∀ st, p (first ++ vs ++ cap) st = some (v, st)) (hz : ∀ st, freezeA st v = some (v, st))
    (k : OS E c pol ops r (i + 1) N ((d, v) :: l) L K Q) : OD E c pol ops { dst := some d, op := .call { callee := .value f, args := args, argTypes := argTypes }, type := ty, pos := pos, after := after, guard := guard } r i N l L K Q := by
  intro pre tm st hF hp' hw
  obtain ⟨n, tr, tm1, st1, h1, hs, h2⟩ := k pre (tm.put d v) st (hF.put hn v) hp'
  refine ⟨n + 1, ⟨tm, st, st, v, true⟩ :: tr, tm1, st1, ?_, fun hc => ⟨(hs hc).1, ?_⟩, h2⟩
  · have hl : Abs.loud E (callF E (n + 1)) (pol i) tm st { dst := some d, op := .call { callee := .value f, args := args, argTypes := argTypes }, type := ty, pos := pos, after := after, guard := guard } = some (v, st) := by
      have : Abs.loud E (callF E (n + 1)) (pol i) tm st { dst := some d, op := .call { callee := .value f, args := args, argTypes := argTypes }, type := ty, pos := pos, after := after, guard := guard } = (match evalO tm f with | .fn g first cap => callF E (n + 1) g (first ++ args.toList.map (evalO tm) ++ cap) st | _ => none) := rfl
      rw [this, hF.ev hf, hF.evs ha]
      simp only [callF, hp]
      exact hr st
    have hst : stepPre E (callF E (n + 1)) pre (pol i) i tm st { dst := some d, op := .call { callee := .value f, args := args, argTypes := argTypes }, type := ty, pos := pos, after := after, guard := guard } = some (v, st) := by
      simp only [stepPre, stepOp, isLoud, if_true, hl, isFnCall, Bool.and_true, decide_eq_true_eq]
      split
      · exact hz st
      · rfl
    simp only [runOpsT]
    rw [hw]
    dsimp only
    rw [hst]
    dsimp only [putO]
    rw [runOpsT_mono (callF_mono n (n + 1) (by omega)) _ _ _ _ h1]
  · exact .cons ⟨rfl, rfl, fun _ h => by simp [isLoud] at h⟩ (hs hc).2
end
end Go.Abs

namespace Go.Abs
open Go.RowKit
def Ghost.all (w : World) : Ghost := ⟨fun b o => w.cell? ⟨b, o, none⟩, fun _ => none, fun _ => none, fun _ => none, fun _ => none, fun b o => w.cell? ⟨b, o, none⟩⟩
theorem Inv.all (w : World) : Inv w.heap.size w (Ghost.all w) St.empty w := by
  refine ⟨Below.refl _ w, Nat.le_refl _, fun _ _ _ h => h, fun _ _ => ⟨rfl, rfl, rfl, rfl, rfl⟩, fun _ _ _ _ _ _ _ h => (by cases h), fun _ _ _ _ _ h => (by cases h), fun _ _ _ _ h => (by cases h), ?_, ?_, fun _ h => (by cases h), fun _ _ h => (by cases h), fun _ _ h => (by cases h), fun _ _ h => (by cases h), fun _ _ _ _ h => h⟩
  · rintro i j blk (⟨_, _, _, _, _, h, _⟩ | ⟨_, _, _, h, _⟩ | ⟨h, _⟩) <;> cases h
  · rintro i blk (⟨_, _, _, _, _, h, _⟩ | ⟨_, _, _, h, _⟩ | ⟨h, _⟩) <;> cases h
mutual
def AV.scal : AV → Bool
  | .bool _ | .int _ _ | .str _ | .nilptr | .nilsl | .nilmap | .nilfn | .nilif => true
  | .tup xs => AV.scalL xs
  | .agg xs => AV.scalL xs
  | _ => false
def AV.scalL : List AV → Bool
  | [] => true
  | x :: xs => AV.scal x && AV.scalL xs
end
mutual
theorem R.scal {Γ Δ : Ghost} : ∀ (x : AV) (v : Value), AV.scal x = true → R Γ x v → R Δ x v
  | .bool _, _, _, k | .int _ _, _, _, k | .str _, _, _, k | .nilptr, _, _, k | .nilsl, _, _, k | .nilmap, _, _, k | .nilfn, _, _, k | .nilif, _, _, k => by simpa only [R] using k
  | .tup xs, v, h, k => by
    simp only [AV.scal] at h
    simp only [R] at k ⊢
    obtain ⟨vs, k1, k2⟩ := k
    exact ⟨vs, k1, RL.scal xs _ h k2⟩
  | .agg xs, v, h, k => by
    simp only [AV.scal] at h
    simp only [R] at k ⊢
    obtain ⟨vs, k1, k2⟩ := k
    exact ⟨vs, k1, RL.scal xs _ h k2⟩
  | .ptr _ _ _, _, h, _ | .ip _, _, h, _ | .gptr _, _, h, _ | .es, _, h, _ | .vs _ _ _, _, h, _ | .sl _ _ _ _, _, h, _ | .map _, _, h, _ | .fn _ _ _, _, h, _ | .iface _ _, _, h, _ | .junk, _, h, _ => by simp [AV.scal] at h
theorem RL.scal {Γ Δ : Ghost} : ∀ (xs : List AV) (vs : List Value), AV.scalL xs = true → RL Γ xs vs → RL Δ xs vs
  | [], _, _, k => by simpa only [RL] using k
  | x :: xs, _, h, k => by
    simp only [AV.scalL, Bool.and_eq_true] at h
    simp only [RL] at k ⊢
    obtain ⟨v, r, k1, k2, k3⟩ := k
    exact ⟨v, r, k1, R.scal x v h.1 k2, RL.scal xs r h.2 k3⟩
end
def mapO {α β : Type} (f : α → Option β) : List α → Option (List β)
  | [] => some []
  | x :: xs =>
    match f x, mapO f xs with
    | some y, some ys => some (y :: ys)
    | _, _ => none
theorem mapO_length {α β : Type} {f : α → Option β} : ∀ {xs : List α} {ys : List β}, mapO f xs = some ys → ys.length = xs.length
  | [], _, h => by simp only [mapO, Option.some.injEq] at h; subst h; rfl
  | x :: xs, ys, h => by
    simp only [mapO] at h
    split at h
    · rename_i y ys' h1 h2
      cases h
      simp [mapO_length h2]
    · cases h
def viewA (st : St) : Nat → AV → Option AV
  | 0, _ => none
  | n + 1, x =>
    if AV.free x then some (AV.plain x) else
    match x with
    | .sl sz b off len =>
      match st.get b with
      | some (.row sz' xs) => if sz' = sz ∧ off + len ≤ xs.length then (mapO (viewA st n) ((xs.drop off).take len)).map (.vs sz .any ·) else none
      | _ => none
    | .agg cs => (mapO (viewA st n) cs).map .agg
    | .vs sz _ xs => (mapO (viewA st n) xs).map (.vs sz .any ·)
    | _ => none
section
variable {P : Program}
mutual
theorem free_plain' : ∀ x : AV, AV.free (AV.plain x) = AV.free x
  | .bool _ | .int _ _ | .str _ | .ptr _ _ _ | .nilptr | .gptr _ | .nilsl | .es | .sl _ _ _ _ | .map _ | .nilmap | .nilfn | .nilif | .junk => by simp [AV.plain, AV.free]
  | .ip a => by simp [AV.plain, AV.free, freeL_plainL' a]
  | .vs _ o a => by simp [AV.plain, AV.free, freeL_plainL' a]
  | .fn _ a b => by simp [AV.plain, AV.free, freeL_plainL' a, freeL_plainL' b]
  | .iface _ a => by simp [AV.plain, AV.free, free_plain' a]
  | .agg a => by simp [AV.plain, AV.free, freeL_plainL' a]
  | .tup a => by simp [AV.plain, AV.free, freeL_plainL' a]
theorem freeL_plainL' : ∀ x : List AV, AV.freeL (AV.plainL x) = AV.freeL x
  | [] => rfl
  | x :: xs => by simp [AV.plainL, AV.freeL, free_plain' x, freeL_plainL' xs]
end
theorem mapO_ok {f : AV → Option AV} (hf : ∀ x y, f x = some y → y.cellOk = x.cellOk ∧ y.ok = x.ok ∧ AV.free y = true) : ∀ {xs ys : List AV}, mapO f xs = some ys → ys.all AV.cellOk = xs.all AV.cellOk ∧ AV.freeL ys = true
  | [], _, h => by simp only [mapO, Option.some.injEq] at h; subst h; exact ⟨rfl, rfl⟩
  | x :: xs, ys, h => by
    simp only [mapO] at h
    split at h
    · rename_i y ys' h1 h2
      cases h
      obtain ⟨a1, _, a3⟩ := hf _ _ h1
      obtain ⟨b1, b2⟩ := mapO_ok hf h2
      simp only [List.all_cons, a1, b1, AV.freeL, a3, b2, Bool.and_self, and_self]
    · cases h
theorem viewA_ok {st : St} : ∀ (n : Nat) (x y : AV), viewA st n x = some y → y.cellOk = x.cellOk ∧ y.ok = x.ok ∧ AV.free y = true
  | 0, _, _, h => by simp [viewA] at h
  | n + 1, x, y, h => by
    have ih := viewA_ok (st := st) n
    simp only [viewA] at h
    split at h
    · rename_i hf
      cases h
      exact ⟨cellOk_plain x, ok_plain x, by rw [free_plain']; exact hf⟩
    · split at h
      · split at h
        · split at h
          · obtain ⟨ys, h1, h2⟩ := Option.map_eq_some_iff.1 h
            subst h2
            exact ⟨rfl, rfl, by simp only [AV.free]; exact (mapO_ok ih h1).2⟩
          · cases h
        · cases h
      · obtain ⟨ys, h1, h2⟩ := Option.map_eq_some_iff.1 h
        subst h2
        exact ⟨rfl, (mapO_ok ih h1).1, by simp only [AV.free]; exact (mapO_ok ih h1).2⟩
      · obtain ⟨ys, h1, h2⟩ := Option.map_eq_some_iff.1 h
        subst h2
        exact ⟨rfl, rfl, by simp only [AV.free]; exact (mapO_ok ih h1).2⟩
      · cases h
theorem mapO_RL {Γ Δ : Ghost} {f : AV → Option AV} (hf : ∀ (x y : AV) (v : Value), f x = some y → R Γ x v → R Δ y v) : ∀ (xs ys : List AV) (vs : List Value), mapO f xs = some ys → RL Γ xs vs → RL Δ ys vs
  | [], ys, vs, h, hx => by
    simp only [mapO, Option.some.injEq] at h
    subst h
    rw [hx.of_nil]; exact RL.nil _
  | x :: xs, ys, vs, h, hx => by
    simp only [mapO] at h
    split at h
    · rename_i y ys' h1 h2
      cases h
      obtain ⟨v, r, rfl, k1, k2⟩ := hx.of_cons
      exact RL.cons (hf _ _ _ h1 k1) (mapO_RL hf xs _ _ h2 k2)
    · cases h
theorem mapO_RE {Γ Δ : Ghost} {F : AV → Option AV} (hF : ∀ (x y : AV) (v : Value), F x = some y → R Γ x v → R Δ y v) (hok : ∀ x y, F x = some y → y.ok = x.ok) {f g : Nat → Option Value} (hf : ∀ k v, f k = some v → g k = some v) : ∀ (xs ys : List AV) (o sz : Nat), mapO F xs = some ys → RE Γ xs f o sz → RE Δ ys g o sz
  | [], ys, o, sz, h, hx => by
    simp only [mapO, Option.some.injEq] at h
    subst h
    simp only [RE]
  | x :: xs, ys, o, sz, h, hx => by
    simp only [mapO] at h
    split at h
    · rename_i y ys' h1 h2
      cases h
      simp only [RE] at hx ⊢
      obtain ⟨⟨v, k1, k2, k3, k4⟩, k5⟩ := hx
      exact ⟨⟨v, hF _ _ _ h1 k1, by rw [hok _ _ h1]; exact k2, k3, k4.mono hf⟩, mapO_RE hF hok hf xs _ _ _ h2 k5⟩
    · cases h
theorem view_sound {B : Nat} {w0 w : World} {Γ : Ghost} {st : St} (hI : Inv B w0 Γ st w) : ∀ (n : Nat) (x y : AV) (v : Value), viewA st n x = some y → R Γ x v → R (Ghost.all w) y v
  | 0, _, _, _, h, _ => by simp [viewA] at h
  | n + 1, x, y, v, h, hx => by
    have ih := view_sound hI n
    have ok := fun x y h => (viewA_ok (st := st) n x y h).2.1
    simp only [viewA] at h
    split at h
    · rename_i hfr
      cases h
      exact R.plain (Γ := Γ) (Δ := Ghost.all w) (fun b o v k => hI.inert b o v k) x v hfr hx
    · split at h
      · rename_i sz b off len _
        split at h
        · rename_i sz' xs hg
          split at h
          · rename_i hc
            obtain ⟨rfl, hle⟩ := hc
            obtain ⟨ys, h1, h2⟩ := Option.map_eq_some_iff.1 h
            subst h2
            simp only [R] at hx
            obtain ⟨blk, base, tot, o, cap, ho, rfl, k1, k2⟩ := hx
            obtain ⟨_, hsz, hlt, hmem⟩ := hI.rows b _ xs blk base _ tot hg ho
            have hxl : ((xs.drop off).take len).length = len := by rw [List.length_take, List.length_drop]; omega
            have hyl : ys.length = len := (mapO_length h1).trans hxl
            simp only [R]
            refine ⟨blk, o, cap, by rw [hyl], by rw [hyl]; exact k1, hsz, trivial, ?_⟩
            by_cases hl0 : len = 0
            · have : ys = [] := List.eq_nil_of_length_eq_zero (by omega)
              subst this
              simp only [RE]
            · rcases k2 with k2 | ⟨k2, k3⟩
              · omega
              · subst k2
                obtain ⟨⟨c, T, hh, hcs, hre⟩, _⟩ := hmem (by omega)
                refine mapO_RE ih ok (fun k v hk => ?_) _ _ _ _ h1 ((hre.drop off).take len)
                show w.cell? ⟨blk, k, none⟩ = some v
                rw [cell_of_heap hh]; exact hk
          · cases h
        · cases h
      · obtain ⟨ys, h1, h2⟩ := Option.map_eq_some_iff.1 h
        subst h2
        simp only [R] at hx ⊢
        obtain ⟨vs, k1, k2⟩ := hx
        exact ⟨vs, k1, mapO_RL ih _ _ _ h1 k2⟩
      · obtain ⟨ys, h1, h2⟩ := Option.map_eq_some_iff.1 h
        subst h2
        simp only [R] at hx ⊢
        obtain ⟨blk, o, cap, k1, k2, k3, _, k5⟩ := hx
        have hyl := mapO_length h1
        exact ⟨blk, o, cap, by rw [hyl]; exact k1, by rw [hyl]; exact k2, k3, trivial, mapO_RE ih ok (fun k v hk => hI.inert blk k v hk) _ _ _ _ h1 k5⟩
      · cases h
theorem view_calls2 {E : Env} (hE : EnvOk P E) (hp : ∀ B w0, PrimOk P E B w0) {f : FuncId} {n m : Nat} {args args' : List AV} {x r' r : AV} {st st1 st2 : St} (hv : mapO (viewA st m) args = some args')
    (h : callF E n f args' St.empty = some (x, st1)) (hz : freezeA st1 x = some (r', st2)) (hx : AV.plain r' = r) (hfr : AV.free r' = true) (hr : AV.scal r = true) {B : Nat} {w0 : World} {Γ : Ghost} {w : World} {vargs : Array Value} (hI : Inv B w0 Γ st w) (hargs : RL Γ args vargs.toList) :
    Calls P f vargs w fun e w' => ∃ v Γ', e = .returned v ∧ Out B w0 Γ st Γ' st w' ∧ R Γ' r v := by
  refine ((callF_sound hE (hp w.heap.size w) n f _ St.empty x st1 h).2 _ w vargs (Inv.all w) (mapO_RL (view_sound hI m) _ _ _ hv hargs)).mono ?_
  rintro e w' ⟨v, Γ1, he, out, hv⟩
  obtain ⟨Γ2, out2, hv2⟩ := freeze_sound out.inv hz hv
  refine ⟨v, _, he, hI.back out2.inv, ?_⟩
  have := R.plain (Γ := Γ2) (Δ := Γ2) (fun _ _ _ k => k) r' v hfr hv2
  rw [hx] at this
  exact R.scal _ _ hr this
theorem freezeC_free {st : St} {x : AV} (h : AV.free x = true) : freezeC st x = some (x, st) := by
  cases x <;> first | rfl | simp [AV.free] at h
theorem freezeL_free {st : St} : ∀ {xs : List AV}, AV.freeL xs = true → freezeL st xs = some (xs, st)
  | [], _ => rfl
  | x :: xs, h => by
    simp only [AV.freeL, Bool.and_eq_true] at h
    simp only [freezeL, freezeC_free h.1, freezeL_free h.2]
theorem freezeB_free {st : St} {x : AV} (h : AV.free x = true) : freezeB st x = some (x, st) := by
  unfold freezeB
  split
  · simp only [AV.free] at h
    rw [freezeL_free h]; rfl
  · exact freezeC_free h
theorem freezeM_free {st : St} : ∀ {xs : List AV}, AV.freeL xs = true → freezeM st xs = some (xs, st)
  | [], _ => rfl
  | x :: xs, h => by
    simp only [AV.freeL, Bool.and_eq_true] at h
    simp only [freezeM, freezeB_free h.1, freezeM_free h.2]
theorem freeze_free {st : St} {x : AV} (h : AV.free x = true) : freezeA st x = some (x, st) := by
  unfold freezeA
  split
  · simp only [AV.free] at h
    rw [freezeM_free h]; rfl
  · simp only [AV.free] at h
    rw [freezeL_free h]; rfl
  · exact freezeC_free h
theorem viewA_free {st : St} (n : Nat) {x : AV} (h : AV.free x = true) : viewA st (n + 1) x = some (AV.plain x) := by simp only [viewA, h, if_true]
theorem mapO_free {st : St} (n : Nat) : ∀ {xs : List AV}, AV.freeL xs = true → mapO (viewA st (n + 1)) xs = some (AV.plainL xs)
  | [], _ => rfl
  | x :: xs, h => by
    simp only [AV.freeL, Bool.and_eq_true] at h
    simp only [mapO, viewA_free n h.1, mapO_free n h.2, AV.plainL]
end
end Go.Abs

namespace Go.Abs
open Go.RowKit

structure GSl (α : Type) where
  nil : Option Bool
  xs : List α
  h : nil ≠ none → xs = []
def GSl.av {α : Type} (sz : Nat) (f : α → AV) (s : GSl α) : AV :=
  match s.nil with
  | some true => .nilsl
  | some false => .es
  | none => .vs sz .any (s.xs.map f)
section
variable {α : Type} {sz : Nat} {f : α → AV} {s : GSl α}
theorem GSl.cases (s : GSl α) (f : α → AV) (sz : Nat) : (s.xs = [] ∧ (s.av sz f = .nilsl ∨ s.av sz f = .es)) ∨ s.av sz f = .vs sz .any (s.xs.map f) := by
  unfold GSl.av
  match hn : s.nil with
  | some true => exact .inl ⟨s.h (by rw [hn]; simp), .inl rfl⟩
  | some false => exact .inl ⟨s.h (by rw [hn]; simp), .inr rfl⟩
  | none => exact .inr rfl
theorem lenT_av {st : St} {e : TypeId} : lenT st (.slice e) (s.av sz f) = some s.xs.length := by
  rcases s.cases f sz with ⟨h1, h2 | h2⟩ | h2 <;> rw [h2]
  · rw [h1]; rfl
  · rw [h1]; rfl
  · simp [lenT]
theorem elemAddrA_av {k : Int} (h0 : 0 ≤ k) (h : k.toNat < s.xs.length) : elemAddrA sz (s.av sz f) k = some (.ip (f s.xs[k.toNat]).cells) := by
  rcases s.cases f sz with ⟨h1, h2⟩ | h2
  · rw [h1] at h; simp at h
  · rw [h2]; simp [elemAddrA, h0, List.getElem?_eq_getElem h]
theorem elemAddrA_acc {t : Nat} {xs : List AV} {k : Int} (h0 : 0 ≤ k) (h : k.toNat < xs.length) : elemAddrA sz (accA t sz xs) k = some (.ip (xs[k.toNat]).cells) := by
  cases xs with
  | nil => simp at h
  | cons x xs =>
    simp only [accA, elemAddrA, h0, and_self, if_true]
    rw [List.getElem?_eq_getElem h]
theorem lenT_acc {st : St} {e : TypeId} {t : Nat} {xs : List AV} : lenT st (.slice e) (accA t sz xs) = some xs.length := by
  cases xs <;> rfl
end
section
variable {E : Env} {α : Type} {sz : Nat} {f : α → AV} {s : GSl α} {t e : TypeId} {y ey : Ty}
theorem lenTy_av {st : St} (h1 : E.ty t = some y) (h2 : y.d = .slice e) : lenTy E st t (s.av sz f) = some (.int .i64 (s.xs.length : Int)) := by
  unfold lenTy
  rw [h1]
  dsimp only
  rw [h2, lenT_av]; rfl
theorem lenTy_acc {st : St} {tk : Nat} {xs : List AV} (h1 : E.ty t = some y) (h2 : y.d = .slice e) : lenTy E st t (accA tk sz xs) = some (.int .i64 (xs.length : Int)) := by
  unfold lenTy
  rw [h1]
  dsimp only
  rw [h2, lenT_acc]; rfl
theorem indexAddrA_nat {kd : IntKind} {i : Nat} {a : α} (h1 : E.ty t = some y) (h2 : y.d = .slice e) (h3 : E.ty e = some ey) (h4 : ey.size = sz) (ha : s.xs[i]? = some a) : indexAddrA E t (s.av sz f) (.int kd (i : Int)) = some (.ip (f a).cells) := by
  obtain ⟨h, rfl⟩ := List.getElem?_eq_some_iff.1 ha
  unfold indexAddrA
  rw [h1]
  dsimp only
  rw [h2]
  dsimp only
  rw [h3]
  dsimp only
  rw [h4, elemAddrA_av (by omega) (by simpa using h)]
  simp
theorem indexAddrA_int {kd : IntKind} {k : Int} {a : α} (h1 : E.ty t = some y) (h2 : y.d = .slice e) (h3 : E.ty e = some ey) (h4 : ey.size = sz) (h0 : 0 ≤ k) (ha : s.xs[k.toNat]? = some a) : indexAddrA E t (s.av sz f) (.int kd k) = some (.ip (f a).cells) := by
  obtain ⟨h, rfl⟩ := List.getElem?_eq_some_iff.1 ha
  unfold indexAddrA
  rw [h1]
  dsimp only
  rw [h2]
  dsimp only
  rw [h3]
  dsimp only
  rw [h4, elemAddrA_av h0 h]
theorem indexAddrA_acc {kd : IntKind} {tk : Nat} {xs : List AV} {k : Int} {a : AV} (h1 : E.ty t = some y) (h2 : y.d = .slice e) (h3 : E.ty e = some ey) (h4 : ey.size = sz) (h0 : 0 ≤ k) (ha : xs[k.toNat]? = some a) : indexAddrA E t (accA tk sz xs) (.int kd k) = some (.ip a.cells) := by
  obtain ⟨h, rfl⟩ := List.getElem?_eq_some_iff.1 ha
  unfold indexAddrA
  rw [h1]
  dsimp only
  rw [h2]
  dsimp only
  rw [h3]
  dsimp only
  rw [h4, elemAddrA_acc h0 h]
end

theorem wrap64 {n : Int} (h1 : -9223372036854775808 ≤ n) (h2 : n < 9223372036854775808) : IntKind.i64.wrap n = n := by
  have h : IntKind.i64.wrap n = (if (true && decide (n % 18446744073709551616 ≥ 9223372036854775808)) then n % 18446744073709551616 - 18446744073709551616 else n % 18446744073709551616) := rfl
  rw [h]
  split
  · rename_i k
    simp at k
    omega
  · rename_i k
    simp at k
    omega
theorem wrap_nat {i : Nat} (h : i < 9223372036854775808) : IntKind.i64.wrap (i : Int) = i := wrap64 (by omega) (by omega)
theorem wrap_succ {i : Nat} (h : i + 1 < 9223372036854775808) : IntKind.i64.wrap ((i : Int) + 1) = ((i + 1 : Nat) : Int) := by
  have := wrap_nat h
  rw [← this]
  simp

section
variable {E : Env} {fid N : Nat} {l : List (Nat × AV)} {L : List (Nat × AObj)} {K : List (Nat × Bool)} {Q : AExit → TM → St → Prop}
variable {c : Bool} {pol : Nat → Nat} {ops : Array Oper} {o : Oper} {r : List Oper} {i : Nat}
theorem WS.refresh {a : Code} {t : Nat} {b v : Bool} (ht : lk l t = some (.bool b)) (hv : b = v) (h : WS E fid N a ((t, .bool v) :: l) L K Q) : WS E fid N a l L K Q := by
  subst hv
  refine .sub (fun i u hu => ?_) (.refl _) (.refl _) h
  simp only [lk] at hu
  cases hb' : Nat.beq t i with
  | true =>
    rw [hb'] at hu
    simp only [cond_true, Option.some.injEq] at hu
    have := Nat.eq_of_beq_eq_true hb'
    subst this; rw [ht, ← hu]
  | false => rw [hb'] at hu; exact hu
theorem WS.condB {t : Nat} {a b : Code} {v : Bool} (ht : lk l t = some (.bool v)) (h1 : v = true → WS E fid N a ((t, .bool true) :: l) L K Q) (h2 : v = false → WS E fid N b ((t, .bool false) :: l) L K Q) : WS E fid N (.cond (.tmp t) a b) l L K Q :=
  .cond ht (fun k => .refresh ht k (h1 k)) (fun k => .refresh ht k (h2 k))
theorem WS.condD {t : Nat} {a b : Code} {p : Prop} {inst : Decidable p} (ht : lk l t = some (.bool (decide p))) (h1 : p → WS E fid N a ((t, .bool true) :: l) L K Q) (h2 : ¬ p → WS E fid N b ((t, .bool false) :: l) L K Q) : WS E fid N (.cond (.tmp t) a b) l L K Q :=
  .condB ht (fun k => h1 (of_decide_eq_true k)) (fun k => h2 (of_decide_eq_false k))
theorem WS.condE {t : Nat} {a b : Code} {p q : Int} (ht : lk l t = some (.bool (p == q))) (h1 : p = q → WS E fid N a ((t, .bool true) :: l) L K Q) (h2 : p ≠ q → WS E fid N b ((t, .bool false) :: l) L K Q) : WS E fid N (.cond (.tmp t) a b) l L K Q :=
  .condB ht (fun k => h1 (by simpa using k)) (fun k => h2 (by simpa using k))
theorem WS.condNe {t : Nat} {a b : Code} {p q : Int} (ht : lk l t = some (.bool (p != q))) (h1 : p ≠ q → WS E fid N a ((t, .bool true) :: l) L K Q) (h2 : p = q → WS E fid N b ((t, .bool false) :: l) L K Q) : WS E fid N (.cond (.tmp t) a b) l L K Q :=
  .condB ht (fun k => h1 (by simpa using k)) (fun k => h2 (by simpa using k))
theorem WS.condN {t : Nat} {a b : Code} {v : Bool} (ht : lk l t = some (.bool (!v))) (h1 : v = false → WS E fid N a ((t, .bool true) :: l) L K Q) (h2 : v = true → WS E fid N b ((t, .bool false) :: l) L K Q) : WS E fid N (.cond (.tmp t) a b) l L K Q :=
  .condB ht (fun k => h1 (by simpa using k)) (fun k => h2 (by simpa using k))
theorem OS.splitD {j d : Nat} {want : Bool} {p : Prop} {inst : Decidable p} (hg : o.guard = some (j, want)) (hd : (ops.toList[j]?).bind (·.dst) = some d) (hb : lk l d = some (.bool (decide p)))
    (h1 : p → OS E c pol ops (o :: r) i N ((d, .bool true) :: l) L K Q) (h2 : ¬ p → OS E c pol ops (o :: r) i N ((d, .bool false) :: l) L K Q) : OS E c pol ops (o :: r) i N l L K Q :=
  .split hg hd hb (fun k => h1 (of_decide_eq_true k)) (fun k => h2 (of_decide_eq_false k))
theorem OS.splitNe {j d : Nat} {want : Bool} {p q : Int} (hg : o.guard = some (j, want)) (hd : (ops.toList[j]?).bind (·.dst) = some d) (hb : lk l d = some (.bool (p != q)))
    (h1 : p ≠ q → OS E c pol ops (o :: r) i N ((d, .bool true) :: l) L K Q) (h2 : p = q → OS E c pol ops (o :: r) i N ((d, .bool false) :: l) L K Q) : OS E c pol ops (o :: r) i N l L K Q :=
  .split hg hd hb (fun k => h1 (by simpa using k)) (fun k => h2 (by simpa using k))
theorem OS.splitN {j d : Nat} {want t : Bool} (hg : o.guard = some (j, want)) (hd : (ops.toList[j]?).bind (·.dst) = some d) (hb : lk l d = some (.bool (!t)))
    (h1 : t = false → OS E c pol ops (o :: r) i N ((d, .bool true) :: l) L K Q) (h2 : t = true → OS E c pol ops (o :: r) i N ((d, .bool false) :: l) L K Q) : OS E c pol ops (o :: r) i N l L K Q :=
  .split hg hd hb (fun k => h1 (by simpa using k)) (fun k => h2 (by simpa using k))

def argsL : List AV → Nat → List (Nat × AV)
  | [], _ => []
  | x :: xs, i => (i, x) :: argsL xs (i + 1)
theorem lk_argsL : ∀ (xs : List AV) (i j : Nat) (v : AV), lk (argsL xs i) j = some v → i ≤ j ∧ xs[j - i]? = some v
  | [], _, _, _, h => by simp [argsL, lk] at h
  | x :: xs, i, j, v, h => by
    simp only [argsL, lk] at h
    cases hb : Nat.beq i j with
    | true =>
      rw [hb] at h
      simp only [cond_true, Option.some.injEq] at h
      have := Nat.eq_of_beq_eq_true hb
      subst this; subst h
      simp
    | false =>
      rw [hb] at h
      have := lk_argsL xs (i + 1) j v h
      refine ⟨by omega, ?_⟩
      have e : j - i = (j - (i + 1)) + 1 := by omega
      rw [e]; simpa using this.2
theorem CW.start {f : FuncId} {fn : FnI} {args : List AV} {st : St} {Q : AV → St → Prop} (hp : E.prim f = none) (hf : E.fns f = some fn) (hn : max fn.ntmps args.length = N)
    (h : WS E f N fn.code (argsL args 0) [] [] (retQ E fn.results Q)) : CW E f args st Q := by
  refine .fn hp hf fun tm h1 h2 => h tm st ⟨by rw [h1, hn], fun i v hv => ?_, fun k b o hk => by simp at hk, fun k k' b o o' hk => by simp at hk, fun k t hk => by simp at hk, fun k k' t hk => by simp at hk⟩
  have := lk_argsL _ _ _ _ hv
  exact h2 i v (by simpa using this.2)
end

def addPrim (E : Env) (f : FuncId) (g : List AV → St → Option (AV × St)) : Env := { E with prim := fun x => bif Nat.beq x f then some g else E.prim x }
open Classical in
noncomputable def primOf (Rel : List AV → AV → Prop) (args : List AV) (st : St) : Option (AV × St) :=
  if h : ∃ r, Rel (AV.plainL args) r then some (h.choose, st)
  else if h : ∃ r, (∃ a, mapO (viewA st 9) args = some a ∧ Rel a r) ∧ AV.scal r = true then some (h.choose, st)
  else none
theorem primOf_eq {Rel : List AV → AV → Prop} (hu : ∀ a r r', Rel a r → Rel a r' → r = r') {args : List AV} {r : AV} (h : Rel (AV.plainL args) r) (st : St) : primOf Rel args st = some (r, st) := by
  unfold primOf
  have hx : ∃ r, Rel (AV.plainL args) r := ⟨r, h⟩
  rw [dif_pos hx, hu _ _ _ hx.choose_spec h]
theorem primOf_view {Rel : List AV → AV → Prop} (hu : ∀ a r r', Rel a r → Rel a r' → r = r') (hf : ∀ a r, Rel a r → AV.freeL a = true) {args a : List AV} {r : AV} {st : St} (hv : mapO (viewA st 9) args = some a) (h : Rel a r) (hs : AV.scal r = true) : primOf Rel args st = some (r, st) := by
  unfold primOf
  split
  · rename_i hx
    have h1 := hx.choose_spec
    have h2 := hf _ _ h1
    rw [freeL_plainL'] at h2
    rw [mapO_free 8 h2] at hv
    cases hv
    rw [hu _ _ _ h1 h]
  · have hx : ∃ r, (∃ a, mapO (viewA st 9) args = some a ∧ Rel a r) ∧ AV.scal r = true := ⟨r, ⟨a, hv, h⟩, hs⟩
    rw [dif_pos hx]
    obtain ⟨⟨a', h1, h2⟩, _⟩ := hx.choose_spec
    rw [hv] at h1
    cases h1
    rw [hu _ _ _ h2 h]
section
variable {P : Program}
mutual
theorem plain_plain : ∀ x : AV, AV.plain (AV.plain x) = AV.plain x
  | .bool _ | .int _ _ | .str _ | .ptr _ _ _ | .nilptr | .gptr _ | .nilsl | .es | .sl _ _ _ _ | .map _ | .nilmap | .nilfn | .nilif | .junk => by simp [AV.plain]
  | .ip a => by simp [AV.plain, plainL_plainL a]
  | .vs _ o a => by cases o <;> simp [AV.plain, plainL_plainL a, Own.plain]
  | .fn _ a b => by simp [AV.plain, plainL_plainL a, plainL_plainL b]
  | .iface _ a => by simp [AV.plain, plain_plain a]
  | .agg a => by simp [AV.plain, plainL_plainL a]
  | .tup a => by simp [AV.plain, plainL_plainL a]
theorem plainL_plainL : ∀ x : List AV, AV.plainL (AV.plainL x) = AV.plainL x
  | [] => rfl
  | x :: xs => by simp [AV.plainL, plain_plain x, plainL_plainL xs]
end
mutual
theorem free_plain : ∀ x : AV, AV.free (AV.plain x) = AV.free x
  | .bool _ | .int _ _ | .str _ | .ptr _ _ _ | .nilptr | .gptr _ | .nilsl | .es | .sl _ _ _ _ | .map _ | .nilmap | .nilfn | .nilif | .junk => by simp [AV.plain, AV.free]
  | .ip a => by simp [AV.plain, AV.free, freeL_plainL a]
  | .vs _ o a => by simp [AV.plain, AV.free, freeL_plainL a]
  | .fn _ a b => by simp [AV.plain, AV.free, freeL_plainL a, freeL_plainL b]
  | .iface _ a => by simp [AV.plain, AV.free, free_plain a]
  | .agg a => by simp [AV.plain, AV.free, freeL_plainL a]
  | .tup a => by simp [AV.plain, AV.free, freeL_plainL a]
theorem freeL_plainL : ∀ x : List AV, AV.freeL (AV.plainL x) = AV.freeL x
  | [] => rfl
  | x :: xs => by simp [AV.plainL, AV.freeL, free_plain x, freeL_plainL xs]
end
theorem PrimOk.addPrim {E : Env} {B : Nat} {w0 : World} (h : PrimOk P E B w0) {f : FuncId} {g : List AV → St → Option (AV × St)} (hg : PrimDoes P B w0 f g) : PrimOk P (addPrim E f g) B w0 := by
  intro f' g' args st r st' hf hr
  have hf' : (bif Nat.beq f' f then some g else E.prim f') = some g' := hf
  cases hb : Nat.beq f' f with
  | true =>
    rw [hb] at hf'
    simp only [cond_true, Option.some.injEq] at hf'
    have := Nat.eq_of_beq_eq_true hb
    subst this; subst hf'
    exact hg args st r st' hr
  | false =>
    rw [hb] at hf'
    exact h f' g' args st r st' hf' hr
end
end Go.Abs
namespace Go.Abs
structure SFa (L : List (Nat × AObj)) (K : List (Nat × Bool)) (st : St) : Prop where
  obj : ∀ (k b : Nat) (o : AObj), L[k]? = some (b, o) → st.get b = some o ∧ b < st.next
  uniq : ∀ (k k' b : Nat) (o o' : AObj), L[k]? = some (b, o) → L[k']? = some (b, o') → k = k'
  tok : ∀ (k t : Nat), K[k]? = some (t, true) → st.alive t = true ∧ t < st.next
  uniqT : ∀ (k k' t : Nat), K[k]? = some (t, true) → K[k']? = some (t, true) → k = k'
section
variable {E : Env} {N : Nat} {l : List (Nat × AV)} {L : List (Nat × AObj)} {K : List (Nat × Bool)} {Q : AExit → TM → St → Prop}
variable {pol : Nat → Nat} {ops : Array Oper} {r : List Oper} {i : Nat}
variable {d : Nat} {ty : TypeId} {pos : String} {after : Array Edge} {guard : Option (Nat × Bool)}
theorem Fa.s {tm : TM} {st : St} (h : Fa N l L K tm st) : SFa L K st := ⟨h.obj, h.uniq, h.tok, h.uniqT⟩
theorem Fa.withS {tm : TM} {st st' : St} (h : Fa N l L K tm st) (hs : SFa L K st') : Fa N l L K tm st' := ⟨h.n, h.get, hs.obj, hs.uniq, hs.tok, hs.uniqT⟩
theorem CW.startS {f : FuncId} {fn : FnI} {args : List AV} {st : St} {Q : AV → St → Prop} (hp : E.prim f = none) (hf : E.fns f = some fn) (hn : max fn.ntmps args.length = N) (hS : SFa L K st)
    (h : WS E f N fn.code (argsL args 0) L K (retQ E fn.results Q)) : CW E f args st Q := by
  refine .fn hp hf fun tm h1 h2 => h tm st ⟨by rw [h1, hn], fun i v hv => ?_, hS.obj, hS.uniq, hS.tok, hS.uniqT⟩
  have := lk_argsL _ _ _ _ hv
  exact h2 i v (by simpa using this.2)
theorem QS.retRS {rs : List ResultVar} {v : AV} {Q : AV → St → Prop} (h : res1 l rs = some v) (hq : ∀ st, SFa L K st → Q v st) : QS N .ret l L K (retQ E rs Q) :=
  fun _ st hF => retQ.ret (hF.res1 h) (hq st hF.s)
theorem OD.callS {f : Operand} {args : Array Operand} {argTypes : Array TypeId} {g : FuncId} {first cap vs : List AV} {v : AV} (hn : Nat.blt d N = true) (hf : evL l f = some (.fn g first cap)) (ha : evLs l args.toList = some vs)
    (hr : ∀ st, SFa L K st → CW E g (first ++ vs ++ cap) st fun x st' => x = v ∧ SFa L K st') (hz : ∀ st, freezeA st v = some (v, st))
    (k : OS E false pol ops r (i + 1) N ((d, v) :: l) L K Q) : OD E false pol ops { dst := some d, op := .call { callee := .value f, args := args, argTypes := argTypes }, type := ty, pos := pos, after := after, guard := guard } r i N l L K Q := by
  intro pre tm st hF hp' hw
  obtain ⟨n1, x, st', hc, rfl, hS⟩ := hr st hF.s
  obtain ⟨n, tr, tm1, st1, h1, _, h2⟩ := k pre (tm.put d x) st' ((hF.withS hS).put hn x) hp'
  refine ⟨Nat.max n n1, ⟨tm, st, st', x, true⟩ :: tr, tm1, st1, ?_, (fun hc => by cases hc), h2⟩
  have hl : Abs.loud E (callF E (Nat.max n n1)) (pol i) tm st { dst := some d, op := .call { callee := .value f, args := args, argTypes := argTypes }, type := ty, pos := pos, after := after, guard := guard } = some (x, st') := by
    have : Abs.loud E (callF E (Nat.max n n1)) (pol i) tm st { dst := some d, op := .call { callee := .value f, args := args, argTypes := argTypes }, type := ty, pos := pos, after := after, guard := guard } = (match evalO tm f with | .fn g first cap => callF E (Nat.max n n1) g (first ++ args.toList.map (evalO tm) ++ cap) st | _ => none) := rfl
    rw [this, hF.ev hf, hF.evs ha]
    exact callF_mono n1 (Nat.max n n1) (Nat.le_max_right _ _) _ _ _ _ hc
  have hst : stepPre E (callF E (Nat.max n n1)) pre (pol i) i tm st { dst := some d, op := .call { callee := .value f, args := args, argTypes := argTypes }, type := ty, pos := pos, after := after, guard := guard } = some (x, st') := by
    simp only [stepPre, stepOp, isLoud, if_true, hl, isFnCall, Bool.and_true, decide_eq_true_eq]
    split
    · exact hz st'
    · rfl
  simp only [runOpsT]
  rw [hw]
  dsimp only
  rw [hst]
  dsimp only [putO]
  rw [runOpsT_mono (callF_mono n (Nat.max n n1) (Nat.le_max_left _ _)) _ _ _ _ h1]
end
end Go.Abs
namespace Go.Abs
section
variable {E : Env} {fid N : Nat} {l : List (Nat × AV)} {L : List (Nat × AObj)} {K : List (Nat × Bool)} {Q : AExit → TM → St → Prop}
end
end Go.Abs

namespace Go.Abs
section
variable {α : Type} {xs : List α} {f : α → Bool} {i : Nat}
theorem all_take_succ (h : i < xs.length) (h1 : (xs.take i).all f = true) (h2 : f xs[i] = true) : (xs.take (i + 1)).all f = true := by
  rw [List.take_succ_eq_append_getElem h]
  simp only [List.all_append, h1, List.all_cons, h2, List.all_nil, Bool.and_self]
theorem all_of_take (h : ¬ i < xs.length) (h1 : (xs.take i).all f = true) : xs.all f = true := by
  rw [List.take_of_length_le (by omega)] at h1; exact h1
theorem all_false (h : i < xs.length) (h2 : f xs[i] = false) : xs.all f = false := by
  apply Bool.eq_false_iff.2
  intro k
  rw [List.all_eq_true] at k
  have := k xs[i] (List.getElem_mem h)
  rw [h2] at this; cases this
end
end Go.Abs
namespace Go.Abs
section
variable {P : Program}
end
section
variable {α : Type} {sz : Nat} {f : α → AV} {s : GSl α}
theorem plainL_map (hf : ∀ a, AV.plain (f a) = f a) : ∀ l : List α, AV.plainL (l.map f) = l.map f
  | [] => rfl
  | x :: l => by simp [AV.plainL, hf, plainL_map hf l]
theorem freeL_map (hf : ∀ a, AV.free (f a) = true) : ∀ l : List α, AV.freeL (l.map f) = true
  | [] => rfl
  | x :: l => by simp [AV.freeL, hf, freeL_map hf l]
theorem plain_av (hf : ∀ a, AV.plain (f a) = f a) : AV.plain (s.av sz f) = s.av sz f := by
  rcases s.cases f sz with ⟨_, h2 | h2⟩ | h2 <;> rw [h2]
  · rfl
  · rfl
  · simp [AV.plain, Own.plain, plainL_map hf]
theorem free_av (hf : ∀ a, AV.free (f a) = true) : AV.free (s.av sz f) = true := by
  rcases s.cases f sz with ⟨_, h2 | h2⟩ | h2 <;> rw [h2]
  · rfl
  · rfl
  · simp [AV.free, freeL_map hf]
def GSl.of (xs : List α) : GSl α := ⟨bif xs.isEmpty then some true else none, xs, fun h => by cases xs with | nil => rfl | cons x xs => simp at h⟩
theorem plain_acc {t : Nat} {xs : List α} (hf : ∀ a, AV.plain (f a) = f a) : AV.plain (accA t sz (xs.map f)) = (GSl.of xs).av sz f := by
  cases xs with
  | nil => rfl
  | cons x xs =>
    simp only [List.map_cons, accA, AV.plain, Own.plain, GSl.av, GSl.of, List.isEmpty_cons, cond_false]
    rw [← List.map_cons, plainL_map hf]
end
end Go.Abs
