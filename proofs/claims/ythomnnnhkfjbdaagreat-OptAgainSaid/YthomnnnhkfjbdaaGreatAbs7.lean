/- Own text of this claim: part 7 of an interpreter that is proved sound against the model, and of what it shows of the law. -/
import Derived.Laws.Strings
import Derived.Test.YthomnnnhkfjbdaaGreatAbs6
namespace Go.Abs
def pickF (l : List (Nat × AV)) : List Nat -> Option (List (Nat × AV))
 | [] => some []
 | i :: is => match lk l i, pickF l is with
  | some v, some r => some ((i, v) :: r)
  | _, _ => none
theorem pick_sub {l : List (Nat × AV)} : ∀ {is : List Nat} {r : List (Nat × AV)}, pickF l is = some r -> Abs.Sub l r
 | [], _, h => by simp only [pickF, Option.some.injEq] at h; subst h; exact Sub.nil _
 | i :: is, r, h => by
  simp only [pickF] at h
  split at h
  ·rename_i v r' h1 h2
   simp only [Option.some.injEq] at h
   subst h
   exact Sub.cons h1 (pick_sub h2)
  ·cases h
theorem Sub.trans {a b c : List (Nat × AV)} (h : Abs.Sub a b) (k : Abs.Sub b c) : Abs.Sub a c := fun i v hv => h i v (k i v hv)
theorem lk_append {a b : List (Nat × AV)} {i : Nat} : lk (a ++ b) i = match lk a i with | some v => some v | none => lk b i := by
 induction a with
 | nil => rfl
 | cons p a ih =>
  obtain ⟨j, v⟩ := p
  simp only [List.cons_append, lk]
  cases hb : Nat.beq j i with
  | true => rfl
  | false => exact ih
theorem Sub.app {l a b : List (Nat × AV)} (h : Abs.Sub l a) (k : Abs.Sub l b) : Abs.Sub l (a ++ b) := by
 intro i v hv
 rw [lk_append] at hv
 cases ha : lk a i with
 | some u => rw [ha] at hv; rw [<- hv]; exact h i u ha
 | none => rw [ha] at hv; exact k i v hv
theorem Sub.over {l : List (Nat × AV)} {t : Nat} {v : AV} (h : lk l t = none) : Abs.Sub ((t, v) :: l) l := by
 intro i u hu
 simp only [lk]
 cases hb : Nat.beq t i with
 | true =>
  have := Nat.eq_of_beq_eq_true hb
  subst this
  rw [h] at hu; cases hu
 | false => exact hu
theorem Sub.under {a b : List (Nat × AV)} {t : Nat} {v : AV} (h : Abs.Sub a b) : Abs.Sub ((t, v) :: a) ((t, v) :: b) := by
 intro i u hu
 simp only [lk] at hu ⊢
 cases hb : Nat.beq t i with
 | true => rw [hb] at hu; exact hu
 | false => rw [hb] at hu; exact h i u hu
section
variable {E : Env} {fid N : Nat} {l : List (Nat × AV)} {L : List (Nat × AObj)} {K : List (Nat × Bool)} {Q : AExit -> TM -> St -> Prop}
structure RSt (A : Type) where
 ti : Nat
 kept : List (Nat × AV)
 mf : A -> List (Nat × AV)
 Lf : A -> List (Nat × AObj)
 Kf : A -> List (Nat × Bool)
 I : Nat -> A -> Prop
def RSt.at {A : Type} (s : RSt A) (i : Nat) (a : A) : List (Nat × AV) := (s.ti, .int .i64 (i : Int)) :: (s.mf a ++ s.kept)
def rangeQ {A : Type} (N : Nat) (s : RSt A) (i B C : Nat) (Q : AExit -> TM -> St -> Prop) (e : AExit) (tm : TM) (st : St) : Prop :=
 ((e = .normal \/ e = .exit C) /\ ∃ a, s.I (i + 1) a /\ Fa N (s.at i a) (s.Lf a) (s.Kf a) tm st) \/ (e = .exit B /\ Q .normal tm st) \/ ((∃ j, e = .exit j /\ j ≠ C /\ j ≠ B) /\ Q e tm st) \/ (e = .ret /\ Q .ret tm st)
theorem QS.rangeN {A : Type} {s : RSt A} {i B C : Nat} (a : A) (hI : s.I (i + 1) a) (hl : Abs.Sub l (s.at i a)) (hL : SubO L (s.Lf a)) (hK : SubK K (s.Kf a)) : QS N .normal l L K (rangeQ N s i B C Q) :=
 fun _ _ hF => .inl ⟨.inl rfl, a, hI, hF.sub hl hL hK⟩
theorem QS.rangeR {A : Type} {s : RSt A} {i B C : Nat} (h : QS N .ret l L K Q) : QS N .ret l L K (rangeQ N s i B C Q) := fun tm st hF => .inr (.inr (.inr ⟨rfl, h tm st hF⟩))
theorem lt_dec {i n : Nat} : (decide ((i : Int) < (n : Int))) = decide (i < n) := by
 rw [decide_eq_decide]; omega
theorem WS.range {A : Type} {B C h g tc tn ts n : Nat} {hops gops : Array Oper} {body : Code} {y1 y2 y3 y4 y5 y6 y7 : TypeId} {p1 p2 p3 : String} {e1 e2 e3 : Array Edge} (s : RSt A) (a0 : A)
  (ids : List Nat) (hpk : pickF l ids = some s.kept) (hn63 : n <= 9223372036854775806) (h0 : s.I 0 a0) (hi : lk l s.ti = some (.int .i64 ((0 : Nat) : Int))) (hm : Abs.Sub l (s.mf a0)) (hL : SubO L (s.Lf a0)) (hK : SubK K (s.Kf a0))
  (hh : hops.toList = [{ dst := some tc, op := .binOp .lss y1 (.tmp s.ti) (.tmp tn) y2, type := y3, pos := p1, after := e1, guard := none }])
  (hg : gops.toList = [{ dst := some ts, op := .binOp .add y4 (.tmp s.ti) (.const (.int .i64 1)) y5, type := y6, pos := p2, after := e2, guard := none }, { dst := some s.ti, op := .move (.tmp ts), type := y7, pos := p3, after := e3, guard := none }])
  (hBC : Nat.beq B C = false) (hc : Nat.blt tc N = true) (hs : Nat.blt ts N = true) (ht : Nat.blt s.ti N = true)
  (hn : ∀ a i, lk (s.at i a) tn = some (.int .i64 (n : Int)))
  (d1 : ∀ a, lk (s.mf a ++ s.kept) s.ti = none) (d2 : ∀ a i, lk (s.at i a) tc = none) (d3 : ∀ a i, lk (s.at i a) ts = none)
  (hb : ∀ i a, i < n -> s.I i a -> WS E fid N body (s.at i a) (s.Lf a) (s.Kf a) (rangeQ N s i B C Q))
  (he : ∀ a, s.I n a -> QS N .normal (s.mf a ++ s.kept) (s.Lf a) (s.Kf a) Q) :
  WS E fid N (.loop (.seq (.region h hops false) (.seq (.cond (.tmp tc) .skip (.exit B)) (.seq (.block C body) (.region g gops false))))) l L K (blockQ B Q) := by
 have hp := pick_sub hpk
 refine WS.loop (D := Nat × A) (fun d => s.at d.1 d.2) (fun d => s.Lf d.2) (fun d => s.Kf d.2) (fun d => d.1 <= n /\ s.I d.1 d.2) (fun d => n + 1 - d.1) (0, a0) ⟨Nat.zero_le _, h0⟩ (Sub.cons hi (hm.app hp)) hL hK ?_
 rintro ⟨i, a⟩ ⟨hin, hI⟩
 dsimp only at hin hI ⊢
 refine WS.seq (WS.region ?_)
 rw [hh]
 have hti : lk (s.at i a) s.ti = some (.int .i64 (i : Int)) := by
  simp only [RSt.at, lk]
  have : Nat.beq s.ti s.ti = true := Nat.beq_refl _
  rw [this]; rfl
 refine OS.do rfl (OD.bin (v := .bool (decide (i < n))) hc hti (hn a i) (by
  rw [<- lt_dec]; rfl) (OS.nil (QS.seqN ?_)))
 refine WS.seq (WS.condD (p := i < n) (inst := inferInstance) (by simp [lk]) (fun hlt => ?_) (fun hge => ?_))
 ·refine WS.skip (QS.seqN (WS.seq ?_))
  intro tm st hF
  have hF0 : Fa N (s.at i a) (s.Lf a) (s.Kf a) tm st := hF.sub (fun j v hv => by
   have : ∀ (b : AV), lk ((tc, b) :: s.at i a) j = some v := fun b => Sub.over (d2 a i) j v hv
   simp only [lk]
   cases hb : Nat.beq tc j with
   | true =>
    have hj := Nat.eq_of_beq_eq_true hb
    subst hj
    rw [d2 a i] at hv; cases hv
   | false => exact hv) (.refl _) (.refl _)
  refine W.block ((hb i a hlt hI tm st hF0).mono fun e tm' st' hq => ?_)
  rcases hq with ⟨he', a', hI', hF'⟩ | ⟨rfl, hq⟩ | ⟨⟨j, rfl, hj1, hj2⟩, hq⟩ | ⟨rfl, hq⟩
  ·have key : seqQ E fid (.region g gops false) (loopQ (loopS N (fun d : Nat × A => s.at d.1 d.2) (fun d => s.Lf d.2) (fun d => s.Kf d.2) (fun d => d.1 <= n /\ s.I d.1 d.2) (fun d => n + 1 - d.1)) (n + 1 - i) (blockQ B Q)) .normal tm' st' := by
    refine seqQ.normal ?_
    have hW : WS E fid N (.region g gops false) (s.at i a') (s.Lf a') (s.Kf a') (loopQ (loopS N (fun d : Nat × A => s.at d.1 d.2) (fun d => s.Lf d.2) (fun d => s.Kf d.2) (fun d => d.1 <= n /\ s.I d.1 d.2) (fun d => n + 1 - d.1)) (n + 1 - i) (blockQ B Q)) := by
     refine WS.region ?_
     rw [hg]
     have hti' : lk (s.at i a') s.ti = some (.int .i64 (i : Int)) := by
      simp only [RSt.at, lk]
      have : Nat.beq s.ti s.ti = true := Nat.beq_refl _
      rw [this]; rfl
     have hw : IntKind.i64.wrap ((i : Int) + 1) = ((i + 1 : Nat) : Int) := wrap_succ (by omega)
     refine OS.do rfl (OD.bin (b := .int .i64 1) (v := .int .i64 ((i + 1 : Nat) : Int)) hs hti' rfl (by rw [<- hw]; rfl) ?_)
     refine OS.do rfl (OD.auto (v := .int .i64 ((i + 1 : Nat) : Int)) ht (by
      have : Nat.beq ts ts = true := Nat.beq_refl _
      simp only [quietS, evL, lk, this, cond_true]) (OS.nil ?_))
     refine QS.loopN (i + 1, a') ⟨by dsimp only; omega, hI'⟩ (by dsimp only; omega) ?_ (.refl _) (.refl _)
     dsimp only
     refine Sub.under ?_
     have e1 : Abs.Sub ((ts, AV.int .i64 ((i + 1 : Nat) : Int)) :: s.at i a') (s.at i a') := Sub.over (d3 a' i)
     exact e1.trans (Sub.over (d1 a'))
    exact hW tm' st' hF'
   rcases he' with rfl | rfl
   ·exact blockQ.normal key
   ·exact blockQ.here key
  ·exact blockQ.exit hBC (seqQ.exit (loopQ.exit (blockQ.here hq)))
  ·exact blockQ.exit (by
    cases hb : Nat.beq j C with
    | true => exact absurd (Nat.eq_of_beq_eq_true hb) hj1
    | false => rfl) (seqQ.exit (loopQ.exit (blockQ.exit (by
     cases hb : Nat.beq j B with
     | true => exact absurd (Nat.eq_of_beq_eq_true hb) hj2
     | false => rfl) hq)))
  ·exact blockQ.ret (seqQ.ret (loopQ.ret (blockQ.ret hq)))
 ·refine WS.exit (QS.seqE (QS.loopE (QS.blockH ?_)))
  have hie : i = n := by omega
  subst hie
  intro tm st hF
  refine he a hI tm st (hF.sub (fun j v hv => ?_) (.refl _) (.refl _))
  have h1 : lk (s.at i a) j = some v := Sub.over (d1 a) j v hv
  simp only [lk]
  cases hb : Nat.beq tc j with
  | true =>
   have hj := Nat.eq_of_beq_eq_true hb
   subst hj
   rw [d2 a i] at h1; cases h1
  | false => exact h1
theorem WS.loopK {D : Type} {c : Code} {kept : List (Nat × AV)} (ids : List Nat) (hpk : pickF l ids = some kept) (mf : D -> List (Nat × AV)) (Lf : D -> List (Nat × AObj)) (Kf : D -> List (Nat × Bool)) (p : D -> Prop) (m : D -> Nat) (d0 : D) (h0 : p d0) (hm : Abs.Sub l (mf d0)) (hL : SubO L (Lf d0)) (hK : SubK K (Kf d0))
  (hb : ∀ d, p d -> WS E fid N c (mf d ++ kept) (Lf d) (Kf d) (loopQ (loopS N (fun d => mf d ++ kept) Lf Kf p m) (m d) Q)) : WS E fid N (.loop c) l L K Q :=
 WS.loop (fun d => mf d ++ kept) Lf Kf p m d0 h0 (hm.app (pick_sub hpk)) hL hK hb
variable {pol : Nat -> Nat} {ops : Array Oper} {o : Oper} {r : List Oper} {i : Nat} {d : Nat} {ty : TypeId} {pos : String} {after : Array Edge} {guard : Option (Nat × Bool)}
theorem OD.makeMapN {t kt et : TypeId} {y : Ty} {x : Operand} {kd : IntKind} {n : Int} (hn : Nat.blt d N = true) (hx : evL l x = some (.int kd n)) (ht : E.ty t = some y) (hd : y.d = .map kt et) (k : ∀ b, OS E false pol ops r (i + 1) N ((d, .map b) :: l) ((b, .map kt et []) :: L) K Q) :
  OD E false pol ops { dst := some d, op := .makeMap t (some x), type := ty, pos := pos, after := after, guard := guard } r i N l L K Q := by
 refine .loud rfl rfl (fun _ h => by cases h) fun tm st hF => ⟨.map st.next, st.new (.map kt et []), _, _, _, ?_, (hF.new _).put hn _, k st.next⟩
 have : Abs.loud E noCall (pol i) tm st { dst := some d, op := .makeMap t (some x), type := ty, pos := pos, after := after, guard := guard } = (match E.ty t, evalO tm x with | some ty, .int _ _ => (match ty.d with | .map kt et => some (.map st.next, st.new (.map kt et [])) | _ => none) | _, _ => none) := rfl
 rw [this, ht, hF.ev hx]
 dsimp only
 rw [hd]
end
section
variable {E : Env} {fid N : Nat} {l : List (Nat × AV)} {L : List (Nat × AObj)} {K : List (Nat × Bool)} {Q : AExit -> TM -> St -> Prop}
theorem WS.rangeX {A : Type} {B C h g tc tn ts n : Nat} {hops gops : Array Oper} {body : Code} {y1 y2 y3 y4 y5 y6 y7 : TypeId} {p1 p2 p3 : String} {e1 e2 e3 : Array Edge} (s : RSt A) (a0 : A)
  (ids : List Nat) (h0 : s.I 0 a0)
  (hb : ∀ i a, i < n -> s.I i a -> WS E fid N body (s.at i a) (s.Lf a) (s.Kf a) (rangeQ N s i B C Q))
  (he : ∀ a, s.I n a -> QS N .normal (s.mf a ++ s.kept) (s.Lf a) (s.Kf a) Q)
  (hpk : pickF l ids = some s.kept := by rfl) (hn63 : n <= 9223372036854775806 := by omega) (hi : lk l s.ti = some (.int .i64 ((0 : Nat) : Int)) := by rfl) (hm : Abs.Sub l (s.mf a0) := by (try dsimp only); repeat' (first | exact Sub.nil _ | refine Sub.cons (congrArg (fun z => some (AV.int .i64 z)) (wrap_succ (by omega))) ?_ | refine Sub.cons rfl ?_)) (hL : SubO L (s.Lf a0) := by (try dsimp only); repeat' (first | exact SubO.nil _ | exact SubO.refl _ | refine SubO.keep ?_ | refine SubO.drop ?_)) (hK : SubK K (s.Kf a0) := by (try dsimp only); repeat' (first | exact SubK.nil _ | exact SubK.refl _ | refine SubK.keep (by simp) ?_ | refine SubK.new ?_ | refine SubK.drop ?_))
  (hh : hops.toList = [{ dst := some tc, op := .binOp .lss y1 (.tmp s.ti) (.tmp tn) y2, type := y3, pos := p1, after := e1, guard := none }] := by rfl)
  (hg : gops.toList = [{ dst := some ts, op := .binOp .add y4 (.tmp s.ti) (.const (.int .i64 1)) y5, type := y6, pos := p2, after := e2, guard := none }, { dst := some s.ti, op := .move (.tmp ts), type := y7, pos := p3, after := e3, guard := none }] := by rfl)
  (hBC : Nat.beq B C = false := by rfl) (hc : Nat.blt tc N = true := by rfl) (hs : Nat.blt ts N = true := by rfl) (ht : Nat.blt s.ti N = true := by rfl)
  (hn : ∀ a i, lk (s.at i a) tn = some (.int .i64 (n : Int)) := by intros; rfl)
  (d1 : ∀ a, lk (s.mf a ++ s.kept) s.ti = none := by intros; rfl) (d2 : ∀ a i, lk (s.at i a) tc = none := by intros; rfl) (d3 : ∀ a i, lk (s.at i a) ts = none := by intros; rfl) :
  WS E fid N (.loop (.seq (.region h hops false) (.seq (.cond (.tmp tc) .skip (.exit B)) (.seq (.block C body) (.region g gops false))))) l L K (blockQ B Q) :=
 WS.range s a0 ids hpk hn63 h0 hi hm hL hK hh hg hBC hc hs ht hn d1 d2 d3 hb he
theorem QS.rangeX {A : Type} {s : RSt A} {i B C : Nat} (a : A) (hI : s.I (i + 1) a) (hl : Abs.Sub l (s.at i a) := by (try dsimp only [RSt.at, List.cons_append, List.nil_append]); repeat' (first | exact Sub.nil _ | refine Sub.cons (congrArg (fun z => some (AV.int .i64 z)) (wrap_succ (by omega))) ?_ | refine Sub.cons rfl ?_)) (hL : SubO L (s.Lf a) := by (try dsimp only); repeat' (first | exact SubO.nil _ | exact SubO.refl _ | refine SubO.keep ?_ | refine SubO.drop ?_)) (hK : SubK K (s.Kf a) := by (try dsimp only); repeat' (first | exact SubK.nil _ | exact SubK.refl _ | refine SubK.keep (by simp) ?_ | refine SubK.new ?_ | refine SubK.drop ?_)) : QS N .normal l L K (rangeQ N s i B C Q) :=
 QS.rangeN a hI hl hL hK
theorem WS.loopX {D : Type} {c : Code} {kept : List (Nat × AV)} (ids : List Nat) (mf : D -> List (Nat × AV)) (Lf : D -> List (Nat × AObj)) (Kf : D -> List (Nat × Bool)) (p : D -> Prop) (m : D -> Nat) (d0 : D) (h0 : p d0)
  (hb : ∀ d, p d -> WS E fid N c (mf d ++ kept) (Lf d) (Kf d) (loopQ (loopS N (fun d => mf d ++ kept) Lf Kf p m) (m d) Q))
  (hpk : pickF l ids = some kept := by rfl) (hm : Abs.Sub l (mf d0) := by (try dsimp only); repeat' (first | exact Sub.nil _ | refine Sub.cons (congrArg (fun z => some (AV.int .i64 z)) (wrap_succ (by omega))) ?_ | refine Sub.cons rfl ?_)) (hL : SubO L (Lf d0) := by (try dsimp only); repeat' (first | exact SubO.nil _ | exact SubO.refl _ | refine SubO.keep ?_ | refine SubO.drop ?_)) (hK : SubK K (Kf d0) := by (try dsimp only); repeat' (first | exact SubK.nil _ | exact SubK.refl _ | refine SubK.keep (by simp) ?_ | refine SubK.new ?_ | refine SubK.drop ?_)) : WS E fid N (.loop c) l L K Q :=
 WS.loopK ids hpk mf Lf Kf p m d0 h0 hm hL hK hb
theorem QS.loopX {D : Type} {lf : D -> List (Nat × AV)} {Lf : D -> List (Nat × AObj)} {Kf : D -> List (Nat × Bool)} {p : D -> Prop} {m : D -> Nat} {k : Nat} (d : D) (hp : p d) (hm : m d < k) (hl : Abs.Sub l (lf d) := by (try dsimp only [List.cons_append, List.nil_append]); repeat' (first | exact Sub.nil _ | refine Sub.cons (congrArg (fun z => some (AV.int .i64 z)) (wrap_succ (by omega))) ?_ | refine Sub.cons rfl ?_)) (hL : SubO L (Lf d) := by (try dsimp only); repeat' (first | exact SubO.nil _ | exact SubO.refl _ | refine SubO.keep ?_ | refine SubO.drop ?_)) (hK : SubK K (Kf d) := by (try dsimp only); repeat' (first | exact SubK.nil _ | exact SubK.refl _ | refine SubK.keep (by simp) ?_ | refine SubK.new ?_ | refine SubK.drop ?_)) : QS N .normal l L K (loopQ (loopS N lf Lf Kf p m) k Q) :=
 QS.loopN d hp hm hl hL hK
end
end Go.Abs
namespace Go.NetM
def notB (b : UInt8) : UInt8 := if 1 < b.toNat then 2 else 1 - b
def andB (a b : UInt8) : UInt8 := if a = 0 \/ b = 0 then 0 else if a = 1 /\ b = 1 then 1 else 2
def ofL (v : List UInt8) (lit : Int) : UInt8 := if lit % 2 = 1 then notB (v.getD (lit / 2).toNat 0) else v.getD (lit / 2).toNat 0
def gatesM (v0 : List UInt8) (gs : List (Int × Int)) : List UInt8 := gs.foldl (fun v g => v ++ [andB (ofL v g.1) (ofL v g.2)]) v0
def allB (gs : List (Int × Int)) (ins regs : List UInt8) : List UInt8 := gatesM (0 :: (ins ++ regs)) gs
def litsB (gs : List (Int × Int)) (ins regs : List UInt8) (ls : List Int) : List UInt8 := ls.map (ofL (allB gs ins regs))
theorem gatesM_len : ∀ (gs : List (Int × Int)) (v : List UInt8), (gatesM v gs).length = v.length + gs.length
 | [], v => by simp [gatesM]
 | g :: gs, v => by
  have := gatesM_len gs (v ++ [andB (ofL v g.1) (ofL v g.2)])
  simp only [gatesM, List.foldl_cons, List.length_append, List.length_cons, List.length_nil] at this ⊢
  rw [this]; omega
theorem litsB_len {gs : List (Int × Int)} {ins regs : List UInt8} {ls : List Int} : (litsB gs ins regs ls).length = ls.length := List.length_map _
def leB (a b : UInt8) : Prop := a = b \/ b = 2
theorem leB.refl (a : UInt8) : leB a a := .inl rfl
theorem andB_zero (a b : UInt8) (h : a = 0 \/ b = 0) : andB a b = 0 := by unfold andB; rw [if_pos h]
def leL (v w : List UInt8) : Prop := v.length = w.length /\ ∀ i, leB (v.getD i 0) (w.getD i 0)
theorem leL.refl (v : List UInt8) : leL v v := ⟨rfl, fun _ => .refl _⟩
theorem getD_append {v : List UInt8} {l : List UInt8} {i : Nat} : (v ++ l).getD i 0 = if i < v.length then v.getD i 0 else l.getD (i - v.length) 0 := by
 simp only [List.getD_eq_getElem?_getD]
 split
 ·rw [List.getElem?_append_left (by assumption)]
 ·rw [List.getElem?_append_right (by omega)]
def le2 (l : List UInt8) : Bool := l.all fun b => decide (b.toNat <= 2)
theorem not_le2 {b : UInt8} (h : b.toNat <= 2) : (notB b).toNat <= 2 := by
 unfold notB
 split
 ·decide
 ·have : b = 0 \/ b = 1 := by
   rcases Nat.lt_or_ge b.toNat 1 with k | k
   ·left; exact UInt8.toNat_inj.1 (by simpa using by omega)
   ·right; exact UInt8.toNat_inj.1 (by simpa using by omega)
  rcases this with rfl | rfl <;> decide
theorem and_le2 (a b : UInt8) : (andB a b).toNat <= 2 := by
 unfold andB
 split
 ·decide
 ·split <;> decide
theorem getD_le2 {l : List UInt8} (h : le2 l = true) (i : Nat) : (l.getD i 0).toNat <= 2 := by
 rw [List.getD_eq_getElem?_getD]
 by_cases hi : i < l.length
 ·rw [List.getElem?_eq_getElem hi]
  have := List.all_eq_true.1 h _ (List.getElem_mem hi)
  simpa using this
 ·rw [List.getElem?_eq_none (by omega)]; decide
theorem ofL_le2 {l : List UInt8} (h : le2 l = true) (m : Int) : (ofL l m).toNat <= 2 := by
 unfold ofL
 split
 ·exact not_le2 (getD_le2 h _)
 ·exact getD_le2 h _
theorem le2_app {v w : List UInt8} (h : le2 v = true) (k : le2 w = true) : le2 (v ++ w) = true := by
 unfold le2 at *
 rw [List.all_append, h, k]; rfl
theorem gatesM_le2 : ∀ (gs : List (Int × Int)) {v : List UInt8}, le2 v = true -> le2 (gatesM v gs) = true
 | [], _, h => h
 | g :: gs, v, h => by
  simp only [gatesM, List.foldl_cons]
  exact gatesM_le2 gs (le2_app h (by simp only [le2, List.all_cons, List.all_nil, Bool.and_true, decide_eq_true_eq]; exact and_le2 _ _))
theorem allB_le2 {gs : List (Int × Int)} {i r : List UInt8} (h : le2 i = true) (k : le2 r = true) : le2 (allB gs i r) = true :=
 gatesM_le2 gs (le2_app (v := [0]) (by decide) (le2_app h k))
def downB (s b : UInt8) : UInt8 := if s ≠ 2 /\ s ≠ b then 2 else s
def downM (gs : List (Int × Int)) (nins : Nat) (next : List Int) (S : List UInt8) : List UInt8 := List.zipWith downB S (litsB gs (List.replicate nins 2) S next)
def sinkM (gs : List (Int × Int)) (nins : Nat) (next : List Int) : Nat -> List UInt8 -> List UInt8
 | 0, S => S
 | n + 1, S => if downM gs nins next S = S then S else sinkM gs nins next n (downM gs nins next S)
def knownN (S : List UInt8) : Nat := (S.filter fun b => decide (¬ b = 2)).length
theorem down_len {gs : List (Int × Int)} {nins : Nat} {next : List Int} {S : List UInt8} (h : S.length = next.length) : (downM gs nins next S).length = S.length := by
 unfold downM
 rw [List.length_zipWith, litsB_len, h, Nat.min_self]
theorem knownN_zip : ∀ (S L : List UInt8), L.length = S.length -> knownN (List.zipWith downB S L) <= knownN S /\ (List.zipWith downB S L ≠ S -> knownN (List.zipWith downB S L) < knownN S)
 | [], [], _ => by simp [knownN]
 | [], _ :: _, h => by simp at h
 | _ :: _, [], h => by simp at h
 | s :: S, l :: L, h => by
  obtain ⟨i1, i2⟩ := knownN_zip S L (by simpa using h)
  simp only [List.zipWith_cons_cons]
  unfold knownN at *
  by_cases hs : s = 2
  ·subst hs
   have : downB 2 l = 2 := by simp [downB]
   rw [this]
   simp only [List.filter_cons, ne_eq, not_true_eq_false, decide_false, Bool.false_eq_true, if_false]
   exact ⟨i1, fun k => i2 fun e => k (by rw [e])⟩
  ·by_cases hl : s = l
   ·have : downB s l = s := by simp [downB, hl]
    rw [this]
    simp only [List.filter_cons, ne_eq, hs, not_false_eq_true, decide_true, if_true, List.length_cons]
    exact ⟨by omega, fun k => by have := i2 fun e => k (by rw [e]); omega⟩
   ·have : downB s l = 2 := by simp [downB, hl, hs]
    rw [this]
    simp only [List.filter_cons, ne_eq, hs, not_true_eq_false, not_false_eq_true, decide_true, decide_false, Bool.false_eq_true, if_true, if_false, List.length_cons]
    exact ⟨by omega, fun _ => by omega⟩
theorem sink_fix {gs : List (Int × Int)} {nins : Nat} {next : List Int} : ∀ (n : Nat) (S : List UInt8), S.length = next.length -> knownN S <= n -> downM gs nins next (sinkM gs nins next n S) = sinkM gs nins next n S /\ (sinkM gs nins next n S).length = next.length
 | 0, S, h, hk => by
  simp only [sinkM]
  refine ⟨?_, h⟩
  by_cases e : downM gs nins next S = S
  ·exact e
  ·have := (knownN_zip S (litsB gs (List.replicate nins 2) S next) (by rw [litsB_len, h])).2 e
   omega
 | n + 1, S, h, hk => by
  simp only [sinkM]
  split
  ·rename_i e; exact ⟨e, h⟩
  ·rename_i e
   have := (knownN_zip S (litsB gs (List.replicate nins 2) S next) (by rw [litsB_len, h])).2 e
   refine sink_fix n _ (by rw [down_len h, h]) ?_
   show knownN (List.zipWith downB S _) <= n
   omega
def stuckM (gs : List (Int × Int)) (nins : Nat) (next : List Int) (init : List UInt8) : List UInt8 := sinkM gs nins next init.length init
theorem knownN_le (S : List UInt8) : knownN S <= S.length := List.length_filter_le _ _
end Go.NetM
namespace Go.NetM
end Go.NetM
namespace Go.OptEnv
open Go Go.Proofs Go.Abs Go.RowKit Go.NetM
set_option maxRecDepth 10000
abbrev Rel := List AV -> AV -> Prop
structure Has (pr : Prims) (f : FuncId) (Rl : Rel) : Prop where
 eq : pr f = some (primOf Rl)
 uniq : ∀ a r r', Rl a r -> Rl a r' -> r = r'
 free : ∀ a r, Rl a r -> AV.freeL a = true
theorem Has.use {pr : Prims} {f : FuncId} {Rl : Rel} (h : Has pr f Rl) {args : List AV} {r : AV} (hr : Rl (AV.plainL args) r) (st : St) : primOf Rl args st = some (r, st) := primOf_eq h.uniq hr st
theorem Has.view {pr : Prims} {f : FuncId} {Rl : Rel} (h : Has pr f Rl) {args a : List AV} {r : AV} {st : St} (hv : mapO (viewA st 9) args = some a) (hr : Rl a r) (hs : AV.scal r = true) : primOf Rl args st = some (r, st) := primOf_view h.uniq h.free hv hr hs
theorem Good.add {pr : Prims} (h : Good pr) {f : FuncId} {Rl : Rel} (hc : Con2 (En pr) f Rl) (he : ∀ (w : World) (vargs : Array Value), (callFunc f vargs).run Tryz.prog w = .ok (.enter f vargs) w) : Good (addP pr f (primOf Rl)) :=
 h.addT fun B w0 => hc.does (En_ok pr) h.ok he B w0
theorem Has.of {pr pr' : Prims} {f : FuncId} {Rl : Rel} (hc : Con2 (En pr) f Rl) (h : pr' f = some (primOf Rl)) : Has pr' f Rl := ⟨h, hc.uniq, hc.free⟩
def RelF {D : Type} (dom : D -> Prop) (args : D -> List AV) (res : D -> AV) : Rel := fun a x => ∃ d, dom d /\ a = args d /\ x = res d
theorem con_of {pr : Prims} {f : FuncId} {D : Type} {dom : D -> Prop} {args : D -> List AV} {res : D -> AV} (hf : ∀ d, AV.freeL (args d) = true) (hr : ∀ d, dom d -> ∀ st, CW (En pr) f (args d) st fun x _ => AV.free x = true /\ AV.plain x = res d) : Con2 (En pr) f (RelF dom args res) :=
 ⟨by rintro a x ⟨d, _, rfl, rfl⟩; exact hf d, by
  rintro a x ⟨d, hd, rfl, rfl⟩
  exact (hr d hd _).mono fun y st ⟨h1, h2⟩ => ⟨y, st, freeze_free h1, h2, h1⟩⟩
theorem con_ofz {pr : Prims} {f : FuncId} {D : Type} {dom : D -> Prop} {args : D -> List AV} {res : D -> AV} (hf : ∀ d, AV.freeL (args d) = true) (hr : ∀ d, dom d -> ∀ st, CW (En pr) f (args d) st fun x st' => ∃ r' st2, freezeA st' x = some (r', st2) /\ AV.plain r' = res d /\ AV.free r' = true) : Con2 (En pr) f (RelF dom args res) :=
 ⟨by rintro a x ⟨d, _, rfl, rfl⟩; exact hf d, by
  rintro a x ⟨d, hd, rfl, rfl⟩
  exact hr d hd _⟩
theorem con_eq {pr : Prims} {f : FuncId} {D : Type} {dom : D -> Prop} {args : D -> List AV} {res : D -> AV} (hf : ∀ d, AV.freeL (args d) = true) (hs : ∀ d, AV.free (res d) = true /\ AV.plain (res d) = res d) (hr : ∀ d, dom d -> ∀ st, CW (En pr) f (args d) st fun x _ => x = res d) : Con2 (En pr) f (RelF dom args res) :=
 con_of hf fun d hd st => (hr d hd st).mono fun y _ e => by
  subst e
  exact hs d
def bitAV (b : UInt8) : AV := .int .u8 b.toNat
def intAV (n : Int) : AV := .int .i64 n
def strAV (s : ByteArray) : AV := .str s
theorem bit_plain (b : UInt8) : AV.plain (bitAV b) = bitAV b := rfl
theorem bit_free (b : UInt8) : AV.free (bitAV b) = true := rfl
theorem int_plain (b : Int) : AV.plain (intAV b) = intAV b := rfl
theorem int_free (b : Int) : AV.free (intAV b) = true := rfl
theorem str_plain (s : ByteArray) : AV.plain (strAV s) = strAV s := rfl
theorem str_free (s : ByteArray) : AV.free (strAV s) = true := rfl
structure GReg where
 name : ByteArray
 init : UInt8
 next : Int
def regAV (r : GReg) : AV := .agg [.str r.name, bitAV r.init, .int .i64 r.next]
structure GPin where
 name : ByteArray
 lit : Int
def pinAV (p : GPin) : AV := .agg [.str p.name, .int .i64 p.lit]
def gateAV (g : Int × Int) : AV := .agg [.int .i64 g.1, .int .i64 g.2]
theorem reg_plain (r : GReg) : AV.plain (regAV r) = regAV r := rfl
theorem reg_free (r : GReg) : AV.free (regAV r) = true := rfl
theorem pin_plain (r : GPin) : AV.plain (pinAV r) = pinAV r := rfl
theorem pin_free (r : GPin) : AV.free (pinAV r) = true := rfl
theorem gate_plain (r : Int × Int) : AV.plain (gateAV r) = gateAV r := rfl
theorem gate_free (r : Int × Int) : AV.free (gateAV r) = true := rfl
structure GNet where
 ins : GSl ByteArray
 regs : GSl GReg
 gates : GSl (Int × Int)
 outs : GSl GPin
def netAV (n : GNet) : AV := .agg [n.ins.av 1 strAV, n.regs.av 3 regAV, n.gates.av 2 gateAV, n.outs.av 2 pinAV]
theorem av_cellOk {α : Type} (sz : Nat) (f : α -> AV) (s : GSl α) : (s.av sz f).cellOk = true := by
 rcases s.cases f sz with ⟨_, h | h⟩ | h <;> rw [h] <;> rfl
theorem net_ok (n : GNet) : (netAV n).ok = true := by simp [netAV, AV.ok, av_cellOk]
theorem net_plain (n : GNet) : AV.plain (netAV n) = netAV n := by simp [netAV, AV.plain, AV.plainL, plain_av str_plain, plain_av reg_plain, plain_av gate_plain, plain_av pin_plain]
theorem net_free (n : GNet) : AV.free (netAV n) = true := by simp [netAV, AV.free, AV.freeL, free_av str_free, free_av reg_free, free_av gate_free, free_av pin_free]
def Fit64 (n : Int) : Prop := -9223372036854775808 <= n /\ n < 9223372036854775808
structure FitsN (n : GNet) : Prop where
 ins : n.ins.xs.length <= 140737488355328
 regs : n.regs.xs.length <= 140737488355328
 gates : n.gates.xs.length <= 140737488355328
 outs : n.outs.xs.length <= 140737488355328
 insN : ∀ s ∈ n.ins.xs, s.size <= 140737488355328
 regsN : ∀ r ∈ n.regs.xs, r.name.size <= 140737488355328
 outsN : ∀ r ∈ n.outs.xs, r.name.size <= 140737488355328
 gatesF : ∀ g ∈ n.gates.xs, Fit64 g.1 /\ Fit64 g.2
 regsF : ∀ r ∈ n.regs.xs, Fit64 r.next
 outsF : ∀ r ∈ n.outs.xs, Fit64 r.lit
theorem roomB {et : Ty} {n : Nat} (hb : Nat.ble et.bytes 100 = true) (h : n <= 1000000000000) : roomA et n = true := by
 have hb := Nat.le_of_ble_eq_true hb
 have : n * et.bytes <= 1000000000000 * 100 := Nat.mul_le_mul h hb
 simp [roomA]; omega
theorem data_inj {a b : ByteArray} (h : a.data.toList = b.data.toList) : a = b := by
 obtain ⟨⟨x⟩⟩ := a
 obtain ⟨⟨y⟩⟩ := b
 simp at h
 rw [h]
theorem str_beq (a b : ByteArray) : (a.toList == b.toList) = decide (a = b) := by
 rw [ByteArray.toList_eq, ByteArray.toList_eq]
 by_cases h : a = b
 ·subst h; simp
 ·have : a.data.toList ≠ b.data.toList := fun k => h (data_inj k)
  rw [decide_eq_false h]
  exact beq_eq_false_iff_ne.2 this
theorem size_data (s : ByteArray) : s.data.toList.length = s.size := by simp
def byteOk (b : UInt8) : Bool := decide (33 <= b.toNat /\ b.toNat <= 126)
def nameOk (s : ByteArray) : Bool := decide (1 <= s.size /\ s.size <= 100) && s.data.toList.all byteOk
def namesM (l : List ByteArray) : Bool := decide (l.length <= 500) && l.all nameOk && decide l.Nodup
def litOk (l : Int) (k : Int) : Bool := decide (0 <= l /\ l < 2 * k)
def gatesOk (k : Int) : List (Int × Int) -> Bool
 | [] => true
 | g :: r => litOk g.1 k && litOk g.2 k && gatesOk (k + 1) r
theorem gatesOk_snoc : ∀ (l : List (Int × Int)) (k : Int) (g : Int × Int), gatesOk k (l ++ [g]) = (gatesOk k l && (litOk g.1 (k + l.length) && litOk g.2 (k + l.length)))
 | [], k, g => by simp [gatesOk]
 | h :: r, k, g => by
  simp only [List.cons_append, gatesOk, gatesOk_snoc r (k + 1) g, List.length_cons]
  rw [show k + 1 + (r.length : Int) = k + ((r.length + 1 : Nat) : Int) by omega]
  simp only [Bool.and_assoc]
theorem gatesOk_take {l : List (Int × Int)} {k : Int} {i : Nat} (h : i < l.length) : gatesOk k (l.take (i + 1)) = (gatesOk k (l.take i) && (litOk l[i].1 (k + i) && litOk l[i].2 (k + i))) := by
 rw [List.take_succ_eq_append_getElem h, gatesOk_snoc, List.length_take, Nat.min_eq_left (by omega)]
theorem gatesOk_app : ∀ (a b : List (Int × Int)) (k : Int), gatesOk k (a ++ b) = true -> gatesOk k a = true
 | [], _, _, _ => rfl
 | g :: a, b, k, h => by
  simp only [List.cons_append, gatesOk, Bool.and_eq_true] at h ⊢
  exact ⟨h.1, gatesOk_app a b _ h.2⟩
theorem gatesOk_bad {l : List (Int × Int)} {k : Int} {i : Nat} (h : i < l.length) (hb : (litOk l[i].1 (k + i) && litOk l[i].2 (k + i)) = false) : gatesOk k l = false := by
 apply Bool.eq_false_iff.2
 intro hc
 rw [<- List.take_append_drop (i + 1) l] at hc
 have := gatesOk_app _ _ _ hc
 rw [gatesOk_take h, hb, Bool.and_false] at this
 cases this
def GNet.first (n : GNet) : Int := 1 + n.ins.xs.length + n.regs.xs.length
def GNet.nodes (n : GNet) : Int := n.first + n.gates.xs.length
def validM (n : GNet) : Bool := decide (n.gates.xs.length <= 20000) && namesM n.ins.xs && namesM (n.regs.xs.map (·.name)) && namesM (n.outs.xs.map (·.name)) && gatesOk n.first n.gates.xs &&
 (n.regs.xs.all fun r => decide (r.init.toNat <= 2)) && (n.regs.xs.all fun r => litOk r.next n.nodes) && (n.outs.xs.all fun p => litOk p.lit n.nodes)
structure ValidN (n : GNet) : Prop where
 gatesN : n.gates.xs.length <= 20000
 ins : namesM n.ins.xs = true
 regs : namesM (n.regs.xs.map (·.name)) = true
 outs : namesM (n.outs.xs.map (·.name)) = true
 gates : gatesOk n.first n.gates.xs = true
 inits : (n.regs.xs.all fun r => decide (r.init.toNat <= 2)) = true
 nexts : (n.regs.xs.all fun r => litOk r.next n.nodes) = true
 lits : (n.outs.xs.all fun p => litOk p.lit n.nodes) = true
theorem validM_iff {n : GNet} : validM n = true ↔ ValidN n := by
 unfold validM
 simp only [Bool.and_eq_true, decide_eq_true_eq]
 exact ⟨fun ⟨⟨⟨⟨⟨⟨⟨a, b⟩, c⟩, d⟩, e⟩, f⟩, g⟩, h⟩ => ⟨a, b, c, d, e, f, g, h⟩, fun ⟨a, b, c, d, e, f, g, h⟩ => ⟨⟨⟨⟨⟨⟨⟨a, b⟩, c⟩, d⟩, e⟩, f⟩, g⟩, h⟩⟩
theorem valid_no {n : GNet} (h : ValidN n -> False) : validM n = false := Bool.eq_false_iff.2 fun k => h (validM_iff.1 k)
theorem names_len {l : List ByteArray} (h : namesM l = true) : l.length <= 500 := by
 simp only [namesM, Bool.and_eq_true, decide_eq_true_eq] at h; exact h.1.1
theorem all_get {α : Type} {l : List α} {f : α -> Bool} (h : l.all f = true) {i : Nat} (hi : i < l.length) : f l[i] = true := List.all_eq_true.1 h _ (List.getElem_mem hi)
theorem map_take_succ {α β : Type} {l : List α} {f : α -> β} {i : Nat} (h : i < l.length) : (l.take (i + 1)).map f = (l.take i).map f ++ [f l[i]] := by
 rw [List.take_succ_eq_append_getElem h, List.map_append]; rfl
theorem and_f1 {a b : Bool} (h : a = false) : (a && b) = false := by rw [h]; rfl
theorem and_f2 {a b : Bool} (h : b = false) : (a && b) = false := by rw [h, Bool.and_false]
theorem and_t {a b : Bool} (h : a = true) (k : b = true) : (a && b) = true := by rw [h, k]; rfl
theorem not_false_true {b : Bool} (h : b = true) (k : b = false) : False := by rw [h] at k; cases k
theorem nodup_take_succ {α : Type} {l : List α} {i : Nat} (h : i < l.length) (h1 : (l.take i).Nodup) (h2 : l[i] ∉ l.take i) : (l.take (i + 1)).Nodup := by
 rw [List.take_succ_eq_append_getElem h, List.nodup_append]
 refine ⟨h1, by simp, fun a ha b hb => ?_⟩
 simp only [List.mem_singleton] at hb
 subst hb
 rintro rfl
 exact h2 ha
theorem namesM_len {l : List ByteArray} (h : ¬ l.length <= 500) : namesM l = false := by simp [namesM, h]
theorem namesM_bad {l : List ByteArray} {i : Nat} (h : i < l.length) (hb : nameOk l[i] = false) : namesM l = false := by
 simp [namesM, all_false h hb]
theorem namesM_dup {l : List ByteArray} {i : Nat} (h : i < l.length) (e : l[i] ∈ l.take i) : namesM l = false := by
 have : ¬ l.Nodup := fun k => by
  rw [<- List.take_append_drop i l, List.nodup_append] at k
  exact k.2.2 l[i] e l[i] (by rw [List.drop_eq_getElem_cons h]; exact List.mem_cons_self) rfl
 simp [namesM, this]
theorem namesM_ok {l : List ByteArray} (h : l.length <= 500) (ha : l.all nameOk = true) (hd : l.Nodup) : namesM l = true := by simp [namesM, h, ha, hd]
theorem nameOk_false {s : ByteArray} (h : s.size < 1 \/ 100 < s.size) : nameOk s = false := by
 unfold nameOk
 rw [decide_eq_false (by omega)]; rfl
theorem nameOk_byte {s : ByteArray} {i : Nat} (h : i < s.data.toList.length) (hb : byteOk s.data.toList[i] = false) : nameOk s = false := by
 unfold nameOk
 rw [all_false h hb, Bool.and_false]
theorem nameOk_true {s : ByteArray} (h : 1 <= s.size /\ s.size <= 100) (hb : s.data.toList.all byteOk = true) : nameOk s = true := by
 unfold nameOk
 rw [decide_eq_true h, hb]; rfl
theorem indexA_str {E : Env} {t : TypeId} {y : Ty} {s : ByteArray} {kd : IntKind} {i : Nat} {b : UInt8} (h1 : E.ty t = some y) (h2 : y.d = .string) (hb : s.data.toList[i]? = some b) : indexA E t (.str s) (.int kd (i : Int)) = some (.int .u8 b.toNat) := by
 unfold indexA
 rw [h1]
 dsimp only
 rw [h2]
 dsimp only
 rw [if_pos (by omega)]
 have : s[(i : Int).toNat]? = some b := by
  rw [show (i : Int).toNat = i from rfl]
  rw [Array.getElem?_toList] at hb
  obtain ⟨h, e⟩ := Array.getElem?_eq_some_iff.1 hb
  have hs : i < s.size := h
  rw [getElem?_pos s i hs]
  exact congrArg some e
 rw [this]
end Go.OptEnv
namespace Go.OptEnv
open Go Go.Proofs Go.Abs Go.RowKit Go.NetM
set_option maxRecDepth 10000
attribute [local irreducible] WS QS OS OD Abs.Sub SubO SubK CW
theorem ediv2 {l : Int} (h : 0 <= l) : IntKind.i64.wrap (l.tdiv 2) = l / 2 \/ 9223372036854775808 <= l := by
 rw [Int.tdiv_eq_ediv_of_nonneg h]
 rcases Int.lt_or_le l 9223372036854775808 with k | k
 ·left; exact wrap64 (by omega) (by omega)
 ·right; exact k
def strSl (s : ByteArray) : GSl UInt8 := ⟨none, s.data.toList, fun h => absurd rfl h⟩
section
variable {pr : Prims}
theorem run72 (h : pr 72 = none) (l k : Int) (hl : Fit64 l) (st : St) : CW (En pr) 72 [.int .i64 l, .int .i64 k] st fun r _ => r = .bool (litOk l k) := by
 obtain ⟨h1, h2⟩ := hl
 refine CW.start (N := 13) h rfl rfl ?_
 repeat' (first | (refine OS.do rfl ?_; first | refine OD.auto rfl rfl ?_) | refine OS.nil ?_ | refine OS.skip rfl rfl rfl ?_ | refine WS.seq ?_ | refine QS.seqN ?_ | refine WS.region ?_ | refine WS.ret ?_ | ((fail_if_success (refine OS.do rfl ?_)); first | refine OS.splitD rfl rfl rfl (fun _ => ?_) (fun _ => ?_)))
 all_goals (refine QS.retR (by rfl) fun _ => ?_; show AV.bool _ = _; congr 1; unfold litOk)
 ·have hw : IntKind.i64.wrap (l.tdiv 2) = l / 2 := by
   rcases ediv2 (l := l) (by omega) with k | k
   ·exact k
   ·omega
  rw [hw, decide_eq_decide]
  omega
 ·exact (decide_eq_false (by omega)).symm
theorem run73 (h : pr 73 = none) (n : GNet) (hn : FitsN n) (st : St) : CW (En pr) 73 [netAV n] st fun r _ => r = .int .i64 n.first := by
 obtain ⟨f1, f2, _, _, _, _, _, _, _, _⟩ := hn
 refine CW.start (N := 11) h rfl rfl ?_
 repeat' (first | (refine OS.do rfl ?_; first | refine OD.loadP 0 rfl rfl rfl rfl rfl rfl ?_ | refine OD.auto rfl rfl ?_ | refine OD.len rfl rfl (fun _ => lenTy_av rfl rfl) ?_ | refine OD.box rfl rfl rfl rfl (by first | rfl | exact net_ok _) rfl (fun _ => ?_)) | refine OS.nil ?_ | refine WS.seq ?_ | refine QS.seqN ?_ | refine WS.region ?_ | refine WS.ret ?_)
 all_goals (refine QS.retR (by rfl) fun _ => ?_; show AV.int _ _ = _; congr 1; unfold GNet.first)
 rw [wrap64 (n := 1 + (n.ins.xs.length : Int)) (by omega) (by omega)]
 exact wrap64 (by omega) (by omega)
theorem run70 (h : pr 70 = none) (b : UInt8) (st : St) : CW (En pr) 70 [bitAV b] st fun r _ => r = .bool (decide (b.toNat <= 2)) := by
 refine CW.start (N := 13) h rfl rfl ?_
 repeat' (first | (refine OS.do rfl ?_; first | refine OD.auto rfl rfl ?_) | refine OS.nil ?_ | refine OS.skip rfl rfl rfl ?_ | refine WS.seq ?_ | refine QS.seqN ?_ | refine WS.region ?_ | refine WS.ret ?_ | ((fail_if_success (refine OS.do rfl ?_)); first | refine OS.splitD rfl rfl rfl (fun _ => ?_) (fun _ => ?_)))
 all_goals (refine QS.retR (by rfl) fun _ => ?_; show AV.bool _ = _; congr 1)
 ·exact (decide_eq_true (by omega)).symm
 ·exact (decide_eq_true (by omega)).symm
 ·rw [Bool.eq_iff_iff]; simp only [beq_iff_eq, decide_eq_true_eq]; omega
theorem run114 (h1 : pr 114 = none) (s : ByteArray) (st : St) : CW (En pr) 114 [.str s] st fun r _ => r = .bool (nameOk s) := by
 have hsz := size_data s
 refine CW.start (N := 28) h1 rfl rfl ?_
 repeat' (first | (refine OS.do rfl ?_; first | refine OD.auto rfl rfl ?_ | refine OD.len rfl rfl (fun _ => rfl) ?_) | refine OS.nil ?_ | refine OS.skip rfl rfl rfl ?_ | refine WS.seq ?_ | refine QS.seqN ?_ | refine WS.region ?_ | refine WS.condT rfl ?_ | refine WS.condD rfl (fun _ => ?_) (fun _ => ?_) | refine WS.skip ?_ | refine WS.block ?_ | refine WS.ret ?_ | refine QS.seqR ?_ | ((fail_if_success (refine OS.do rfl ?_)); first | refine OS.splitD rfl rfl rfl (fun _ => ?_) (fun _ => ?_)))
 all_goals try (refine QS.retR (by rfl) fun _ => ?_; rw [nameOk_false (by omega)]; rfl)
 ·refine WS.loop (D := Nat) (fun i => [(0, .str s), (3, .int .i64 i)]) (fun _ => []) (fun _ => [])
   (fun i => i <= s.data.toList.length /\ (s.data.toList.take i).all byteOk = true) (fun i => s.data.toList.length + 1 - i) 0 ⟨by omega, by simp⟩ ?_ (.nil _) (.nil _) ?_
  ·repeat' (first | exact Sub.nil _ | refine Sub.cons (congrArg (fun z => some (AV.int .i64 z)) (wrap_succ (by omega))) ?_ | refine Sub.cons rfl ?_)
  rintro i ⟨hi, ha⟩
  repeat' (first | (refine OS.do rfl ?_; first | refine OD.auto rfl rfl ?_ | refine OD.len rfl rfl (fun _ => rfl) ?_ | refine OD.index rfl rfl rfl (indexA_str rfl rfl (by first | assumption | exact List.getElem?_eq_getElem (by omega))) ?_) | refine OS.nil ?_ | refine OS.skip rfl rfl rfl ?_ | refine WS.seq ?_ | refine QS.seqN ?_ | refine WS.region ?_ | refine WS.condT rfl ?_ | refine WS.condD rfl (fun _ => ?_) (fun _ => ?_) | refine WS.skip ?_ | refine WS.block ?_ | refine WS.ret ?_ | refine QS.seqR ?_ | refine QS.blockR ?_ | refine QS.loopR ?_ | refine QS.blockN ?_ | refine WS.exit ?_ | refine QS.seqE ?_ | refine QS.blockH ?_ | refine QS.loopE ?_ | ((fail_if_success (refine OS.do rfl ?_)); first | refine OS.splitD rfl rfl rfl (fun _ => ?_) (fun _ => ?_)))
  all_goals first
   | (refine QS.loopN (i + 1) ⟨by omega, all_take_succ (by omega) ha (decide_eq_true (by omega))⟩ (by omega) ?_ (.nil _) (.nil _); repeat' (first | exact Sub.nil _ | refine Sub.cons (congrArg (fun z => some (AV.int .i64 z)) (wrap_succ (by omega))) ?_ | refine Sub.cons rfl ?_))
   | (refine QS.retR (by rfl) fun _ => ?_; rw [nameOk_true (by omega) (all_of_take (by omega) ha)]; rfl)
   | (refine QS.retR (by rfl) fun _ => ?_; rw [nameOk_byte (i := i) (by omega) (decide_eq_false (by omega))]; rfl)
theorem run128 (h1 : pr 128 = none) (s : ByteArray) (hs : s.size <= 140737488355328) (st : St) : CW (En pr) 128 [.str s] st fun r _ => r = .bool (nameOk s) := by
 have hsz := size_data s
 refine CW.start (N := 27) h1 rfl rfl ?_
 repeat' (first | (refine OS.do rfl ?_; first | refine OD.auto rfl rfl ?_ | refine OD.len rfl rfl (fun _ => rfl) ?_) | refine OS.nil ?_ | refine WS.seq ?_ | refine QS.seqN ?_ | refine WS.region ?_ | refine WS.block ?_)
 have e1 : AV.vs 1 Own.any (bytesA s) = (strSl s).av 1 bitAV := rfl
 have e2 : (bytesA s).length = s.data.toList.length := by simp [bytesA]
 simp only [e1, e2]
 refine WS.rangeX (A := Unit) (n := s.data.toList.length) ⟨8, _, fun _ => [], fun _ => [], fun _ => [], fun i _ => (s.data.toList.take i).all byteOk = true⟩ (()) [0, 6, 7] (by simp) ?_ ?_
 ·rintro i _ hi ha
  dsimp only at ha
  dsimp only [RSt.at, List.cons_append, List.nil_append]
  have hi' : i < (strSl s).xs.length := hi
  repeat' (first | (refine OS.do rfl ?_; first | refine OD.auto rfl rfl ?_ | refine OD.indexAddr rfl rfl rfl (indexAddrA_nat rfl rfl rfl rfl (by first | assumption | exact List.getElem?_eq_getElem (by omega))) ?_) | refine OS.nil ?_ | refine OS.skip rfl rfl rfl ?_ | refine WS.seq ?_ | refine QS.seqN ?_ | refine WS.region ?_ | refine WS.condT rfl ?_ | refine WS.condD rfl (fun _ => ?_) (fun _ => ?_) | refine WS.skip ?_ | refine WS.ret ?_ | refine QS.seqR ?_ | refine QS.rangeR ?_ | ((fail_if_success (refine OS.do rfl ?_)); first | refine OS.splitD rfl rfl rfl (fun _ => ?_) (fun _ => ?_)))
  all_goals first
   | (exact QS.rangeX (()) (by (try dsimp only) <;> exact (all_take_succ hi ha (decide_eq_true (by simp only [strSl] at *; omega)))))
   | (refine QS.retR (by rfl) fun _ => ?_; rw [nameOk_byte (i := i) hi (decide_eq_false (by simp only [strSl] at *; omega))]; rfl)
 ·rintro _ ha
  dsimp only at ha
  dsimp only [RSt.at, List.cons_append, List.nil_append]
  rw [List.take_of_length_le (Nat.le_refl _)] at ha
  repeat' (first | (refine OS.do rfl ?_; first | refine OD.auto rfl rfl ?_ | refine OD.len rfl rfl (fun _ => rfl) ?_) | refine OS.nil ?_ | refine OS.skip rfl rfl rfl ?_ | refine WS.seq ?_ | refine QS.seqN ?_ | refine WS.region ?_ | refine WS.ret ?_ | ((fail_if_success (refine OS.do rfl ?_)); first | refine OS.splitD rfl rfl rfl (fun _ => ?_) (fun _ => ?_)))
  all_goals (refine QS.retR (by rfl) fun _ => ?_; show AV.bool _ = _; congr 1; unfold nameOk; rw [ha, Bool.and_true])
  ·rw [decide_eq_decide]; omega
  ·exact (decide_eq_false (by omega)).symm
end
end Go.OptEnv
namespace Go.OptEnv
open Go Go.Proofs Go.Abs Go.RowKit Go.NetM
set_option maxRecDepth 10000
attribute [local irreducible] WS QS OS OD Abs.Sub SubO SubK CW
def Rel103 : Rel := RelF (fun _ => True) (fun s : ByteArray => [.str s]) fun s => .str s
def Rel105 : Rel := RelF (fun _ => True) (fun s : GReg => [regAV s]) fun s => .str s.name
def Rel107 : Rel := RelF (fun _ => True) (fun s : GPin => [pinAV s]) fun s => .str s.name
def Rel128 : Rel := RelF (fun s : ByteArray => s.size <= 140737488355328) (fun s => [.str s]) fun s => .bool (nameOk s)
def Rel114 : Rel := RelF (fun _ : ByteArray => True) (fun s => [.str s]) fun s => .bool (nameOk s)
def Rel70 : Rel := RelF (fun _ : UInt8 => True) (fun s => [bitAV s]) fun b => .bool (decide (b.toNat <= 2))
def Rel72 : Rel := RelF (fun p : Int × Int => Fit64 p.1) (fun p => [.int .i64 p.1, .int .i64 p.2]) fun p => .bool (litOk p.1 p.2)
def Rel73 : Rel := RelF FitsN (fun n => [netAV n]) fun n => .int .i64 n.first
def ents (l : List ByteArray) : List (AV × AV) := l.map fun s => (.str s, .bool true)
section
variable {pr : Prims}
theorem con72 (h : pr 72 = none) : Con2 (En pr) 72 Rel72 := con_eq (fun _ => rfl) (fun _ => ⟨rfl, rfl⟩) fun d hd st => run72 h d.1 d.2 hd st
theorem con73 (h : pr 73 = none) : Con2 (En pr) 73 Rel73 := con_eq (fun d => by simp [AV.freeL, net_free]) (fun _ => ⟨rfl, rfl⟩) fun d hd st => run73 h d hd st
theorem con70 (h : pr 70 = none) : Con2 (En pr) 70 Rel70 := con_eq (fun _ => rfl) (fun _ => ⟨rfl, rfl⟩) fun d hd st => run70 h d st
theorem con114 (h : pr 114 = none) : Con2 (En pr) 114 Rel114 := con_eq (fun _ => rfl) (fun _ => ⟨rfl, rfl⟩) fun d hd st => run114 h d st
theorem con128 (h : pr 128 = none) : Con2 (En pr) 128 Rel128 := con_eq (fun _ => rfl) (fun _ => ⟨rfl, rfl⟩) fun d hd st => run128 h d hd st
theorem run103 (h : pr 103 = none) (s : ByteArray) (st : St) : CW (En pr) 103 [.str s] st fun r _ => r = .str s := by
 refine CW.start (N := 4) h rfl rfl ?_
 repeat' (first | (refine OS.do rfl ?_; first | refine OD.auto rfl rfl ?_) | refine OS.nil ?_ | refine WS.seq ?_ | refine QS.seqN ?_ | refine WS.region ?_ | refine WS.ret ?_)
 all_goals (refine QS.retR (by rfl) fun _ => ?_; rfl)
theorem run105 (h : pr 105 = none) (s : GReg) (st : St) : CW (En pr) 105 [regAV s] st fun r _ => r = .str s.name := by
 refine CW.start (N := 5) h rfl rfl ?_
 repeat' (first | (refine OS.do rfl ?_; first | refine OD.loadP 0 rfl rfl rfl rfl rfl rfl ?_ | refine OD.auto rfl rfl ?_ | refine OD.box rfl rfl rfl rfl (by first | rfl | exact net_ok _) rfl (fun _ => ?_)) | refine OS.nil ?_ | refine WS.seq ?_ | refine QS.seqN ?_ | refine WS.region ?_ | refine WS.ret ?_)
 all_goals (refine QS.retR (by rfl) fun _ => ?_; rfl)
theorem run107 (h : pr 107 = none) (s : GPin) (st : St) : CW (En pr) 107 [pinAV s] st fun r _ => r = .str s.name := by
 refine CW.start (N := 5) h rfl rfl ?_
 repeat' (first | (refine OS.do rfl ?_; first | refine OD.loadP 0 rfl rfl rfl rfl rfl rfl ?_ | refine OD.auto rfl rfl ?_ | refine OD.box rfl rfl rfl rfl (by first | rfl | exact net_ok _) rfl (fun _ => ?_)) | refine OS.nil ?_ | refine WS.seq ?_ | refine QS.seqN ?_ | refine WS.region ?_ | refine WS.ret ?_)
 all_goals (refine QS.retR (by rfl) fun _ => ?_; rfl)
theorem con103 (h : pr 103 = none) : Con2 (En pr) 103 Rel103 := con_eq (fun _ => rfl) (fun _ => ⟨rfl, rfl⟩) fun d _ st => run103 h d st
theorem con105 (h : pr 105 = none) : Con2 (En pr) 105 Rel105 := con_eq (fun _ => rfl) (fun _ => ⟨rfl, rfl⟩) fun d _ st => run105 h d st
theorem con107 (h : pr 107 = none) : Con2 (En pr) 107 Rel107 := con_eq (fun _ => rfl) (fun _ => ⟨rfl, rfl⟩) fun d _ st => run107 h d st
theorem find_no {s : ByteArray} : ∀ (l : List ByteArray) (i : Nat), s ∉ l -> findA (eqA (En pr) 20 9) (.str s) (ents l) i = some none
 | [], _, _ => rfl
 | x :: l, i, h => by
  simp only [List.mem_cons, not_or] at h
  have e : eqA (En pr) 20 9 (.str s) (.str x) = some (decide (s = x)) := rfl
  simp only [ents, List.map_cons, findA, e, decide_eq_false h.1]
  exact find_no l (i + 1) h.2
theorem find_yes {s : ByteArray} : ∀ (l : List ByteArray) (i : Nat), s ∈ l -> ∃ j, findA (eqA (En pr) 20 9) (.str s) (ents l) i = some (some (j, .bool true))
 | [], _, h => by cases h
 | x :: l, i, h => by
  have e : eqA (En pr) 20 9 (.str s) (.str x) = some (decide (s = x)) := rfl
  by_cases hx : s = x
  ·exact ⟨i, by simp only [ents, List.map_cons, findA, e, decide_eq_true hx]⟩
  ·simp only [List.mem_cons, hx, false_or] at h
   obtain ⟨j, hj⟩ := find_yes l (i + 1) h
   exact ⟨j, by simp only [ents, List.map_cons, findA, e, decide_eq_false hx]; exact hj⟩
def memB (s : ByteArray) (l : List ByteArray) : Bool := l.any fun x => decide (s = x)
theorem memB_yes {s : ByteArray} {l : List ByteArray} (h : memB s l = true) : s ∈ l := by
 simp only [memB, List.any_eq_true, decide_eq_true_eq] at h
 obtain ⟨x, h1, rfl⟩ := h; exact h1
theorem memB_no {s : ByteArray} {l : List ByteArray} (h : memB s l = false) : s ∉ l := fun k => by
 have : memB s l = true := by simp only [memB, List.any_eq_true, decide_eq_true_eq]; exact ⟨s, k, rfl⟩
 rw [h] at this; cases this
theorem look_ents {s : ByteArray} {l : List ByteArray} {b : Nat} {st : St} (hst : st.get b = some (.map 9 4 (ents l))) : lookTy (En pr) st 57 false (.map b) (.str s) = some (.bool (memB s l)) := by
 have e : lookTy (En pr) st 57 false (.map b) (.str s) = (match st.get b with
   | some (.map kt' et' es) =>
    if kt' = 9 /\ et' = 4 then
     match findA (eqA (En pr) 20 9) (.str s) es 0 with
     | some (some (_, v)) => some (if false then .tup [v, .bool true] else v)
     | some none => some (if false then .tup [.bool false, .bool false] else .bool false)
     | none => none
    else none
   | _ => none) := rfl
 rw [e, hst]
 dsimp only
 rw [if_pos ⟨rfl, rfl⟩]
 cases h : memB s l with
 | true =>
  obtain ⟨j, hj⟩ := find_yes (pr := pr) l 0 (memB_yes h)
  rw [hj]; rfl
 | false => rw [find_no l 0 (memB_no h)]; rfl
theorem put_ents {s : ByteArray} {l : List ByteArray} {b : Nat} {st : St} (hs : s ∉ l) (hst : st.get b = some (.map 9 4 (ents l))) : mapPutA (En pr) st ty9 9 4 b (.str s) (.bool true) = some (st.put b (.map 9 4 (ents (l ++ [s])))) := by
 unfold mapPutA
 rw [hst]
 dsimp only
 rw [if_pos ⟨rfl, rfl, rfl, rfl, rfl⟩, find_no l 0 hs]
 simp [ents]
theorem run102 (h1 : pr 102 = none) (h103 : Has pr 103 Rel103) (h128 : Has pr 128 Rel128) (l : GSl ByteArray) (hl : l.xs.length <= 140737488355328) (hn : ∀ x ∈ l.xs, (id x).size <= 140737488355328) (st : St) : CW (En pr) 102 [l.av 1 strAV, .fn 103 [] []] st fun r _ => r = .bool (namesM (l.xs.map id)) := by
 have hml : (l.xs.map id).length = l.xs.length := by simp
 refine CW.start (N := 35) h1 rfl rfl ?_
 repeat' (first | (refine OS.do rfl ?_; first | refine OD.auto rfl rfl ?_ | refine OD.len rfl rfl (fun _ => lenTy_av rfl rfl) ?_ | refine OD.makeMapN rfl rfl rfl rfl (fun _ => ?_)) | refine OS.nil ?_ | refine WS.seq ?_ | refine QS.seqN ?_ | refine WS.region ?_ | refine WS.condD rfl (fun _ => ?_) (fun _ => ?_) | refine WS.skip ?_ | refine WS.block ?_ | refine WS.ret ?_ | refine QS.seqR ?_)
 all_goals try (refine QS.retR (by rfl) fun _ => ?_; rw [namesM_len (by omega)]; rfl)
 rename_i hlen b
 refine WS.rangeX (A := List ByteArray) (n := l.xs.length) ⟨17, _, fun _ => [], fun a => [(b, .map 9 4 (ents a))], fun _ => [], fun i a => a = (l.xs.map id).take i /\ a.all nameOk = true /\ a.Nodup⟩ ([]) [1, 5, 15, 16] (⟨by simp, rfl, List.nodup_nil⟩) ?_ ?_
 ·rintro i a hi ⟨he, ha, hd⟩
  have hmi : (l.xs.map id)[i]'(by omega) = id l.xs[i] := by simp
  have ht : (l.xs.map id).take (i + 1) = a ++ [id l.xs[i]] := by rw [List.take_succ_eq_append_getElem (by omega), he, hmi]
  dsimp only [RSt.at, List.cons_append, List.nil_append]
  repeat' (first | (refine OS.do rfl ?_; first | refine OD.auto rfl rfl ?_ | refine OD.indexAddr rfl rfl rfl (indexAddrA_nat rfl rfl rfl rfl (by first | assumption | exact List.getElem?_eq_getElem (by omega))) ?_ | refine OD.call rfl rfl rfl h103.eq (h103.use ⟨_, trivial, rfl, rfl⟩) (fun _ => rfl) ?_ | refine OD.call rfl rfl rfl h128.eq (h128.use ⟨id l.xs[i], hn _ (List.getElem_mem hi), rfl, rfl⟩) (fun _ => rfl) ?_ | refine OD.lookup 0 rfl rfl rfl rfl (fun st hst => look_ents hst) ?_ | refine OD.mapUpdate 0 rfl rfl rfl rfl rfl rfl rfl (fun st hst => put_ents (memB_no (by assumption)) hst) ?_) | refine OS.nil ?_ | refine OS.skip rfl rfl rfl ?_ | refine WS.seq ?_ | refine QS.seqN ?_ | refine WS.region ?_ | refine WS.condT rfl ?_ | refine WS.skip ?_ | refine WS.ret ?_ | refine QS.seqR ?_ | refine QS.rangeR ?_ | refine WS.condB rfl (fun _ => ?_) (fun _ => ?_) | ((fail_if_success (refine OS.do rfl ?_)); first | refine OS.splitN rfl rfl rfl (fun _ => ?_) (fun _ => ?_)))
  all_goals try (refine QS.retR (by rfl) fun _ => ?_; rw [namesM_bad (i := i) (by omega) (by rw [hmi]; assumption)]; rfl)
  all_goals try (refine QS.retR (by rfl) fun _ => ?_; rw [namesM_dup (i := i) (by omega) (by rw [hmi, <- he]; exact memB_yes (by assumption))]; rfl)
  exact QS.rangeX (a ++ [id l.xs[i]]) (by (try dsimp only) <;> exact (⟨ht.symm, by rw [List.all_append, ha]; simp only [List.all_cons, List.all_nil, Bool.and_true, Bool.true_and]; assumption, by rw [List.nodup_append]; exact ⟨hd, by simp, fun x hx y hy => by rw [List.mem_singleton] at hy; subst hy; rintro rfl; exact memB_no (by assumption) hx⟩⟩))
 ·rintro a ⟨he, ha, hd⟩
  dsimp only [RSt.at, List.cons_append, List.nil_append]
  rw [List.take_of_length_le (by omega)] at he
  subst he
  repeat' (first | (refine OS.do rfl ?_; first | refine OD.auto rfl rfl ?_) | refine OS.nil ?_ | refine WS.seq ?_ | refine QS.seqN ?_ | refine WS.region ?_ | refine WS.ret ?_)
  all_goals (refine QS.retR (by rfl) fun _ => ?_; rw [namesM_ok (by omega) ha hd]; rfl)
theorem run104 (h1 : pr 104 = none) (h105 : Has pr 105 Rel105) (h128 : Has pr 128 Rel128) (l : GSl GReg) (hl : l.xs.length <= 140737488355328) (hn : ∀ x ∈ l.xs, (GReg.name x).size <= 140737488355328) (st : St) : CW (En pr) 104 [l.av 3 regAV, .fn 105 [] []] st fun r _ => r = .bool (namesM (l.xs.map GReg.name)) := by
 have hml : (l.xs.map GReg.name).length = l.xs.length := by simp
 refine CW.start (N := 35) h1 rfl rfl ?_
 repeat' (first | (refine OS.do rfl ?_; first | refine OD.auto rfl rfl ?_ | refine OD.len rfl rfl (fun _ => lenTy_av rfl rfl) ?_ | refine OD.makeMapN rfl rfl rfl rfl (fun _ => ?_)) | refine OS.nil ?_ | refine WS.seq ?_ | refine QS.seqN ?_ | refine WS.region ?_ | refine WS.condD rfl (fun _ => ?_) (fun _ => ?_) | refine WS.skip ?_ | refine WS.block ?_ | refine WS.ret ?_ | refine QS.seqR ?_)
 all_goals try (refine QS.retR (by rfl) fun _ => ?_; rw [namesM_len (by omega)]; rfl)
 rename_i hlen b
 refine WS.rangeX (A := List ByteArray) (n := l.xs.length) ⟨17, _, fun _ => [], fun a => [(b, .map 9 4 (ents a))], fun _ => [], fun i a => a = (l.xs.map GReg.name).take i /\ a.all nameOk = true /\ a.Nodup⟩ ([]) [1, 5, 15, 16] (⟨by simp, rfl, List.nodup_nil⟩) ?_ ?_
 ·rintro i a hi ⟨he, ha, hd⟩
  have hmi : (l.xs.map GReg.name)[i]'(by omega) = GReg.name l.xs[i] := by simp
  have ht : (l.xs.map GReg.name).take (i + 1) = a ++ [GReg.name l.xs[i]] := by rw [List.take_succ_eq_append_getElem (by omega), he, hmi]
  dsimp only [RSt.at, List.cons_append, List.nil_append]
  repeat' (first | (refine OS.do rfl ?_; first | refine OD.loadP 0 rfl rfl rfl rfl rfl rfl ?_ | refine OD.auto rfl rfl ?_ | refine OD.indexAddr rfl rfl rfl (indexAddrA_nat rfl rfl rfl rfl (by first | assumption | exact List.getElem?_eq_getElem (by omega))) ?_ | refine OD.alloc rfl rfl rfl rfl (fun _ => ?_) | refine OD.storeW 0 rfl rfl rfl rfl (by first | rfl | exact net_ok _) rfl rfl rfl ?_ | refine OD.call rfl rfl rfl h105.eq (h105.use ⟨_, trivial, rfl, rfl⟩) (fun _ => rfl) ?_ | refine OD.call rfl rfl rfl h128.eq (h128.use ⟨GReg.name l.xs[i], hn _ (List.getElem_mem hi), rfl, rfl⟩) (fun _ => rfl) ?_ | refine OD.lookup 1 rfl rfl rfl rfl (fun st hst => look_ents hst) ?_ | refine OD.mapUpdate 1 rfl rfl rfl rfl rfl rfl rfl (fun st hst => put_ents (memB_no (by assumption)) hst) ?_) | refine OS.nil ?_ | refine OS.skip rfl rfl rfl ?_ | refine WS.seq ?_ | refine QS.seqN ?_ | refine WS.region ?_ | refine WS.condT rfl ?_ | refine WS.skip ?_ | refine WS.ret ?_ | refine QS.seqR ?_ | refine QS.rangeR ?_ | refine WS.condB rfl (fun _ => ?_) (fun _ => ?_) | ((fail_if_success (refine OS.do rfl ?_)); first | refine OS.splitN rfl rfl rfl (fun _ => ?_) (fun _ => ?_)))
  all_goals try (refine QS.retR (by rfl) fun _ => ?_; rw [namesM_bad (i := i) (by omega) (by rw [hmi]; assumption)]; rfl)
  all_goals try (refine QS.retR (by rfl) fun _ => ?_; rw [namesM_dup (i := i) (by omega) (by rw [hmi, <- he]; exact memB_yes (by assumption))]; rfl)
  exact QS.rangeX (a ++ [GReg.name l.xs[i]]) (by (try dsimp only) <;> exact (⟨ht.symm, by rw [List.all_append, ha]; simp only [List.all_cons, List.all_nil, Bool.and_true, Bool.true_and]; assumption, by rw [List.nodup_append]; exact ⟨hd, by simp, fun x hx y hy => by rw [List.mem_singleton] at hy; subst hy; rintro rfl; exact memB_no (by assumption) hx⟩⟩))
 ·rintro a ⟨he, ha, hd⟩
  dsimp only [RSt.at, List.cons_append, List.nil_append]
  rw [List.take_of_length_le (by omega)] at he
  subst he
  repeat' (first | (refine OS.do rfl ?_; first | refine OD.auto rfl rfl ?_) | refine OS.nil ?_ | refine WS.seq ?_ | refine QS.seqN ?_ | refine WS.region ?_ | refine WS.ret ?_)
  all_goals (refine QS.retR (by rfl) fun _ => ?_; rw [namesM_ok (by omega) ha hd]; rfl)
theorem run106 (h1 : pr 106 = none) (h107 : Has pr 107 Rel107) (h128 : Has pr 128 Rel128) (l : GSl GPin) (hl : l.xs.length <= 140737488355328) (hn : ∀ x ∈ l.xs, (GPin.name x).size <= 140737488355328) (st : St) : CW (En pr) 106 [l.av 2 pinAV, .fn 107 [] []] st fun r _ => r = .bool (namesM (l.xs.map GPin.name)) := by
 have hml : (l.xs.map GPin.name).length = l.xs.length := by simp
 refine CW.start (N := 35) h1 rfl rfl ?_
 repeat' (first | (refine OS.do rfl ?_; first | refine OD.auto rfl rfl ?_ | refine OD.len rfl rfl (fun _ => lenTy_av rfl rfl) ?_ | refine OD.makeMapN rfl rfl rfl rfl (fun _ => ?_)) | refine OS.nil ?_ | refine WS.seq ?_ | refine QS.seqN ?_ | refine WS.region ?_ | refine WS.condD rfl (fun _ => ?_) (fun _ => ?_) | refine WS.skip ?_ | refine WS.block ?_ | refine WS.ret ?_ | refine QS.seqR ?_)
 all_goals try (refine QS.retR (by rfl) fun _ => ?_; rw [namesM_len (by omega)]; rfl)
 rename_i hlen b
 refine WS.rangeX (A := List ByteArray) (n := l.xs.length) ⟨17, _, fun _ => [], fun a => [(b, .map 9 4 (ents a))], fun _ => [], fun i a => a = (l.xs.map GPin.name).take i /\ a.all nameOk = true /\ a.Nodup⟩ ([]) [1, 5, 15, 16] (⟨by simp, rfl, List.nodup_nil⟩) ?_ ?_
 ·rintro i a hi ⟨he, ha, hd⟩
  have hmi : (l.xs.map GPin.name)[i]'(by omega) = GPin.name l.xs[i] := by simp
  have ht : (l.xs.map GPin.name).take (i + 1) = a ++ [GPin.name l.xs[i]] := by rw [List.take_succ_eq_append_getElem (by omega), he, hmi]
  dsimp only [RSt.at, List.cons_append, List.nil_append]
  repeat' (first | (refine OS.do rfl ?_; first | refine OD.loadP 0 rfl rfl rfl rfl rfl rfl ?_ | refine OD.auto rfl rfl ?_ | refine OD.indexAddr rfl rfl rfl (indexAddrA_nat rfl rfl rfl rfl (by first | assumption | exact List.getElem?_eq_getElem (by omega))) ?_ | refine OD.alloc rfl rfl rfl rfl (fun _ => ?_) | refine OD.storeW 0 rfl rfl rfl rfl (by first | rfl | exact net_ok _) rfl rfl rfl ?_ | refine OD.call rfl rfl rfl h107.eq (h107.use ⟨_, trivial, rfl, rfl⟩) (fun _ => rfl) ?_ | refine OD.call rfl rfl rfl h128.eq (h128.use ⟨GPin.name l.xs[i], hn _ (List.getElem_mem hi), rfl, rfl⟩) (fun _ => rfl) ?_ | refine OD.lookup 1 rfl rfl rfl rfl (fun st hst => look_ents hst) ?_ | refine OD.mapUpdate 1 rfl rfl rfl rfl rfl rfl rfl (fun st hst => put_ents (memB_no (by assumption)) hst) ?_) | refine OS.nil ?_ | refine OS.skip rfl rfl rfl ?_ | refine WS.seq ?_ | refine QS.seqN ?_ | refine WS.region ?_ | refine WS.condT rfl ?_ | refine WS.skip ?_ | refine WS.ret ?_ | refine QS.seqR ?_ | refine QS.rangeR ?_ | refine WS.condB rfl (fun _ => ?_) (fun _ => ?_) | ((fail_if_success (refine OS.do rfl ?_)); first | refine OS.splitN rfl rfl rfl (fun _ => ?_) (fun _ => ?_)))
  all_goals try (refine QS.retR (by rfl) fun _ => ?_; rw [namesM_bad (i := i) (by omega) (by rw [hmi]; assumption)]; rfl)
  all_goals try (refine QS.retR (by rfl) fun _ => ?_; rw [namesM_dup (i := i) (by omega) (by rw [hmi, <- he]; exact memB_yes (by assumption))]; rfl)
  exact QS.rangeX (a ++ [GPin.name l.xs[i]]) (by (try dsimp only) <;> exact (⟨ht.symm, by rw [List.all_append, ha]; simp only [List.all_cons, List.all_nil, Bool.and_true, Bool.true_and]; assumption, by rw [List.nodup_append]; exact ⟨hd, by simp, fun x hx y hy => by rw [List.mem_singleton] at hy; subst hy; rintro rfl; exact memB_no (by assumption) hx⟩⟩))
 ·rintro a ⟨he, ha, hd⟩
  dsimp only [RSt.at, List.cons_append, List.nil_append]
  rw [List.take_of_length_le (by omega)] at he
  subst he
  repeat' (first | (refine OS.do rfl ?_; first | refine OD.auto rfl rfl ?_) | refine OS.nil ?_ | refine WS.seq ?_ | refine QS.seqN ?_ | refine WS.region ?_ | refine WS.ret ?_)
  all_goals (refine QS.retR (by rfl) fun _ => ?_; rw [namesM_ok (by omega) ha hd]; rfl)
def Rel102 : Rel := RelF (fun l : GSl ByteArray => l.xs.length <= 140737488355328 /\ ∀ x ∈ l.xs, x.size <= 140737488355328) (fun l => [l.av 1 strAV, .fn 103 [] []]) fun l => .bool (namesM (l.xs.map id))
def Rel104 : Rel := RelF (fun l : GSl GReg => l.xs.length <= 140737488355328 /\ ∀ x ∈ l.xs, x.name.size <= 140737488355328) (fun l => [l.av 3 regAV, .fn 105 [] []]) fun l => .bool (namesM (l.xs.map GReg.name))
def Rel106 : Rel := RelF (fun l : GSl GPin => l.xs.length <= 140737488355328 /\ ∀ x ∈ l.xs, x.name.size <= 140737488355328) (fun l => [l.av 2 pinAV, .fn 107 [] []]) fun l => .bool (namesM (l.xs.map GPin.name))
theorem con102 (h : pr 102 = none) (h103 : Has pr 103 Rel103) (h128 : Has pr 128 Rel128) : Con2 (En pr) 102 Rel102 := con_eq (fun d => by simp [AV.freeL, AV.free, free_av str_free]) (fun _ => ⟨rfl, rfl⟩) fun d hd st => run102 h h103 h128 d hd.1 hd.2 st
theorem con104 (h : pr 104 = none) (h105 : Has pr 105 Rel105) (h128 : Has pr 128 Rel128) : Con2 (En pr) 104 Rel104 := con_eq (fun d => by simp [AV.freeL, AV.free, free_av reg_free]) (fun _ => ⟨rfl, rfl⟩) fun d hd st => run104 h h105 h128 d hd.1 hd.2 st
theorem con106 (h : pr 106 = none) (h107 : Has pr 107 Rel107) (h128 : Has pr 128 Rel128) : Con2 (En pr) 106 Rel106 := con_eq (fun d => by simp [AV.freeL, AV.free, free_av pin_free]) (fun _ => ⟨rfl, rfl⟩) fun d hd st => run106 h h107 h128 d hd.1 hd.2 st
end
end Go.OptEnv
namespace Go.OptEnv
open Go Go.Proofs Go.Abs Go.RowKit Go.NetM
set_option maxRecDepth 10000
attribute [local irreducible] WS QS OS OD Abs.Sub SubO SubK CW GSl.av accA
theorem three {b : UInt8} (h : b.toNat <= 2) : b = 0 \/ b = 1 \/ b = 2 := by
 have h1 : b.toNat = 0 \/ b.toNat = 1 \/ b.toNat = 2 := by omega
 rcases h1 with h | h | h
 ·exact .inl (UInt8.toNat_inj.1 (by rw [h]; rfl))
 ·exact .inr (.inl (UInt8.toNat_inj.1 (by rw [h]; rfl)))
 ·exact .inr (.inr (UInt8.toNat_inj.1 (by rw [h]; rfl)))
section
variable {pr : Prims}
theorem run71 (h1 : pr 71 = none) (h114 : Has pr 114 Rel114) (l : GSl ByteArray) (st : St) : CW (En pr) 71 [l.av 1 strAV] st fun r _ => r = .bool (namesM l.xs) := by
 refine CW.start (N := 34) h1 rfl rfl ?_
 repeat' (first | (refine OS.do rfl ?_; first | refine OD.auto rfl rfl ?_ | refine OD.len rfl rfl (fun _ => lenTy_av rfl rfl) ?_) | refine OS.nil ?_ | refine WS.seq ?_ | refine QS.seqN ?_ | refine WS.region ?_ | refine WS.condD rfl (fun _ => ?_) (fun _ => ?_) | refine WS.skip ?_ | refine WS.block ?_ | refine WS.ret ?_ | refine QS.seqR ?_)
 all_goals try (refine QS.retR (by rfl) fun _ => ?_; rw [namesM_len (by omega)]; rfl)
 rename_i hlen
 refine WS.rangeX (A := Unit) (n := l.xs.length) ⟨10, _, fun _ => [], fun _ => [], fun _ => [], fun i _ => (l.xs.take i).all nameOk = true /\ (l.xs.take i).Nodup⟩ (()) [0, 9] (⟨by simp, by simp⟩) ?_ ?_
 ·rintro i _ hi ⟨ha, hd⟩
  try dsimp only at ha hd
  dsimp only [RSt.at, List.cons_append, List.nil_append]
  repeat' (first | (refine OS.do rfl ?_; first | refine OD.auto rfl rfl ?_ | refine OD.indexAddr rfl rfl rfl (indexAddrA_nat rfl rfl rfl rfl (by first | assumption | exact List.getElem?_eq_getElem (by omega))) ?_ | refine OD.call rfl rfl rfl h114.eq (h114.use ⟨_, trivial, rfl, rfl⟩) (fun _ => rfl) ?_) | refine OS.nil ?_ | refine WS.seq ?_ | refine QS.seqN ?_ | refine WS.region ?_ | refine WS.skip ?_ | refine WS.block ?_ | refine WS.ret ?_ | refine QS.seqR ?_ | refine QS.rangeR ?_ | refine WS.condN rfl (fun _ => ?_) (fun _ => ?_))
  all_goals try (refine QS.retR (by rfl) fun _ => ?_; rw [namesM_bad (i := i) (by omega) (by assumption)]; rfl)
  rename_i hok
  refine WS.loopX (D := Nat) [0, 3, 9, 10] (fun j => [(4, .int .i64 j)]) (fun _ => []) (fun _ => []) (fun j => j <= i /\ l.xs[i] ∉ l.xs.take j) (fun j => i + 1 - j) (0) (⟨by omega, by simp⟩) ?_
  rintro j ⟨hj, hm⟩
  dsimp only [RSt.at, List.cons_append, List.nil_append]
  repeat' (first | (refine OS.do rfl ?_; first | refine OD.auto rfl rfl ?_ | refine OD.indexAddr rfl rfl rfl (indexAddrA_nat rfl rfl rfl rfl (by first | assumption | exact List.getElem?_eq_getElem (by omega))) ?_) | refine OS.nil ?_ | refine WS.seq ?_ | refine QS.seqN ?_ | refine WS.region ?_ | refine WS.condD rfl (fun _ => ?_) (fun _ => ?_) | refine WS.skip ?_ | refine WS.block ?_ | refine WS.ret ?_ | refine QS.seqR ?_ | refine QS.blockR ?_ | refine QS.loopR ?_ | refine QS.blockN ?_ | refine WS.exit ?_ | refine QS.seqE ?_ | refine QS.blockH ?_ | refine QS.loopE ?_ | refine WS.draw rfl rfl ?_ | refine QS.rangeR ?_ | refine WS.condB rfl (fun _ => ?_) (fun _ => ?_))
  ·rename_i heq
   refine QS.retR (by rfl) fun _ => ?_
   rw [str_beq] at heq
   rw [namesM_dup (i := i) (by omega) (by rw [<- of_decide_eq_true heq, List.mem_take_iff_getElem]; exact ⟨j, by omega, rfl⟩)]; rfl
  ·rename_i hne
   rw [str_beq] at hne
   exact QS.loopX (j + 1) (by exact (⟨by omega, by rw [List.take_succ_eq_append_getElem (by omega), List.mem_append, not_or]; exact ⟨hm, by simpa using Ne.symm (of_decide_eq_false hne)⟩⟩)) (by exact (by omega))
  ·have hji : j = i := by omega
   subst hji
   exact QS.rangeX (()) (by (try dsimp only) <;> exact (⟨all_take_succ hi ha hok, nodup_take_succ hi hd hm⟩))
 ·rintro _ ⟨ha, hd⟩
  try dsimp only at ha hd
  dsimp only [RSt.at, List.cons_append, List.nil_append]
  rw [List.take_of_length_le (Nat.le_refl _)] at ha hd
  repeat' (first | (refine OS.do rfl ?_; first | refine OD.auto rfl rfl ?_) | refine OS.nil ?_ | refine WS.seq ?_ | refine QS.seqN ?_ | refine WS.region ?_ | refine WS.ret ?_)
  all_goals (refine QS.retR (by rfl) fun _ => ?_; rw [namesM_ok (by omega) ha hd]; rfl)
end
end Go.OptEnv
namespace Go.OptEnv
open Go Go.Proofs Go.Abs Go.RowKit Go.NetM
set_option maxRecDepth 10000
attribute [local irreducible] WS QS OS OD Abs.Sub SubO SubK CW GSl.av accA
def Rel71 : Rel := RelF (fun _ : GSl ByteArray => True) (fun l => [l.av 1 strAV]) fun l => .bool (namesM l.xs)
section
variable {pr : Prims}
theorem con71 (h : pr 71 = none) (h114 : Has pr 114 Rel114) : Con2 (En pr) 71 Rel71 := con_eq (fun d => by simp [AV.freeL, free_av str_free]) (fun _ => ⟨rfl, rfl⟩) fun d _ st => run71 h h114 d st
theorem use72 (h : Has pr 72 Rel72) {l k : Int} (hl : Fit64 l) (st : St) : primOf Rel72 [.int .i64 l, .int .i64 k] st = some (.bool (litOk l k), st) := h.use ⟨(l, k), hl, rfl, rfl⟩ st
theorem use73 (h : Has pr 73 Rel73) {n : GNet} (hn : FitsN n) (st : St) : primOf Rel73 [netAV n] st = some (.int .i64 n.first, st) := h.use ⟨n, hn, by simp [AV.plainL, net_plain], rfl⟩ st
set_option maxHeartbeats 1000000 in
theorem run31 (h1 : pr 31 = none) (h70 : Has pr 70 Rel70) (h71 : Has pr 71 Rel71) (h72 : Has pr 72 Rel72) (h73 : Has pr 73 Rel73) (n : GNet) (hn : FitsN n) (st : St) : CW (En pr) 31 [netAV n] st fun r _ => r = .bool (validM n) := by
 have hn' := hn
 obtain ⟨f1, f2, f3, f4, _, _, _, g1, g2, g3⟩ := hn'
 refine CW.start (N := 135) h1 rfl rfl ?_
 repeat' (first | (refine OS.do rfl ?_; first | refine OD.box rfl rfl rfl rfl (net_ok _) rfl (fun b1 => ?_) | refine OD.loadP 0 rfl rfl rfl rfl rfl rfl ?_ | refine OD.auto rfl rfl ?_ | refine OD.len rfl rfl (fun _ => lenTy_av rfl rfl) ?_) | refine OS.nil ?_ | refine OS.skip rfl rfl rfl ?_ | refine WS.seq ?_ | refine QS.seqN ?_ | refine WS.region ?_ | refine WS.condT rfl ?_ | refine WS.condD rfl (fun _ => ?_) (fun _ => ?_) | refine WS.skip ?_ | refine WS.block ?_ | refine WS.ret ?_ | refine QS.seqR ?_ | ((fail_if_success (refine OS.do rfl ?_)); first | refine OS.splitD rfl rfl rfl (fun _ => ?_) (fun _ => ?_)))
 all_goals try (refine QS.retR (by rfl) fun _ => ?_; rw [valid_no fun v => (by have := names_len v.regs; have := names_len v.outs; have := v.gatesN; simp only [List.length_map] at *; omega)]; rfl)
 rename_i l1 l2 l3
 refine WS.rangeX (A := Nat × List ByteArray) (n := n.regs.xs.length) ⟨35, _, fun a => [(3, accA a.1 1 (a.2.map strAV))], fun _ => [(b1, .row 4 [netAV n])], fun a => [(a.1, !(a.2.map strAV).isEmpty)], fun i a => a.2 = (n.regs.xs.take i).map (·.name) /\ (n.regs.xs.take i).all (fun r => decide (r.init.toNat <= 2)) = true⟩ ((0, [])) [1, 4, 33, 34] (⟨by simp, by simp⟩) ?_ ?_ (hm := by (try dsimp only); repeat' (first | exact Sub.nil _ | refine Sub.cons (congrArg some (accA_nil _ _).symm) ?_ | refine Sub.cons (congrArg (fun z => some (AV.int .i64 z)) (wrap_succ (by omega))) ?_ | refine Sub.cons rfl ?_))
 ·rintro i ⟨tk, a⟩ hi ⟨ha, hb⟩
  try dsimp only at ha hb
  have hal : a.length <= 500 := by rw [ha]; simp only [List.length_map, List.length_take]; omega
  dsimp only [RSt.at, List.cons_append, List.nil_append]
  repeat' (first | (refine OS.do rfl ?_; first | refine OD.loadP 0 rfl rfl rfl rfl rfl rfl ?_ | refine OD.auto rfl rfl ?_ | refine OD.indexAddr rfl rfl rfl (indexAddrA_nat rfl rfl rfl rfl (by first | assumption | exact List.getElem?_eq_getElem (by omega))) ?_ | refine OD.alloc rfl rfl rfl rfl (fun _ => ?_) | refine OD.storeW 0 rfl rfl rfl rfl (by first | rfl | exact net_ok _) rfl rfl rfl ?_ | refine OD.append 0 rfl rfl rfl rfl rfl rfl rfl rfl rfl rfl rfl (.inr ⟨⟨_, rfl⟩, rfl⟩) (fun _ => rfl) rfl rfl (roomB rfl (by simp only [List.length_map, List.length_append, List.length_take, List.length_cons, List.length_nil]; omega)) (fun tk' => ?_) | refine OD.call rfl rfl rfl h70.eq (h70.use ⟨_, trivial, rfl, rfl⟩) (fun _ => rfl) ?_) | refine OS.nil ?_ | refine WS.seq ?_ | refine QS.seqN ?_ | refine WS.region ?_ | refine WS.skip ?_ | refine WS.ret ?_ | refine QS.seqR ?_ | refine QS.rangeR ?_ | refine WS.condN rfl (fun _ => ?_) (fun _ => ?_))
  all_goals try (refine QS.retR (by rfl) fun _ => ?_; rw [valid_no fun v => not_false_true (all_get v.inits hi) (by assumption)]; rfl)
  exact QS.rangeX ((tk', a ++ [n.regs.xs[i].name])) (by (try dsimp only) <;> exact (⟨by rw [map_take_succ hi, ha], all_take_succ hi hb (by assumption)⟩)) (hl := by (try dsimp only [RSt.at, List.cons_append, List.nil_append]); repeat' (first | exact Sub.nil _ | refine Sub.cons (by rw [List.map_append]; rfl) ?_ | refine Sub.cons (congrArg (fun z => some (AV.int .i64 z)) (wrap_succ (by omega))) ?_ | refine Sub.cons rfl ?_))
 rintro ⟨tk, a⟩ ⟨ha, hb⟩
 try dsimp only at ha hb
 rw [List.take_of_length_le (Nat.le_refl _)] at ha hb
 have hal : a.length <= 500 := by rw [ha]; simp only [List.length_map]; omega
 dsimp only [RSt.at, List.cons_append, List.nil_append]
 repeat' (first | (refine OS.do rfl ?_; first | refine OD.loadP 0 rfl rfl rfl rfl rfl rfl ?_ | refine OD.auto rfl rfl ?_ | refine OD.len rfl rfl (fun _ => lenTy_av rfl rfl) ?_) | refine OS.nil ?_ | refine WS.seq ?_ | refine QS.seqN ?_ | refine WS.region ?_ | refine WS.block ?_)
 refine WS.rangeX (A := Nat × List ByteArray) (n := n.outs.xs.length) ⟨52, _, fun a => [(4, accA a.1 1 (a.2.map strAV))], fun _ => [(b1, .row 4 [netAV n])], fun a => [(a.1, !(a.2.map strAV).isEmpty)], fun i a => a.2 = (n.outs.xs.take i).map (·.name)⟩ ((0, [])) [1, 3, 50, 51] (by simp) ?_ ?_ (hm := by (try dsimp only); repeat' (first | exact Sub.nil _ | refine Sub.cons (congrArg some (accA_nil _ _).symm) ?_ | refine Sub.cons (congrArg (fun z => some (AV.int .i64 z)) (wrap_succ (by omega))) ?_ | refine Sub.cons rfl ?_))
 ·rintro i ⟨tk2, c⟩ hi hc
  try dsimp only at hc
  have hcl : c.length <= 500 := by rw [hc]; simp only [List.length_map, List.length_take]; omega
  dsimp only [RSt.at, List.cons_append, List.nil_append]
  repeat' (first | (refine OS.do rfl ?_; first | refine OD.loadP 0 rfl rfl rfl rfl rfl rfl ?_ | refine OD.auto rfl rfl ?_ | refine OD.indexAddr rfl rfl rfl (indexAddrA_nat rfl rfl rfl rfl (by first | assumption | exact List.getElem?_eq_getElem (by omega))) ?_ | refine OD.alloc rfl rfl rfl rfl (fun _ => ?_) | refine OD.storeW 0 rfl rfl rfl rfl (by first | rfl | exact net_ok _) rfl rfl rfl ?_ | refine OD.append 0 rfl rfl rfl rfl rfl rfl rfl rfl rfl rfl rfl (.inr ⟨⟨_, rfl⟩, rfl⟩) (fun _ => rfl) rfl rfl (roomB rfl (by simp only [List.length_map, List.length_append, List.length_take, List.length_cons, List.length_nil]; omega)) (fun tk' => ?_)) | refine OS.nil ?_ | refine WS.seq ?_ | refine QS.seqN ?_ | refine WS.region ?_)
  exact QS.rangeX ((tk', c ++ [n.outs.xs[i].name])) (by (try dsimp only) <;> exact (by rw [map_take_succ hi, hc])) (hl := by (try dsimp only [RSt.at, List.cons_append, List.nil_append]); repeat' (first | exact Sub.nil _ | refine Sub.cons (by rw [List.map_append]; rfl) ?_ | refine Sub.cons (congrArg (fun z => some (AV.int .i64 z)) (wrap_succ (by omega))) ?_ | refine Sub.cons rfl ?_))
 rintro ⟨tk2, c⟩ hc
 try dsimp only at hc
 rw [List.take_of_length_le (Nat.le_refl _)] at hc
 dsimp only [RSt.at, List.cons_append, List.nil_append]
 have u1 := h71.use (args := [n.ins.av 1 strAV]) ⟨n.ins, trivial, by simp [AV.plainL, plain_av str_plain], rfl⟩
 have u2 := h71.use (args := [accA tk 1 (a.map strAV)]) ⟨GSl.of a, trivial, by simp [AV.plainL, plain_acc str_plain], rfl⟩
 have u3 := h71.use (args := [accA tk2 1 (c.map strAV)]) ⟨GSl.of c, trivial, by simp [AV.plainL, plain_acc str_plain], rfl⟩
 dsimp only [GSl.of] at u1 u2 u3
 repeat' (first | (refine OS.do rfl ?_; first | refine OD.loadP 0 rfl rfl rfl rfl rfl rfl ?_ | refine OD.auto rfl rfl ?_ | refine OD.len rfl rfl (fun _ => lenTy_av rfl rfl) ?_ | refine OD.call rfl rfl rfl h71.eq u1 (fun _ => rfl) ?_ | refine OD.call rfl rfl rfl h71.eq u2 (fun _ => rfl) ?_ | refine OD.call rfl rfl rfl h71.eq u3 (fun _ => rfl) ?_) | refine OS.nil ?_ | refine OS.skip rfl rfl rfl ?_ | refine WS.seq ?_ | refine QS.seqN ?_ | refine WS.region ?_ | refine WS.condT rfl ?_ | refine WS.skip ?_ | refine WS.block ?_ | refine WS.ret ?_ | refine QS.seqR ?_ | refine WS.condN rfl (fun _ => ?_) (fun _ => ?_) | ((fail_if_success (refine OS.do rfl ?_)); first | refine OS.splitN rfl rfl rfl (fun _ => ?_) (fun _ => ?_)))
 all_goals try (refine QS.retR (by rfl) fun _ => ?_; rw [valid_no fun v => (by have q1 := v.ins; have q2 := v.regs; have q3 := v.outs; rw [<- ha] at q2; rw [<- hc] at q3; first | exact not_false_true q1 (by assumption) | exact not_false_true q2 (by assumption) | exact not_false_true q3 (by assumption))]; rfl)
 rename_i hI hR hO
 have u73 := use73 h73 hn
 have hfst : n.first <= 300000000000000 /\ 1 <= n.first := by unfold GNet.first; omega
 refine WS.rangeX (A := Unit) (n := n.gates.xs.length) ⟨79, _, fun _ => [], fun _ => [(b1, .row 4 [netAV n])], fun _ => [], fun i _ => gatesOk n.first (n.gates.xs.take i) = true⟩ (()) [1, 77, 78] (rfl) ?_ ?_
 ·rintro i _ hi hg
  try dsimp only at hg
  have hw : IntKind.i64.wrap (n.first + (i : Int)) = n.first + i := wrap64 (by omega) (by omega)
  have u5 := (g1 _ (List.getElem_mem hi)).1
  have u6 := (g1 _ (List.getElem_mem hi)).2
  dsimp only [RSt.at, List.cons_append, List.nil_append]
  repeat' (first | (refine OS.do rfl ?_; first | refine OD.loadP 0 rfl rfl rfl rfl rfl rfl ?_ | refine OD.auto rfl rfl ?_ | refine OD.loadP 1 rfl rfl rfl rfl rfl rfl ?_ | refine OD.indexAddr rfl rfl rfl (indexAddrA_nat rfl rfl rfl rfl (by first | assumption | exact List.getElem?_eq_getElem (by omega))) ?_ | refine OD.alloc rfl rfl rfl rfl (fun _ => ?_) | refine OD.storeW 0 rfl rfl rfl rfl (by first | rfl | exact net_ok _) rfl rfl rfl ?_ | refine OD.indexAddr rfl rfl rfl rfl ?_ | refine OD.call rfl rfl rfl h73.eq u73 (fun _ => rfl) ?_ | refine OD.call rfl rfl rfl h72.eq (use72 h72 u5) (fun _ => rfl) ?_ | refine OD.call rfl rfl rfl h72.eq (use72 h72 u6) (fun _ => rfl) ?_) | refine OS.nil ?_ | refine OS.skip rfl rfl rfl ?_ | refine WS.seq ?_ | refine QS.seqN ?_ | refine WS.region ?_ | refine WS.condT rfl ?_ | refine WS.skip ?_ | refine WS.ret ?_ | refine QS.seqR ?_ | refine WS.drawC rfl rfl rfl ?_ | refine QS.rangeR ?_ | refine WS.condN rfl (fun _ => ?_) (fun _ => ?_) | ((fail_if_success (refine OS.do rfl ?_)); first | refine OS.splitN rfl rfl rfl (fun _ => ?_) (fun _ => ?_)))
  all_goals try (refine QS.retR (by rfl) fun _ => ?_; rw [valid_no fun v => not_false_true v.gates (gatesOk_bad hi (by rw [<- hw]; first | exact and_f1 (by assumption) | exact and_f2 (by assumption)))]; rfl)
  exact QS.rangeX (()) (by (try dsimp only) <;> exact (by rw [gatesOk_take hi, hg, <- hw]; exact and_t rfl (and_t (by assumption) (by assumption))))
 rintro _ hg
 try dsimp only at hg
 rw [List.take_of_length_le (Nat.le_refl _)] at hg
 dsimp only [RSt.at, List.cons_append, List.nil_append]
 repeat' (first | (refine OS.do rfl ?_; first | refine OD.loadP 0 rfl rfl rfl rfl rfl rfl ?_ | refine OD.auto rfl rfl ?_ | refine OD.len rfl rfl (fun _ => lenTy_av rfl rfl) ?_ | refine OD.call rfl rfl rfl h73.eq u73 (fun _ => rfl) ?_) | refine OS.nil ?_ | refine WS.seq ?_ | refine QS.seqN ?_ | refine WS.region ?_ | refine WS.block ?_ | refine WS.drawC rfl rfl rfl ?_)
 have hw : IntKind.i64.wrap (n.first + (n.gates.xs.length : Int)) = n.nodes := wrap64 (by omega) (by omega)
 rw [hw]
 refine WS.rangeX (A := Unit) (n := n.regs.xs.length) ⟨112, _, fun _ => [], fun _ => [(b1, .row 4 [netAV n])], fun _ => [], fun i _ => ((n.regs.xs.take i).all fun r => litOk r.next n.nodes) = true⟩ (()) [1, 11, 110, 111] (by simp) ?_ ?_
 ·rintro i _ hi hx
  try dsimp only at hx
  have u5 := g2 _ (List.getElem_mem hi)
  dsimp only [RSt.at, List.cons_append, List.nil_append]
  repeat' (first | (refine OS.do rfl ?_; first | refine OD.loadP 0 rfl rfl rfl rfl rfl rfl ?_ | refine OD.auto rfl rfl ?_ | refine OD.indexAddr rfl rfl rfl (indexAddrA_nat rfl rfl rfl rfl (by first | assumption | exact List.getElem?_eq_getElem (by omega))) ?_ | refine OD.alloc rfl rfl rfl rfl (fun _ => ?_) | refine OD.storeW 0 rfl rfl rfl rfl (by first | rfl | exact net_ok _) rfl rfl rfl ?_ | refine OD.call rfl rfl rfl h72.eq (use72 h72 u5) (fun _ => rfl) ?_) | refine OS.nil ?_ | refine WS.seq ?_ | refine QS.seqN ?_ | refine WS.region ?_ | refine WS.skip ?_ | refine WS.ret ?_ | refine QS.seqR ?_ | refine QS.rangeR ?_ | refine WS.condN rfl (fun _ => ?_) (fun _ => ?_))
  all_goals try (refine QS.retR (by rfl) fun _ => ?_; rw [valid_no fun v => not_false_true (all_get v.nexts hi) (by assumption)]; rfl)
  exact QS.rangeX (()) (by (try dsimp only) <;> exact (all_take_succ hi hx (by assumption)))
 rintro _ hx
 try dsimp only at hx
 rw [List.take_of_length_le (Nat.le_refl _)] at hx
 dsimp only [RSt.at, List.cons_append, List.nil_append]
 repeat' (first | (refine OS.do rfl ?_; first | refine OD.loadP 0 rfl rfl rfl rfl rfl rfl ?_ | refine OD.auto rfl rfl ?_ | refine OD.len rfl rfl (fun _ => lenTy_av rfl rfl) ?_) | refine OS.nil ?_ | refine WS.seq ?_ | refine QS.seqN ?_ | refine WS.region ?_ | refine WS.block ?_)
 refine WS.rangeX (A := Unit) (n := n.outs.xs.length) ⟨125, _, fun _ => [], fun _ => [], fun _ => [], fun i _ => ((n.outs.xs.take i).all fun r => litOk r.lit n.nodes) = true⟩ (()) [11, 123, 124] (by simp) ?_ ?_
 ·rintro i _ hi hy
  try dsimp only at hy
  have u5 := g3 _ (List.getElem_mem hi)
  dsimp only [RSt.at, List.cons_append, List.nil_append]
  repeat' (first | (refine OS.do rfl ?_; first | refine OD.loadP 0 rfl rfl rfl rfl rfl rfl ?_ | refine OD.auto rfl rfl ?_ | refine OD.indexAddr rfl rfl rfl (indexAddrA_nat rfl rfl rfl rfl (by first | assumption | exact List.getElem?_eq_getElem (by omega))) ?_ | refine OD.alloc rfl rfl rfl rfl (fun _ => ?_) | refine OD.storeW 0 rfl rfl rfl rfl (by first | rfl | exact net_ok _) rfl rfl rfl ?_ | refine OD.call rfl rfl rfl h72.eq (use72 h72 u5) (fun _ => rfl) ?_) | refine OS.nil ?_ | refine WS.seq ?_ | refine QS.seqN ?_ | refine WS.region ?_ | refine WS.skip ?_ | refine WS.ret ?_ | refine QS.seqR ?_ | refine QS.rangeR ?_ | refine WS.condN rfl (fun _ => ?_) (fun _ => ?_))
  all_goals try (refine QS.retR (by rfl) fun _ => ?_; rw [valid_no fun v => not_false_true (all_get v.lits hi) (by assumption)]; rfl)
  exact QS.rangeX (()) (by (try dsimp only) <;> exact (all_take_succ hi hy (by assumption)))
 rintro _ hy
 try dsimp only at hy
 rw [List.take_of_length_le (Nat.le_refl _)] at hy
 dsimp only [RSt.at, List.cons_append, List.nil_append]
 repeat' (first | (refine OS.do rfl ?_; first | refine OD.auto rfl rfl ?_) | refine OS.nil ?_ | refine WS.seq ?_ | refine QS.seqN ?_ | refine WS.region ?_ | refine WS.ret ?_)
 refine QS.retR (by rfl) fun _ => ?_
 rw [validM_iff.2 ⟨by omega, hI, by rw [<- ha]; exact hR, by rw [<- hc]; exact hO, hg, hb, hx, hy⟩]; rfl
end
end Go.OptEnv
namespace Go.OptEnv
open Go Go.Proofs Go.Abs Go.RowKit Go.NetM
set_option maxRecDepth 10000
attribute [local irreducible] WS QS OS OD Abs.Sub SubO SubK CW GSl.av accA
def Rel31 : Rel := RelF FitsN (fun n => [netAV n]) fun n => .bool (validM n)
theorem litOk_no {l k : Int} (h : l < 0 \/ 2 * k <= l) : litOk l k = false := decide_eq_false (by omega)
theorem litOk_yes {l k : Int} (h : 0 <= l /\ l < 2 * k) : litOk l k = true := decide_eq_true h
theorem gate_no {a b k : Int} (h : (if b < a then b else a) < 0 \/ (if b > a then b else a) ≥ 2 * k) : (litOk a k && litOk b k) = false := by
 apply Bool.eq_false_iff.2
 intro hc
 simp only [litOk, Bool.and_eq_true, decide_eq_true_eq] at hc
 split at h <;> split at h <;> omega
theorem gate_yes {a b k : Int} (h : ¬ (if b < a then b else a) < 0) (h2 : ¬ (if b > a then b else a) ≥ 2 * k) : (litOk a k && litOk b k) = true := by
 simp only [litOk, Bool.and_eq_true, decide_eq_true_eq]
 split at h <;> split at h2 <;> omega
section
variable {pr : Prims}
theorem con31 (h1 : pr 31 = none) (h70 : Has pr 70 Rel70) (h71 : Has pr 71 Rel71) (h72 : Has pr 72 Rel72) (h73 : Has pr 73 Rel73) : Con2 (En pr) 31 Rel31 := con_eq (fun d => by simp [AV.freeL, net_free]) (fun _ => ⟨rfl, rfl⟩) fun d hd st => run31 h1 h70 h71 h72 h73 d hd st
theorem use102 (h : Has pr 102 Rel102) {l : GSl ByteArray} (hl : l.xs.length <= 140737488355328) (hn : ∀ x ∈ l.xs, x.size <= 140737488355328) (st : St) : primOf Rel102 [l.av 1 strAV, .fn 103 [] []] st = some (.bool (namesM l.xs), st) := by
 have := h.use (args := [l.av 1 strAV, .fn 103 [] []]) ⟨l, ⟨hl, hn⟩, by simp [AV.plainL, plain_av str_plain, AV.plain], rfl⟩ st
 simpa using this
theorem use104 (h : Has pr 104 Rel104) {l : GSl GReg} (hl : l.xs.length <= 140737488355328) (hn : ∀ x ∈ l.xs, x.name.size <= 140737488355328) (st : St) : primOf Rel104 [l.av 3 regAV, .fn 105 [] []] st = some (.bool (namesM (l.xs.map (·.name))), st) :=
 h.use (args := [l.av 3 regAV, .fn 105 [] []]) ⟨l, ⟨hl, hn⟩, by simp [AV.plainL, plain_av reg_plain, AV.plain], rfl⟩ st
theorem use106 (h : Has pr 106 Rel106) {l : GSl GPin} (hl : l.xs.length <= 140737488355328) (hn : ∀ x ∈ l.xs, x.name.size <= 140737488355328) (st : St) : primOf Rel106 [l.av 2 pinAV, .fn 107 [] []] st = some (.bool (namesM (l.xs.map (·.name))), st) :=
 h.use (args := [l.av 2 pinAV, .fn 107 [] []]) ⟨l, ⟨hl, hn⟩, by simp [AV.plainL, plain_av pin_plain, AV.plain], rfl⟩ st
set_option maxHeartbeats 1000000 in
theorem run57 (h1 : pr 57 = none) (h102 : Has pr 102 Rel102) (h104 : Has pr 104 Rel104) (h106 : Has pr 106 Rel106) (n : GNet) (hn : FitsN n) (st : St) : CW (En pr) 57 [netAV n] st fun r _ => r = .bool (validM n) := by
 have hn' := hn
 obtain ⟨f1, f2, f3, f4, m1, m2, m3, g1, g2, g3⟩ := hn'
 have u1 := use102 h102 f1 m1
 have u2 := use104 h104 f2 m2
 have u3 := use106 h106 f4 m3
 refine CW.start (N := 113) h1 rfl rfl ?_
 repeat' (first | (refine OS.do rfl ?_; first | refine OD.box rfl rfl rfl rfl (net_ok _) rfl (fun b1 => ?_) | refine OD.loadP 0 rfl rfl rfl rfl rfl rfl ?_ | refine OD.auto rfl rfl ?_ | refine OD.len rfl rfl (fun _ => lenTy_av rfl rfl) ?_ | refine OD.call rfl rfl rfl h102.eq u1 (fun _ => rfl) ?_ | refine OD.call rfl rfl rfl h104.eq u2 (fun _ => rfl) ?_ | refine OD.call rfl rfl rfl h106.eq u3 (fun _ => rfl) ?_) | refine OS.nil ?_ | refine OS.skip rfl rfl rfl ?_ | refine WS.seq ?_ | refine QS.seqN ?_ | refine WS.region ?_ | refine WS.condT rfl ?_ | refine WS.condD rfl (fun _ => ?_) (fun _ => ?_) | refine WS.skip ?_ | refine WS.block ?_ | refine WS.ret ?_ | refine QS.seqR ?_ | ((fail_if_success (refine OS.do rfl ?_)); first | refine OS.splitN rfl rfl rfl (fun _ => ?_) (fun _ => ?_)))
 all_goals try (refine QS.retR (by rfl) fun _ => ?_; rw [valid_no fun v => (by first | exact not_false_true v.ins (by assumption) | exact not_false_true v.regs (by assumption) | exact not_false_true v.outs (by assumption) | exact absurd v.gatesN (by omega))]; rfl)
 rename_i hI hR hO hG
 have hG : n.gates.xs.length <= 20000 := by omega
 have hfst : n.first <= 300000000000000 /\ 1 <= n.first := by unfold GNet.first; omega
 have hw : IntKind.i64.wrap (IntKind.i64.wrap (1 + (n.ins.xs.length : Int)) + (n.regs.xs.length : Int)) = n.first := by
  rw [wrap64 (n := 1 + (n.ins.xs.length : Int)) (by omega) (by omega)]
  exact wrap64 (by omega) (by omega)
 rw [hw]
 refine WS.rangeX (A := Unit) (n := n.gates.xs.length) ⟨44, _, fun _ => [], fun _ => [(b1, .row 4 [netAV n])], fun _ => [], fun i _ => gatesOk n.first (n.gates.xs.take i) = true⟩ (()) [1, 3, 42, 43] (rfl) ?_ ?_
 ·rintro i _ hi hg
  try dsimp only at hg
  have hw1 : IntKind.i64.wrap (n.first + (i : Int)) = n.first + i := wrap64 (by omega) (by omega)
  have hw2 : IntKind.i64.wrap (2 * IntKind.i64.wrap (n.first + (i : Int))) = 2 * (n.first + i) := by rw [hw1]; exact wrap64 (by omega) (by omega)
  dsimp only [RSt.at, List.cons_append, List.nil_append]
  repeat' (first | (refine OS.do rfl ?_; first | refine OD.loadP 0 rfl rfl rfl rfl rfl rfl ?_ | refine OD.auto rfl rfl ?_ | refine OD.indexAddr rfl rfl rfl (indexAddrA_nat rfl rfl rfl rfl (by first | assumption | exact List.getElem?_eq_getElem (by omega))) ?_ | refine OD.max rfl rfl rfl ?_ | refine OD.min rfl rfl rfl ?_ | refine OD.alloc rfl rfl rfl rfl (fun _ => ?_) | refine OD.storeW 0 rfl rfl rfl rfl (by first | rfl | exact net_ok _) rfl rfl rfl ?_ | refine OD.indexAddr rfl rfl rfl rfl ?_) | refine OS.nil ?_ | refine OS.skip rfl rfl rfl ?_ | refine WS.seq ?_ | refine QS.seqN ?_ | refine WS.region ?_ | refine WS.condT rfl ?_ | refine WS.condD rfl (fun _ => ?_) (fun _ => ?_) | refine WS.skip ?_ | refine WS.ret ?_ | refine QS.seqR ?_ | refine QS.rangeR ?_ | ((fail_if_success (refine OS.do rfl ?_)); first | refine OS.splitD rfl rfl rfl (fun _ => ?_) (fun _ => ?_)))
  ·refine QS.retR (by rfl) fun _ => ?_
   rw [valid_no fun v => not_false_true v.gates (gatesOk_bad hi (gate_no (.inl (by assumption))))]; rfl
  ·rename_i hc
   rw [hw2] at hc
   refine QS.retR (by rfl) fun _ => ?_
   rw [valid_no fun v => not_false_true v.gates (gatesOk_bad hi (gate_no (.inr hc)))]; rfl
  ·rename_i hc1 hc
   rw [hw2] at hc
   exact QS.rangeX (()) (by (try dsimp only) <;> exact (by rw [gatesOk_take hi, hg]; exact and_t rfl (gate_yes hc1 hc)))
 rintro _ hg
 try dsimp only at hg
 rw [List.take_of_length_le (Nat.le_refl _)] at hg
 dsimp only [RSt.at, List.cons_append, List.nil_append]
 repeat' (first | (refine OS.do rfl ?_; first | refine OD.loadP 0 rfl rfl rfl rfl rfl rfl ?_ | refine OD.auto rfl rfl ?_ | refine OD.len rfl rfl (fun _ => lenTy_av rfl rfl) ?_) | refine OS.nil ?_ | refine WS.seq ?_ | refine QS.seqN ?_ | refine WS.region ?_ | refine WS.block ?_)
 have hw3 : IntKind.i64.wrap (2 * IntKind.i64.wrap (n.first + (n.gates.xs.length : Int))) = 2 * n.nodes := by
  rw [wrap64 (n := n.first + (n.gates.xs.length : Int)) (by omega) (by omega)]
  exact wrap64 (by omega) (by omega)
 rw [hw3]
 refine WS.rangeX (A := Unit) (n := n.regs.xs.length) ⟨77, _, fun _ => [], fun _ => [(b1, .row 4 [netAV n])], fun _ => [], fun i _ => ((n.regs.xs.take i).all fun r => decide (r.init.toNat <= 2)) = true /\ ((n.regs.xs.take i).all fun r => litOk r.next n.nodes) = true⟩ (()) [1, 6, 75, 76] (⟨by simp, by simp⟩) ?_ ?_
 ·rintro i _ hi ⟨hb, hx⟩
  try dsimp only at hb hx
  dsimp only [RSt.at, List.cons_append, List.nil_append]
  repeat' (first | (refine OS.do rfl ?_; first | refine OD.loadP 0 rfl rfl rfl rfl rfl rfl ?_ | refine OD.auto rfl rfl ?_ | refine OD.indexAddr rfl rfl rfl (indexAddrA_nat rfl rfl rfl rfl (by first | assumption | exact List.getElem?_eq_getElem (by omega))) ?_ | refine OD.alloc rfl rfl rfl rfl (fun _ => ?_) | refine OD.storeW 0 rfl rfl rfl rfl (by first | rfl | exact net_ok _) rfl rfl rfl ?_) | refine OS.nil ?_ | refine OS.skip rfl rfl rfl ?_ | refine WS.seq ?_ | refine QS.seqN ?_ | refine WS.region ?_ | refine WS.condT rfl ?_ | refine WS.condD rfl (fun _ => ?_) (fun _ => ?_) | refine WS.skip ?_ | refine WS.ret ?_ | refine QS.seqR ?_ | refine QS.rangeR ?_ | ((fail_if_success (refine OS.do rfl ?_)); first | refine OS.splitD rfl rfl rfl (fun _ => ?_) (fun _ => ?_)))
  all_goals try (refine QS.retR (by rfl) fun _ => ?_; rw [valid_no fun v => (by first | exact absurd (of_decide_eq_true (all_get v.inits hi)) (by omega) | exact not_false_true (all_get v.nexts hi) (litOk_no (by omega)))]; rfl)
  exact QS.rangeX (()) (by (try dsimp only) <;> exact (⟨all_take_succ hi hb (decide_eq_true (by omega)), all_take_succ hi hx (litOk_yes (by omega))⟩))
 rintro _ ⟨hb, hx⟩
 try dsimp only at hb hx
 rw [List.take_of_length_le (Nat.le_refl _)] at hb hx
 dsimp only [RSt.at, List.cons_append, List.nil_append]
 repeat' (first | (refine OS.do rfl ?_; first | refine OD.loadP 0 rfl rfl rfl rfl rfl rfl ?_ | refine OD.auto rfl rfl ?_ | refine OD.len rfl rfl (fun _ => lenTy_av rfl rfl) ?_) | refine OS.nil ?_ | refine WS.seq ?_ | refine QS.seqN ?_ | refine WS.region ?_ | refine WS.block ?_)
 refine WS.rangeX (A := Unit) (n := n.outs.xs.length) ⟨99, _, fun _ => [], fun _ => [], fun _ => [], fun i _ => ((n.outs.xs.take i).all fun r => litOk r.lit n.nodes) = true⟩ (()) [6, 97, 98] (by simp) ?_ ?_
 ·rintro i _ hi hy
  try dsimp only at hy
  dsimp only [RSt.at, List.cons_append, List.nil_append]
  repeat' (first | (refine OS.do rfl ?_; first | refine OD.loadP 0 rfl rfl rfl rfl rfl rfl ?_ | refine OD.auto rfl rfl ?_ | refine OD.indexAddr rfl rfl rfl (indexAddrA_nat rfl rfl rfl rfl (by first | assumption | exact List.getElem?_eq_getElem (by omega))) ?_ | refine OD.alloc rfl rfl rfl rfl (fun _ => ?_) | refine OD.storeW 0 rfl rfl rfl rfl (by first | rfl | exact net_ok _) rfl rfl rfl ?_) | refine OS.nil ?_ | refine OS.skip rfl rfl rfl ?_ | refine WS.seq ?_ | refine QS.seqN ?_ | refine WS.region ?_ | refine WS.condT rfl ?_ | refine WS.condD rfl (fun _ => ?_) (fun _ => ?_) | refine WS.skip ?_ | refine WS.ret ?_ | refine QS.seqR ?_ | refine QS.rangeR ?_ | ((fail_if_success (refine OS.do rfl ?_)); first | refine OS.splitD rfl rfl rfl (fun _ => ?_) (fun _ => ?_)))
  all_goals try (refine QS.retR (by rfl) fun _ => ?_; rw [valid_no fun v => not_false_true (all_get v.lits hi) (litOk_no (by omega))]; rfl)
  exact QS.rangeX (()) (by (try dsimp only) <;> exact (all_take_succ hi hy (litOk_yes (by omega))))
 rintro _ hy
 try dsimp only at hy
 rw [List.take_of_length_le (Nat.le_refl _)] at hy
 dsimp only [RSt.at, List.cons_append, List.nil_append]
 repeat' (first | (refine OS.do rfl ?_; first | refine OD.auto rfl rfl ?_) | refine OS.nil ?_ | refine WS.seq ?_ | refine QS.seqN ?_ | refine WS.region ?_ | refine WS.ret ?_)
 refine QS.retR (by rfl) fun _ => ?_
 rw [validM_iff.2 ⟨hG, hI, hR, hO, hg, hb, hx, hy⟩]; rfl
end
end Go.OptEnv
namespace Go.Abs
open Go.RowKit
def growA (b : Bool) (t sz : Nat) (xs : List AV) : AV := .vs sz (bif b then .tok t else .full) xs
def GSl.some {α : Type} (xs : List α) : GSl α := ⟨none, xs, fun h => absurd rfl h⟩
theorem plain_grow {α : Type} {f : α -> AV} {sz t : Nat} {b : Bool} {xs : List α} (hf : ∀ a, AV.plain (f a) = f a) : AV.plain (growA b t sz (xs.map f)) = (GSl.some xs).av sz f := by
 have h : AV.plainL (xs.map f) = xs.map f := plainL_map hf xs
 simp only [growA, AV.plain, h]
 rfl
theorem free_grow {α : Type} {f : α -> AV} {sz t : Nat} {b : Bool} {xs : List α} (hf : ∀ a, AV.free (f a) = true) : AV.free (growA b t sz (xs.map f)) = true := by
 simp only [growA, AV.free]
 exact freeL_map hf xs
theorem free_acc {α : Type} {f : α -> AV} {sz t : Nat} {xs : List α} (hf : ∀ a, AV.free (f a) = true) : AV.free (accA t sz (xs.map f)) = true := by
 cases xs with
 | nil => rfl
 | cons x xs => simp only [List.map_cons, accA, AV.free]; exact freeL_map hf (x :: xs)
theorem set_same {α : Type} {K : List α} {kk : Nat} {p : α} (hK : K[kk]? = some p) : K.set kk p = K := by
 apply List.ext_getElem?
 intro j
 rw [List.getElem?_set]
 by_cases e : kk = j
 ·subst e; rw [if_pos rfl, if_pos (List.getElem?_eq_some_iff.1 hK).1, hK]
 ·rw [if_neg e]
section
variable {E : Env} {fid N : Nat} {l : List (Nat × AV)} {L : List (Nat × AObj)} {K : List (Nat × Bool)} {Q : AExit -> TM -> St -> Prop}
variable {c : Bool} {pol : Nat -> Nat} {ops : Array Oper} {o : Oper} {r : List Oper} {i : Nat} {d : Nat} {ty : TypeId} {pos : String} {after : Array Edge} {guard : Option (Nat × Bool)}
theorem OS.newK (h : OS E c pol ops r i N l L ((0, false) :: K) Q) : OS E c pol ops r i N l L K Q := fun pre tm st hF hp => h pre tm st (hF.sub (fun _ _ h => h) (.refl _) (.new (.refl _))) hp
theorem WS.newK {a : Code} (h : WS E fid N a l L ((0, false) :: K) Q) : WS E fid N a l L K Q := fun tm st hF => h tm st (hF.sub (fun _ _ h => h) (.refl _) (.new (.refl _)))
theorem appendOp_key {ts tx e : TypeId} {sz' : Nat} {s a : AV} {ys : List AV} {tys tyx et : Ty} {ob : Bool} (h1 : E.ty ts = some tys) (h2 : E.ty tx = some tyx) (h3 : tys.d = .slice e) (h4 : E.ty e = some et) (h5 : Nat.blt 0 et.size = true)
  (h7 : (tyx.d = .string /\ isStrA a = true) \/ ((∃ e', tyx.d = .slice e') /\ isStrA a = false)) (st : St) (h8 : elemsA st a = some (sz', ys)) (h9 : okElems et ys = true) (h10 : (ys.isEmpty || Nat.beq sz' et.size) = true) :
  appendOpA E ob st ts tx s a = appendA ob e et st s ys := by
 unfold appendOpA
 rw [h1, h2]
 dsimp only
 rw [h3]
 dsimp only
 rw [h4]
 dsimp only
 rw [if_pos (Eq.mp Nat.blt_eq h5)]
 have h10' : (ys.isEmpty || sz' == et.size) = true := by
  cases hy : ys.isEmpty with
  | true => rfl
  | false =>
   rw [hy] at h10
   simp only [Bool.false_or] at h10
   simp [Nat.eq_of_beq_eq_true h10]
 rcases h7 with ⟨h7, h7'⟩ | ⟨⟨e', h7⟩, h7'⟩
 ·rw [h7]; dsimp only; rw [h8]; dsimp only; rw [if_pos ⟨h9, h10', by simp [h7']⟩]
 ·rw [h7]; dsimp only; rw [h8]; dsimp only; rw [if_pos ⟨h9, h10', by simp [h7']⟩]
theorem OD.appendG (kk : Nat) {ts tx e : TypeId} {s x : Operand} {t sz sz' : Nat} {b : Bool} {xs ys : List AV} {a : AV} {tys tyx et : Ty} (hn : Nat.blt d N = true) (hpol : Nat.beq (pol i) 1 = false) (hs : evL l s = some (growA b t sz xs)) (hx : evL l x = some a) (hK : K[kk]? = some (t, b))
  (h1 : E.ty ts = some tys) (h2 : E.ty tx = some tyx) (h3 : tys.d = .slice e) (h4 : E.ty e = some et) (h5 : Nat.blt 0 et.size = true) (h6 : sz = et.size) (h7 : (tyx.d = .string /\ isStrA a = true) \/ ((∃ e', tyx.d = .slice e') /\ isStrA a = false)) (h8 : ∀ st, elemsA st a = some (sz', ys)) (h9 : okElems et ys = true) (h10 : (ys.isEmpty || Nat.beq sz' et.size) = true)
  (hroom : roomA et (xs.length + ys.length) = true) (k : ∀ t', OS E false pol ops r (i + 1) N ((d, growA (b || !ys.isEmpty) t' sz (xs ++ ys)) :: l) L (K.set kk (t', b || !ys.isEmpty)) Q) :
  OD E false pol ops { dst := some d, op := .call { callee := .builtin .append, args := #[s, x], argTypes := #[ts, tx] }, type := ty, pos := pos, after := after, guard := guard } r i N l L K Q := by
 subst h6
 refine .loud rfl rfl (fun _ h => by cases h) fun tm st hF => ?_
 have h0 : Abs.loud E noCall (pol i) tm st { dst := some d, op := .call { callee := .builtin .append, args := #[s, x], argTypes := #[ts, tx] }, type := ty, pos := pos, after := after, guard := guard } = appendOpA E (pol i == 1) st ts tx (evalO tm s) (evalO tm x) := rfl
 have hp : (pol i == 1) = false := by
  have := Nat.ne_of_beq_eq_false hpol
  simpa using this
 rw [h0, hF.ev hs, hF.ev hx, hp, appendOp_key h1 h2 h3 h4 h5 h7 st (h8 st) h9 h10]
 cases b with
 | true =>
  refine ⟨.vs et.size (.tok st.next) (xs ++ ys), tokOnA st t e, _, L, _, ?_, ?_, k st.next⟩
  ·simp only [growA, cond_true, appendA]
   rw [if_pos ⟨trivial, (hF.tok kk t hK).1, hroom⟩]
  ·have hF' : Fa N l L (K.set kk (st.next, true)) tm (tokOnA st t e) := by
    unfold tokOnA
    split
    ·split
     ·exact (hF.tokDrop hK).ttag _ _
     ·exact hF.tokDrop hK
    ·exact hF.tokDrop hK
   exact hF'.put hn _
 | false =>
  cases ys with
  | nil =>
   refine ⟨growA false t et.size xs, st, _, L, _, ?_, ?_, k t⟩
   ·simp only [growA, cond_false, appendA]
    rw [if_pos ⟨trivial, hroom⟩]
    simp
   ·have : K.set kk (t, (false || !([] : List AV).isEmpty)) = K := set_same (by simpa using hK)
    rw [this, List.append_nil]
    exact hF.put hn _
  | cons y ys =>
   refine ⟨.vs et.size (.tok st.next) (xs ++ y :: ys), st.newTok.ttag st.next e, _, L, _, ?_, ?_, k st.next⟩
   ·simp only [growA, cond_false, appendA]
    rw [if_pos ⟨trivial, hroom⟩]
    simp
   ·exact ((hF.tokNew hK).ttag _ _).put hn _
theorem OD.makeSlice0 {t e : TypeId} {y : Operand} {ty1 et : Ty} {c : Int} (hn : Nat.blt d N = true) (hy : evL l y = some (.int .i64 c)) (hc0 : 0 <= c) (ht : E.ty t = some ty1) (hd : ty1.d = .slice e) (he : E.ty e = some et) (hs : Nat.blt 0 et.size = true) (hroom : roomA et c.toNat = true)
  (k : ∀ t', OS E false pol ops r (i + 1) N ((d, growA true t' et.size []) :: l) L ((t', true) :: K) Q) :
  OD E false pol ops { dst := some d, op := .makeSlice t (.const (.int .i64 0)) y, type := ty, pos := pos, after := after, guard := guard } r i N l L K Q := by
 refine .loud rfl rfl (fun _ h => by cases h) fun tm st hF => ⟨growA true st.next et.size [], st.newTok, _, L, (st.next, true) :: K, ?_, ?_, k st.next⟩
 ·have h0 : Abs.loud E noCall (pol i) tm st { dst := some d, op := .makeSlice t (.const (.int .i64 0)) y, type := ty, pos := pos, after := after, guard := guard } = makeSliceA E st true t (.int .i64 0) (evalO tm y) := rfl
  rw [h0, hF.ev hy]
  unfold makeSliceA
  rw [ht]
  dsimp only
  rw [hd]
  dsimp only
  rw [he]
  dsimp only
  rw [if_pos ⟨Eq.mp Nat.blt_eq hs, by omega, hc0, hroom⟩]
  rfl
 ·have hF1 : Fa N l L ((0, false) :: K) tm st := hF.sub (fun _ _ h => h) (.refl _) (.new (.refl _))
  have := hF1.tokNew (kk := 0) rfl
  exact Fa.put (by simpa using this) hn _
theorem lenTy_grow {α : Type} {f : α -> AV} {sz : Nat} {t e : TypeId} {y : Ty} {st : St} {tk : Nat} {b : Bool} {xs : List α} (h1 : E.ty t = some y) (h2 : y.d = .slice e) : lenTy E st t (growA b tk sz (xs.map f)) = some (.int .i64 (xs.length : Int)) := by
 unfold lenTy
 rw [h1]
 dsimp only
 rw [h2]
 simp [growA, lenT]
theorem indexAddrA_grow {α : Type} {f : α -> AV} {sz : Nat} {t e : TypeId} {y ey : Ty} {kd : IntKind} {tk : Nat} {b : Bool} {xs : List α} {k : Int} {a : α} (h1 : E.ty t = some y) (h2 : y.d = .slice e) (h3 : E.ty e = some ey) (h4 : ey.size = sz) (h0 : 0 <= k) (ha : xs[k.toNat]? = some a) :
  indexAddrA E t (growA b tk sz (xs.map f)) (.int kd k) = some (.ip (f a).cells) := by
 unfold indexAddrA
 rw [h1]
 dsimp only
 rw [h2]
 dsimp only
 rw [h3]
 simp only [growA, elemAddrA, h4]
 rw [if_pos ⟨trivial, h0⟩, List.getElem?_map, ha]
 rfl
def szOf {α : Type} (s : GSl α) (sz : Nat) : Nat := match s.nil with | none => sz | some _ => 0
theorem elemsA_gsl {α : Type} {f : α -> AV} {s : GSl α} {sz : Nat} (st : St) : elemsA st (s.av sz f) = some (szOf s sz, s.xs.map f) := by
 unfold GSl.av szOf
 match hn : s.nil with
 | some true => rw [s.h (by rw [hn]; simp)]; rfl
 | some false => rw [s.h (by rw [hn]; simp)]; rfl
 | none => rfl
theorem szOf_ok {α : Type} {f : α -> AV} {s : GSl α} {sz : Nat} : ((s.xs.map f).isEmpty || Nat.beq (szOf s sz) sz) = true := by
 unfold szOf
 match hn : s.nil with
 | some true => rw [s.h (by rw [hn]; simp)]; rfl
 | some false => rw [s.h (by rw [hn]; simp)]; rfl
 | none => simp [Nat.beq_refl]
theorem isStr_gsl {α : Type} {sz : Nat} {f : α -> AV} {s : GSl α} : isStrA (s.av sz f) = false := by
 rcases s.cases f sz with ⟨_, h | h⟩ | h <;> rw [h] <;> rfl
theorem okElems_map {α : Type} {et : Ty} {f : α -> AV} {n : Nat} (h : Nat.beq n et.size = true) (hf : ∀ a, (f a).ok = true /\ (f a).cells.length = n) (xs : List α) : okElems et (xs.map f) = true := by
 have := Nat.eq_of_beq_eq_true h
 simp only [okElems, List.all_map, List.all_eq_true, Function.comp]
 intro a _
 simp [hf a, this]
theorem OD.appendGS (kk : Nat) {α : Type} {f : α -> AV} {s' : GSl α} {ts tx e : TypeId} {s x : Operand} {t sz : Nat} {b : Bool} {ys : List α} {tys tyx et : Ty} (hn : Nat.blt d N = true) (hpol : Nat.beq (pol i) 1 = false) (hs : evL l s = some (growA b t sz (ys.map f))) (hx : evL l x = some (s'.av sz f)) (hK : K[kk]? = some (t, b))
  (h1 : E.ty ts = some tys) (h2 : E.ty tx = some tyx) (h3 : tys.d = .slice e) (h4 : E.ty e = some et) (h5 : Nat.blt 0 et.size = true) (h6 : sz = et.size) (h7 : ∃ e', tyx.d = .slice e') (hf : ∀ a, (f a).ok = true /\ (f a).cells.length = sz)
  (hroom : roomA et (ys.length + s'.xs.length) = true) (k : ∀ t', OS E false pol ops r (i + 1) N ((d, growA (b || !s'.xs.isEmpty) t' sz ((ys ++ s'.xs).map f)) :: l) L (K.set kk (t', b || !s'.xs.isEmpty)) Q) :
  OD E false pol ops { dst := some d, op := .call { callee := .builtin .append, args := #[s, x], argTypes := #[ts, tx] }, type := ty, pos := pos, after := after, guard := guard } r i N l L K Q := by
 have hem : (s'.xs.map f).isEmpty = s'.xs.isEmpty := by cases s'.xs <;> rfl
 refine OD.appendG kk hn hpol hs hx hK h1 h2 h3 h4 h5 h6 (.inr ⟨h7, isStr_gsl⟩) (fun st => elemsA_gsl st) (okElems_map (by rw [h6]; exact Nat.beq_refl _) hf _) (by rw [<- h6]; exact szOf_ok) (by simpa using hroom) fun t' => ?_
 rw [hem, <- List.map_append]
 exact k t'
inductive ResO (E : Env) (l : List (Nat × AV)) (L : List (Nat × AObj)) : List ResultVar -> List AV -> Prop
 | nil : ResO E l L [] []
 | tmp {t : Nat} {v : AV} {rs : List ResultVar} {vs : List AV} (h : lk l t = some v) (k : ResO E l L rs vs) : ResO E l L (.tmp t :: rs) (v :: vs)
 | cell (kk : Nat) {a t b i off sz : Nat} {xs : List AV} {e v : AV} {rs : List ResultVar} {vs : List AV} (h : lk l a = some (.ptr b i off)) (hL : L[kk]? = some (b, .row sz xs)) (he : xs[i]? = some e) (ho : Nat.ble off e.cells.length = true) (hp : partA E t (e.cells.drop off) 0 = some v) (k : ResO E l L rs vs) : ResO E l L (.cell a t :: rs) (v :: vs)
theorem ResO.res {tm : TM} {st : St} (hF : Fa N l L K tm st) : ∀ {rs : List ResultVar} {vs : List AV}, ResO E l L rs vs -> resL E tm st rs = some vs
 | _, _, .nil => rfl
 | _, _, .tmp h k => by simp only [resL, resA, hF.get _ _ h, k.res hF]
 | _, _, .cell kk h hL he ho hp k => by
  have h1 := hF.get _ _ h
  have h2 := (hF.obj kk _ _ hL).1
  have h3 := Nat.le_of_ble_eq_true ho
  simp only [resL, resA, h1, loadCells, h2, he]
  rw [if_pos h3]
  simp only [hp, k.res hF]
def tupOf : List AV -> AV
 | [v] => v
 | vs => .tup vs
theorem QS.retO {rs : List ResultVar} {vs : List AV} {Q : AV -> St -> Prop} (h : ResO E l L rs vs) (hq : ∀ st, SFa L K st -> Q (tupOf vs) st) : QS N .ret l L K (retQ E rs Q) := fun tm st hF => by
 refine retQ.ret (v := tupOf vs) ?_ (hq st hF.s)
 unfold resultsA
 rw [h.res hF]
 match vs with
 | [] => rfl
 | [_] => rfl
 | _ :: _ :: _ => rfl
theorem OD.storeG (kk : Nat) {t : TypeId} {x z : Operand} {y : Ty} {b j off sz : Nat} {xs cs : List AV} {v : AV} (hx : evL l x = some (.ptr b j off)) (hz : evL l z = some v) (ht : E.ty t = some y) (hL : L[kk]? = some (b, .row sz xs)) (hj : xs[j]? = some (.agg cs)) (hok : v.ok = true) (hc : v.cells.length = y.size) (ho : Nat.ble (off + v.cells.length) cs.length = true)
  (k : OS E false pol ops r (i + 1) N l (L.set kk (b, .row sz (xs.set j (.agg (cs.take off ++ v.cells ++ cs.drop (off + v.cells.length)))))) K Q) :
  OD E false pol ops { dst := none, op := .store t x z, type := ty, pos := pos, after := after, guard := guard } r i N l L K Q := by
 refine .loud rfl rfl (fun _ h => by cases h) fun tm st hF => ⟨.junk, st.put b (.row sz (xs.set j (.agg (cs.take off ++ v.cells ++ cs.drop (off + v.cells.length))))), _, _, _, ?_, hF.set hL _, k⟩
 have h0 : Abs.loud E noCall (pol i) tm st { dst := none, op := .store t x z, type := ty, pos := pos, after := after, guard := guard } = (match E.ty t with | some ty => if (evalO tm z).cells.length = ty.size then (storeA st (evalO tm x) (evalO tm z)).map fun s => (.junk, s) else none | none => none) := rfl
 have h3 := Nat.le_of_ble_eq_true ho
 rw [h0, ht, hF.ev hx, hF.ev hz]
 dsimp only
 rw [if_pos hc]
 simp only [storeA, (hF.obj kk b _ hL).1, hj]
 rw [if_pos (show (v.ok && decide (off + v.cells.length <= (AV.agg cs).cells.length)) = true by rw [hok, Bool.true_and]; exact decide_eq_true h3)]
 rfl
end
end Go.Abs
