/- Own text of this claim: part 14 of an interpreter that is proved sound against the model, and of what it shows of the law. -/
import Derived.Test.YthomnnnhkfjbdaaGreatRows
import Derived.WalkKit
import Derived.ProofKit
import Derived.OpenShut
import Derived.ShutString
import Derived.ChangeOld
import Derived.Below
import Derived.SizedLaws
import Derived.Carry
import Derived.Handed
import Derived.Lay
import Derived.MakeChecks
import Derived.Test.YthomnnnhkfjbdaaGreatAbs13
import Derived.Test.YthomnnnhkfjbdaaGreatAbs11
import Derived.Test.YthomnnnhkfjbdaaGreatAbs10
import Derived.Test.YthomnnnhkfjbdaaGreatAbs6
import Derived.Test.YthomnnnhkfjbdaaGreatAbs9
namespace Go.OptEnv
open Go Go.Proofs Go.Abs Go.RowKit Go.NetM
set_option maxRecDepth 10000
def ixF : List Bool -> Nat -> Int
 | [], _ => -1
 | b :: l, k => if b = false then (k : Int) else ixF l (k + 1)
theorem ixF_at : ∀ {l : List Bool} {i k : Nat}, l[i]? = some false -> false ∉ l.take i -> ixF l k = ((k + i : Nat) : Int)
 | b :: l, 0, k, h, _ => by
  simp only [List.getElem?_cons_zero, Option.some.injEq] at h
  unfold ixF; rw [if_pos h]; rfl
 | b :: l, i + 1, k, h, hn => by
  simp only [List.getElem?_cons_succ] at h
  simp only [List.take_succ_cons, List.mem_cons, not_or] at hn
  unfold ixF
  rw [if_neg (fun e => hn.1 e.symm), ixF_at h hn.2]
  omega
theorem ixF_no : ∀ {l : List Bool} {k : Nat}, false ∉ l -> ixF l k = -1
 | [], _, _ => rfl
 | b :: l, k, h => by
  simp only [List.mem_cons, not_or] at h
  unfold ixF
  rw [if_neg (fun e => h.1 e.symm), ixF_no h.2]
theorem ixF_mem {l : List Bool} (h : false ∈ l) : 0 <= ixF l 0 := by
 have : ∀ (l : List Bool) (k : Nat), false ∈ l -> 0 <= ixF l k := by
  intro l
  induction l with
  | nil => intro k h; cases h
  | cons b l ih =>
   intro k h
   unfold ixF
   split
   ·omega
   ·rename_i hb
    rcases List.mem_cons.1 h with e | e
    ·exact absurd e.symm hb
    ·exact ih (k + 1) e
 exact this l 0 h
def Rel111 : Rel := RelF (fun s : GSl Bool => s.xs.length <= 1000000) (fun s => [s.av 1 boolAV, .bool false]) fun s => .int .i64 (ixF s.xs 0)
def Rel60 : Rel := RelF (fun s : GSl Bool => s.xs.length <= 1000000) (fun s => [s.av 1 boolAV, .bool false]) fun s => .bool (decide (false ∈ s.xs))
theorem bool_plain2 (b : Bool) : AV.plain (boolAV b) = boolAV b := rfl
theorem use60s {pr : Prims} {L : List (Nat × AObj)} {K : List (Nat × Bool)} {st : St} (h : Has pr 60 Rel60) {kl lb N : Nat} {v : List Bool} (hL : L[kl]? = some (lb, .row 1 (v.map boolAV))) (hN : N = v.length) (hv : v.length <= 1000000) (hS : SFa L K st) : primOf Rel60 [.sl 1 lb 0 N, .bool false] st = some (.bool (decide (false ∈ v)), st) := by
 subst hN
 have hg := (hS.obj kl lb _ hL).1
 have hf2 : AV.free (.sl 1 lb 0 v.length) = false := rfl
 have e1 : viewA st 9 (.sl 1 lb 0 v.length) = some ((GSl.some v).av 1 boolAV) := by
  simp only [viewA, hf2, hg, Bool.false_eq_true, if_false]
  rw [if_pos ⟨trivial, by simp⟩, List.drop_zero, List.take_of_length_le (by simp)]
  have : mapO (viewA st 8) (v.map boolAV) = some (v.map boolAV) := by
   have h := mapO_free (st := st) 7 (xs := v.map boolAV) (freeL_map bool_free v)
   rw [plainL_map bool_plain2] at h
   exact h
  simp only [viewA] at this
  rw [this]; unfold GSl.av; rfl
 have e2 : viewA st 9 (.bool false) = some (.bool false) := viewA_free 8 rfl
 exact h.view (a := [(GSl.some v).av 1 boolAV, .bool false]) (r := .bool (decide (false ∈ v))) (by simp only [mapO, e1, e2]) ⟨GSl.some v, hv, rfl, rfl⟩ rfl
theorem fillT {α : Type} {l : List α} {z : α} {i : Nat} (h : i < l.length) : (l.take i ++ List.replicate (l.length - i) z).set i l[i] = l.take (i + 1) ++ List.replicate (l.length - (i + 1)) z := by
 rw [List.set_append_right _ _ (by rw [List.length_take]; omega), List.length_take, show i - min i l.length = 0 by omega, show l.length - i = (l.length - (i + 1)) + 1 by omega, List.replicate_succ, List.set_cons_zero, List.take_succ_eq_append_getElem h, List.append_assoc]
 rfl
theorem fillT_all {α : Type} {l : List α} {z : α} : l.take l.length ++ List.replicate (l.length - l.length) z = l := by
 rw [List.take_of_length_le (Nat.le_refl _), Nat.sub_self]; simp
theorem stuckAV_yes {n : GNet} (h : validM n = true) : stuckAV n = .tup [(GSl.of n.stuck).av 1 bitAV, .int .i64 0] := by unfold stuckAV; rw [if_pos h]
theorem keep_all {n : GNet} : (false ∈ keepB n.stuck) ↔ ¬ stayAll n := by
 unfold keepB stayAll
 rw [List.mem_map]
 constructor
 ·rintro ⟨b, hb, e⟩ h
  exact absurd (h b hb) (of_decide_eq_false e)
 ·intro h
  rw [Classical.not_forall] at h
  obtain ⟨b, hb⟩ := h
  rw [Classical.not_imp] at hb
  exact ⟨b, hb.1, decide_eq_false hb.2⟩
theorem fold_regs (n : GNet) : (foldN n).regs.xs.length = n.regs.xs.length /\ (foldN n).ins.xs = n.ins.xs := by
 unfold foldN
 obtain ⟨a, b⟩ := clean_same (shareN n)
 obtain ⟨e1, e2, _, _⟩ := lay_xs (n := n) (s := shareS n)
 exact ⟨by rw [a]; show (layN n (shareS n)).regs.xs.length = _; rw [e2, List.length_map], by rw [b]; exact e1⟩
structure SetOk (R : Nat) (m c : GNet) : Prop where
 v : validM c = true
 f : FitsN c
 i : c.ins.xs.length <= 120
 e : ∃ j, c.regs.xs.length <= j /\ settleP j c = settleP R m
theorem SetOk.step {R : Nat} {m c : GNet} (h : SetOk R m c) (hs : ¬ stayAll c) : SetOk R m (stepP c) := by
 obtain ⟨v, f, i, j, hj, e⟩ := h
 have hl := stepP_regs hs
 refine ⟨stepP_valid v, stepP_fits v f, by rw [stepP_ins]; exact i, ?_⟩
 cases j with
 | zero => omega
 | succ j => exact ⟨j, by omega, by rw [<- e]; simp only [settleP, if_neg hs]⟩
attribute [local irreducible] WS QS OS OD Abs.Sub SubO SubK CW GSl.av accA growA
section
variable {pr : Prims}
theorem run111 (h1 : pr 111 = none) (s : GSl Bool) (hs : s.xs.length <= 1000000) (st : St) : CW (En pr) 111 [s.av 1 boolAV, .bool false] st fun r _ => r = .int .i64 (ixF s.xs 0) := by
 refine CW.start (N := 19) h1 rfl rfl ?_
 repeat' (first | (refine OS.do rfl ?_; first | refine OD.auto rfl rfl ?_ | refine OD.len rfl rfl (fun _ => lenTy_av rfl rfl) ?_) | refine OS.nil ?_ | refine WS.seq ?_ | refine QS.seqN ?_ | refine WS.region ?_ | refine WS.block ?_)
 refine WS.rangeX (A := Unit) (n := s.xs.length) ⟨8, _, fun _ => [], fun _ => [], fun _ => [], fun i _ => false ∉ s.xs.take i⟩ (()) [0, 1, 7] (by simp) ?_ ?_
 ·rintro i _ hi hI
  try dsimp only at hI
  have hx : s.xs[i]? = some s.xs[i] := List.getElem?_eq_getElem hi
  dsimp only [RSt.at, List.cons_append, List.nil_append]
  repeat' (first | (refine OS.do rfl ?_; first | refine OD.auto rfl rfl ?_ | refine OD.indexAddr rfl rfl rfl (indexAddrA_nat rfl rfl rfl rfl (by first | assumption | exact List.getElem?_eq_getElem (by omega))) ?_) | refine OS.nil ?_ | refine WS.seq ?_ | refine QS.seqN ?_ | refine WS.region ?_ | refine WS.condD rfl (fun _ => ?_) (fun _ => ?_) | refine WS.skip ?_ | refine WS.ret ?_ | refine QS.seqR ?_ | refine QS.rangeR ?_)
  ·rename_i hb
   exact QS.retR (by rfl) fun _ => by rw [ixF_at (by rw [hx, <- hb]) hI, Nat.zero_add]
  ·rename_i hb
   exact QS.rangeX (()) (by (try dsimp only) <;> exact (by rw [List.take_succ_eq_append_getElem hi, List.mem_append, not_or]; exact ⟨hI, by simpa using hb⟩))
 rintro _ hI
 try dsimp only at hI
 rw [List.take_of_length_le (Nat.le_refl _)] at hI
 dsimp only [RSt.at, List.cons_append, List.nil_append]
 repeat' (first | (refine OS.do rfl ?_; first | refine OD.auto rfl rfl ?_) | refine OS.nil ?_ | refine WS.seq ?_ | refine QS.seqN ?_ | refine WS.region ?_ | refine WS.ret ?_)
 exact QS.retR (by rfl) fun _ => by rw [ixF_no hI]; rfl
theorem con111 (h1 : pr 111 = none) : Con2 (En pr) 111 Rel111 := con_eq (fun d => by simp [AV.freeL, AV.free, free_av bool_free]) (fun _ => ⟨rfl, rfl⟩) fun d hd st => run111 h1 d hd st
theorem run60 (h1 : pr 60 = none) (h111 : Has pr 111 Rel111) (s : GSl Bool) (hs : s.xs.length <= 1000000) (st : St) : CW (En pr) 60 [s.av 1 boolAV, .bool false] st fun r _ => r = .bool (decide (false ∈ s.xs)) := by
 have u : ∀ st, primOf Rel111 [s.av 1 boolAV, .bool false] st = some (.int .i64 (ixF s.xs 0), st) := fun st => h111.use ⟨s, hs, by simp [AV.plainL, AV.plain, plain_av bool_plain2], rfl⟩ st
 refine CW.start (N := 9) h1 rfl rfl ?_
 repeat' (first | (refine OS.do rfl ?_; first | refine OD.auto rfl rfl ?_ | refine OD.call rfl rfl rfl h111.eq u (fun _ => rfl) ?_) | refine OS.nil ?_ | refine WS.seq ?_ | refine QS.seqN ?_ | refine WS.region ?_ | refine WS.ret ?_)
 refine QS.retR (by rfl) fun _ => ?_
 show AV.bool _ = _
 congr 1
 rw [Bool.eq_iff_iff]
 by_cases h : false ∈ s.xs
 ·have := ixF_mem h
  simp [h, this]
 ·have := ixF_no (k := 0) h
  simp [h, this]
theorem con60 (h1 : pr 60 = none) (h111 : Has pr 111 Rel111) : Con2 (En pr) 60 Rel60 := con_eq (fun d => by simp [AV.freeL, AV.free, free_av bool_free]) (fun _ => ⟨rfl, rfl⟩) fun d hd st => run60 h1 h111 d hd st
theorem use22' (h : Has pr 22 Rel22) {n : GNet} (hn : FitsN n) (hi : n.ins.xs.length <= 120) (st : St) : primOf Rel22 [netAV n] st = some (stuckAV n, st) := h.use ⟨n, ⟨hn, hi⟩, by simp [AV.plainL, net_plain], rfl⟩ st
set_option maxHeartbeats 4000000 in
theorem run24 (h1 : pr 24 = none) (h17 : Has pr 17 Rel17) (h22 : Has pr 22 Rel22) (h60 : Has pr 60 Rel60) (h61 : pr 61 = none) (h67 : Has pr 67 Rel67) (h66 : pr 66 = none) (h112 : Has pr 112 Rel112) (h57 : Has pr 57 Rel57) (h62 : pr 62 = none) (h95 : pr 95 = none) (h117 : pr 117 = none) (h94 : pr 94 = none) (h81 : pr 81 = none) (h118 : pr 118 = none) (h137 : pr 137 = none) (h138 : Has pr 138 Rel138) (h80 : pr 80 = none) (h51 : Has pr 51 Rel51) (n : GNet) (hn : FitsN n) (hi120 : n.ins.xs.length <= 120) (st : St) :
  CW (En pr) 24 [netAV n] st fun r _ => AV.free r = true /\ AV.plain r = resAV n (settleP n.regs.xs.length (foldN n)) := by
 have u17 := use17 h17 hn
 rcases (Bool.eq_false_or_eq_true (validM n)).symm with hV | hV
 ·rw [res_no hV] at u17
  refine CW.start (N := 61) h1 rfl rfl ?_
  repeat' (first | (refine OS.do rfl ?_; first | refine OD.box rfl rfl rfl rfl (net_ok _) rfl (fun b1 => ?_) | refine OD.auto rfl rfl ?_ | refine OD.loadP 1 rfl rfl rfl rfl rfl rfl ?_ | refine OD.alloc rfl rfl rfl rfl (fun _ => ?_) | refine OD.storeW 0 rfl rfl rfl rfl (by first | rfl | exact net_ok _) rfl rfl rfl ?_ | refine OD.storeW 1 rfl rfl rfl rfl (by first | rfl | exact net_ok _) rfl rfl rfl ?_ | refine OD.call rfl rfl rfl h17.eq u17 (fun _ => rfl) ?_) | refine OS.nil ?_ | refine WS.seq ?_ | refine QS.seqN ?_ | refine WS.region ?_ | refine WS.condT rfl ?_ | refine WS.ret ?_ | refine QS.seqR ?_)
  refine QS.retO (ResO.cell 0 (by rfl) (by rfl) (by rfl) (by rfl) (by rfl) (.tmp (by rfl) .nil)) fun st hs => ⟨rfl, ?_⟩
  rw [res_no hV]; rfl
 obtain ⟨hfr, hfi⟩ := fold_regs n
 have h0 : SetOk n.regs.xs.length (foldN n) (foldN n) := ⟨fold_valid hV, fold_fits hV hn, by rw [hfi]; exact hi120, n.regs.xs.length, by rw [hfr]; exact Nat.le_refl _, rfl⟩
 rw [res_yes hV] at u17
 have z : ∀ (m : GNet) (st : St), freezeA st (.tup [netAV m, .int .i64 0]) = some (.tup [netAV m, .int .i64 0], st) := fun m st => freeze_free (by simp [AV.free, AV.freeL, net_free])
 have z2 : ∀ (m : GNet) (st : St), freezeA st (netAV m) = some (netAV m, st) := fun m st => freeze_free (net_free m)
 have z3 : ∀ (S : List UInt8) (st : St), freezeA st (.tup [(GSl.of S).av 1 bitAV, .int .i64 0]) = some (.tup [(GSl.of S).av 1 bitAV, .int .i64 0], st) := fun m st => freeze_free (by simp [AV.free, AV.freeL, free_av bit_free])
 refine CW.start (N := 61) h1 rfl rfl ?_
 repeat' (first | (refine OS.do rfl ?_; first | refine OD.box rfl rfl rfl rfl (net_ok _) rfl (fun b1 => ?_) | refine OD.storeW 1 rfl rfl rfl rfl (net_ok _) rfl rfl rfl ?_ | refine OD.auto rfl rfl ?_ | refine OD.loadP 1 rfl rfl rfl rfl rfl rfl ?_ | refine OD.alloc rfl rfl rfl rfl (fun _ => ?_) | refine OD.call rfl rfl rfl h17.eq u17 (z _) ?_) | refine OS.nil ?_ | refine WS.seq ?_ | refine QS.seqN ?_ | refine WS.region ?_ | refine WS.condF rfl ?_ | refine WS.skip ?_ | refine WS.block ?_)
 rename_i b2
 refine WS.loopX (D := GNet) [1, 2] (fun _ => []) (fun c => [(b2, .row ty27.size [ty27.zeroV]), (b1, .row ty27.size [netAV c])]) (fun _ => []) (fun c => SetOk n.regs.xs.length (foldN n) c) (fun c => c.regs.xs.length) (foldN n) (h0) ?_
 rintro c hc
 have hcV := hc.v
 obtain ⟨f1, f2, f3, f4⟩ := valid_len hcV
 have u22 := use22' h22 hc.f hc.i
 rw [stuckAV_yes hcV] at u22
 have hSl := stuck_len c
 have hS2 := stuck_le2 hcV
 have hSt := lit_stand hcV
 generalize hSe : c.stuck = S at u22 hSl hS2 hSt
 dsimp only [RSt.at, List.cons_append, List.nil_append]
 repeat' (first | (refine OS.do rfl ?_; first | refine OD.auto rfl rfl ?_ | refine OD.loadP 1 rfl rfl rfl rfl rfl rfl ?_ | refine OD.call rfl rfl rfl h22.eq u22 (z3 _) ?_) | refine OS.nil ?_ | refine WS.seq ?_ | refine QS.seqN ?_ | refine WS.region ?_ | refine WS.condF rfl ?_ | refine WS.skip ?_ | refine WS.block ?_)
 refine WS.makes2 (a0 := (GSl.of S).av 1 bitAV) (a1 := AV.int .i64 (S.length : Int)) (a3 := (GSl.of S).av 1 bitAV) (a4 := AV.int .i64 (S.length : Int)) (v6 := fun b => AV.sl ty4.size (b + 2) 0 S.length) (v7 := fun b => AV.sl ty3.size (b + 5) 0 S.length) (l' := fun b => (8, AV.sl ty3.size (b + 5) 0 S.length) :: (7, AV.sl ty4.size (b + 2) 0 S.length) :: (34, AV.sl ty3.size (b + 5) 0 S.length) :: (33, AV.int .i64 (S.length : Int)) :: (32, (GSl.of S).av 1 bitAV) :: (31, AV.sl ty4.size (b + 2) 0 S.length) :: (30, AV.int .i64 (S.length : Int)) :: (29, (GSl.of S).av 1 bitAV) :: ?l) rfl rfl rfl rfl rfl rfl rfl rfl rfl rfl rfl rfl rfl rfl rfl rfl rfl rfl rfl (n := S.length) (m := S.length) (fun b => ?h) (fun b => ?k)
 case h =>
  refine RunsM.quiet rfl rfl rfl rfl (fun _ _ hF => quietS_sound rfl hF) ?_
  refine RunsM.quiet rfl rfl rfl rfl (fun tm st hF => by
   show lenTy (En pr) st 34 (evalO tm (.tmp 29)) = _
   rw [hF.ev (v := (GSl.of S).av 1 bitAV) rfl]
   exact (lenTy_av rfl rfl).trans (by rw [gof_xs])
   ) ?_
  refine RunsM.make (n := S.length) rfl rfl rfl rfl rfl rfl rfl rfl (roomB rfl (by omega)) ?_
  refine RunsM.quiet rfl rfl rfl rfl (fun _ _ hF => quietS_sound rfl hF) ?_
  refine RunsM.quiet rfl rfl rfl rfl (fun tm st hF => by
   show lenTy (En pr) st 34 (evalO tm (.tmp 32)) = _
   rw [hF.ev (v := (GSl.of S).av 1 bitAV) rfl]
   exact (lenTy_av rfl rfl).trans (by rw [gof_xs])
   ) ?_
  refine RunsM.make (n := S.length) rfl rfl rfl rfl rfl rfl rfl rfl (roomB rfl (by omega)) ?_
  refine RunsM.quiet rfl rfl rfl rfl (fun _ _ hF => quietS_sound rfl hF) ?_
  refine RunsM.quiet rfl rfl rfl rfl (fun _ _ hF => quietS_sound rfl hF) ?_
  exact RunsM.nil
 generalize b + 5 = lb
 generalize b + 2 = kb
 have hll : (litB S).length = S.length := List.length_map _
 have hkl : (keepB S).length = S.length := List.length_map _
 rw [show List.replicate S.length ty3.zeroV = (((litB S).take 0 ++ List.replicate ((litB S).length - 0) 0)).map intAV by rw [List.take_zero, List.nil_append, Nat.sub_zero, hll]; exact rep_int _, show List.replicate S.length ty4.zeroV = (((keepB S).take 0 ++ List.replicate ((keepB S).length - 0) false)).map boolAV by rw [List.take_zero, List.nil_append, Nat.sub_zero, hkl]; exact rep_bool _]
 repeat' (first | (refine OS.do rfl ?_; first | refine OD.auto rfl rfl ?_ | refine OD.len rfl rfl (fun _ => lenTy_av rfl rfl) ?_) | refine OS.nil ?_ | refine WS.seq ?_ | refine QS.seqN ?_ | refine WS.region ?_ | refine WS.block ?_)
 refine WS.rangeX (A := Nat) (n := S.length) ⟨37, _, fun _ => [], fun a => [(lb, .row ty3.size ((((litB S).take a ++ List.replicate ((litB S).length - a) 0)).map intAV)), (kb, .row ty4.size ((((keepB S).take a ++ List.replicate ((keepB S).length - a) false)).map boolAV)), (b2, .row ty27.size [ty27.zeroV]), (b1, .row ty27.size [netAV c])], fun _ => [], fun i a => a = i⟩ (0) [1, 2, 7, 8, 35, 36] (rfl) ?_ ?_
 ·rintro i a hi ha
  try dsimp only at ha
  subst ha
  have hsx : (GSl.of S).xs[a]? = some S[a] := by rw [gof_xs]; exact List.getElem?_eq_getElem hi
  have hkj : ((((keepB S).take a ++ List.replicate ((keepB S).length - a) false)).map boolAV)[a]? = some (.bool false) := by
   rw [List.getElem?_map, List.getElem?_append_right (by rw [List.length_take]; omega), List.length_take, List.getElem?_replicate, if_pos (by omega)]; rfl
  have hlj : ((((litB S).take a ++ List.replicate ((litB S).length - a) 0)).map intAV)[a]? = some (.int .i64 0) := by
   rw [List.getElem?_map, List.getElem?_append_right (by rw [List.length_take]; omega), List.length_take, List.getElem?_replicate, if_pos (by omega)]; rfl
  have hbe : ((S[a].toNat : Int) == 2) = decide (S[a] = 2) := by
   rw [Bool.eq_iff_iff]
   simp only [beq_iff_eq, decide_eq_true_eq]
   constructor
   ·intro h; exact UInt8.toNat_inj.1 (by have : (2 : UInt8).toNat = 2 := rfl; omega)
   ·intro h; rw [h]; rfl
  have hwe : IntKind.i64.wrap (S[a].toNat : Int) = (S[a].toNat : Int) := by
   have := S[a].toNat_lt
   exact wrap64 (by omega) (by omega)
  have hks : ((((keepB S).take a ++ List.replicate ((keepB S).length - a) false)).map boolAV).set a (.bool ((S[a].toNat : Int) == 2)) = (((keepB S).take (a + 1) ++ List.replicate ((keepB S).length - (a + 1)) false)).map boolAV := by
   rw [<- fillT (by omega), List.map_set]
   congr 1
   rw [hbe]
   show _ = boolAV (keepB S)[a]
   unfold keepB
   rw [List.getElem_map]; rfl
  have hls : ((((litB S).take a ++ List.replicate ((litB S).length - a) 0)).map intAV).set a (.int .i64 (IntKind.i64.wrap (S[a].toNat : Int))) = (((litB S).take (a + 1) ++ List.replicate ((litB S).length - (a + 1)) 0)).map intAV := by
   rw [<- fillT (by omega), List.map_set]
   congr 1
   rw [hwe]
   show _ = intAV (litB S)[a]
   unfold litB
   rw [List.getElem_map]; rfl
  dsimp only [RSt.at, List.cons_append, List.nil_append]
  repeat' (first | (refine OS.do rfl ?_; first | refine OD.indexAddr rfl rfl rfl (indexAddrA_nat rfl rfl rfl rfl hsx) ?_ | refine OD.auto rfl rfl ?_ | refine OD.indexAddr rfl rfl rfl (indexAddrA_sl rfl rfl rfl rfl (by omega)) ?_ | refine OD.storeB 1 rfl rfl rfl rfl rfl hkj ?_ | refine OD.storeI 0 rfl rfl rfl rfl rfl hlj ?_) | refine OS.nil ?_ | refine WS.seq ?_ | refine QS.seqN ?_ | refine WS.region ?_)
  rw [hks, hls]
  exact QS.rangeX (a + 1) (by (try dsimp only) <;> exact (rfl)) (hL := by (try dsimp only); exact SubO.refl _)
 rintro a ha
 try dsimp only at ha
 subst ha
 have hkr : keepB S = (keepB S).take S.length ++ List.replicate ((keepB S).length - S.length) false := by rw [<- hkl]; exact fillT_all.symm
 have hlr : litB S = (litB S).take S.length ++ List.replicate ((litB S).length - S.length) 0 := by rw [<- hll]; exact fillT_all.symm
 have hstep : againN c (keepB S) (litB S) = stepP c := by rw [<- hSe]; rfl
 have hstay : (false ∈ keepB S) ↔ ¬ stayAll c := by rw [<- hSe]; exact keep_all
 have c61 : ∀ st, SFa [(lb, .row ty3.size ((litB S).map intAV)), (kb, .row ty4.size ((keepB S).map boolAV)), (b2, .row ty27.size [ty27.zeroV]), (b1, .row ty27.size [netAV c])] [] st -> CW (En pr) 61 [netAV c, .sl ty4.size kb 0 S.length, .sl ty3.size lb 0 S.length, .fn 62 [] []] st fun r st' => r = netAV (stepP c) /\ SFa [(lb, .row ty3.size ((litB S).map intAV)), (kb, .row ty4.size ((keepB S).map boolAV)), (b2, .row ty27.size [ty27.zeroV]), (b1, .row ty27.size [netAV c])] [] st' := fun st hS => by
  have := run61 h61 h67 h66 h112 h57 h62 h95 h117 h94 h81 h118 h137 h138 h80 h51 1 0 (kr := keepB S) (ls := litB S) rfl rfl c hcV hc.f (by omega) (by omega) hSt hS
  rw [<- hSl, hstep] at this
  exact this
 dsimp only [RSt.at, List.cons_append, List.nil_append]
 rw [<- hkr, <- hlr]
 repeat' (first | (refine OS.do rfl ?_; first | refine OD.storeW 2 rfl rfl rfl rfl (net_ok _) rfl rfl rfl ?_ | refine OD.storeW 3 rfl rfl rfl rfl (net_ok _) rfl rfl rfl ?_ | refine OD.auto rfl rfl ?_ | refine OD.loadP 3 rfl rfl rfl rfl rfl rfl ?_ | (refine OD.callV rfl rfl rfl h60.eq (fun st hS => use60s h60 (kl := 1) rfl hkl.symm (by omega) hS) (fun _ => rfl) ?_) | refine OD.callS rfl rfl rfl c61 (z2 _) ?_) | refine OS.nil ?_ | refine WS.seq ?_ | refine QS.seqN ?_ | refine WS.region ?_ | refine WS.skip ?_ | refine WS.ret ?_ | refine QS.seqR ?_ | refine QS.blockR ?_ | refine QS.loopR ?_ | refine QS.blockN ?_ | refine WS.condN rfl (fun _ => ?_) (fun _ => ?_))
 ·rename_i hb
  have hst : stayAll c := by
   refine Classical.not_not.1 fun h => ?_
   rw [decide_eq_true (hstay.2 h)] at hb
   cases hb
  obtain ⟨j, hj, e⟩ := hc.e
  have e : c = settleP n.regs.xs.length (foldN n) := by rw [<- e, settleP_stay hst]
  refine QS.retO (ResO.cell 2 (by rfl) (by rfl) (by rfl) (by rfl) (by rfl) (.tmp (by rfl) .nil)) fun st hs => ?_
  rw [res_yes hV, <- e]
  exact ⟨by show AV.free (.tup [netAV c, .int .i64 0]) = true; simp [AV.free, AV.freeL, net_free], by show AV.plain (.tup [netAV c, .int .i64 0]) = _; simp only [AV.plain, AV.plainL, net_plain]⟩
 ·rename_i hb
  have hns : ¬ stayAll c := fun h => by
   rw [decide_eq_false (fun d => hstay.1 d h)] at hb
   cases hb
  try dsimp only [List.set_cons_zero, List.set_cons_succ]
  exact QS.loopX (stepP c) (by exact (hc.step hns)) (by exact (stepP_regs hns))
def Rel24 : Rel := RelF (fun n : GNet => FitsN n /\ n.ins.xs.length <= 120) (fun n => [netAV n]) fun n => resAV n (settleP n.regs.xs.length (foldN n))
theorem con24 (h1 : pr 24 = none) (h17 : Has pr 17 Rel17) (h22 : Has pr 22 Rel22) (h60 : Has pr 60 Rel60) (h61 : pr 61 = none) (h67 : Has pr 67 Rel67) (h66 : pr 66 = none) (h112 : Has pr 112 Rel112) (h57 : Has pr 57 Rel57) (h62 : pr 62 = none) (h95 : pr 95 = none) (h117 : pr 117 = none) (h94 : pr 94 = none) (h81 : pr 81 = none) (h118 : pr 118 = none) (h137 : pr 137 = none) (h138 : Has pr 138 Rel138) (h80 : pr 80 = none) (h51 : Has pr 51 Rel51) : Con2 (En pr) 24 Rel24 := con_of (fun d => by simp [AV.freeL, net_free]) fun d hd st => run24 h1 h17 h22 h60 h61 h67 h66 h112 h57 h62 h95 h117 h94 h81 h118 h137 h138 h80 h51 d hd.1 hd.2 st
theorem use24 (h : Has pr 24 Rel24) {n : GNet} (hn : FitsN n) (hi : n.ins.xs.length <= 120) (st : St) : primOf Rel24 [netAV n] st = some (resAV n (settleP n.regs.xs.length (foldN n)), st) := h.use ⟨n, ⟨hn, hi⟩, by simp [AV.plainL, net_plain], rfl⟩ st
end
end Go.OptEnv
namespace Go.OptEnv
open Go Go.Proofs Go.Abs Go.RowKit Go.NetM
set_option maxRecDepth 10000
def LittleN (n : GNet) : Prop := n.ins.xs.length <= 120 /\ n.regs.xs.length <= 120 /\ n.gates.xs.length <= 300
def Rel29 : Rel := RelF (fun n : GNet => FitsN n /\ LittleN n) (fun n => [netAV n]) fun n => resAV n (mergeP n)
theorem SFa.frozen {L : List (Nat × AObj)} {st : St} {b : Nat} {o : AObj} (h : SFa ((b, o) :: L) [] st) : SFa L [] ((st.drop b).newTok) := by
 refine ⟨fun k b' o' hk => ?_, fun k k' b' o1 o2 h1 h2 => ?_, fun _ _ h => by simp at h, fun _ _ _ h => by simp at h⟩
 ·have h1 := h.obj (k + 1) b' o' hk
  refine ⟨?_, by simp only [St.next_newTok, St.next_drop]; omega⟩
  rw [St.get_newTok, St.get_drop, if_neg]
  ·exact h1.1
  ·rintro rfl
   have := h.uniq 0 (k + 1) b o o' rfl hk
   omega
 ·have := h.uniq (k + 1) (k' + 1) b' o1 o2 h1 h2
  omega
theorem freeze_cls {st : St} {b : Nat} {c : List Nat} {N : Nat} (hN : c.length = N) (hg : st.get b = some (.row 1 (c.map natAV))) : freezeA st (.tup [.sl 1 b 0 N, .int .i64 0]) = some (.tup [growA true st.next 1 (c.map natAV), .int .i64 0], (st.drop b).newTok) := by
 have e : freezeC st (.sl 1 b 0 N) = some (growA true st.next 1 (c.map natAV), (st.drop b).newTok) := by
  simp only [freezeC, hg]
  rw [if_pos ⟨trivial, by simp [hN]⟩, if_pos (by simp [hN])]
  have : ((c.map natAV).drop 0).take N = c.map natAV := by rw [List.drop_zero, List.take_of_length_le (by simp [hN])]
  rw [this]; rfl
 simp only [freezeA, freezeM, freezeB, e]
 rfl
attribute [local irreducible] WS QS OS OD Abs.Sub SubO SubK CW GSl.av accA growA
section
variable {pr : Prims} {L : List (Nat × AObj)} {st : St}
theorem run27z (h27 : pr 27 = none) (h57 : Has pr 57 Rel57) (h64 : pr 64 = none) (h65 : pr 65 = none) (h66 : pr 66 = none) (h112 : Has pr 112 Rel112) (h67 : Has pr 67 Rel67) (h62 : pr 62 = none) (h95 : pr 95 = none) (h117 : pr 117 = none) (h94 : pr 94 = none) (h68 : pr 68 = none)
  (n : GNet) (hn : FitsN n) (hv : validM n = true) (hsm : LittleN n) (hS : SFa L [] st) :
  CW (En pr) 27 [netAV n] st fun r st' => ∃ (d : Nat) (st2 : St), True /\ freezeA st' r = some (.tup [growA true d 1 ((twinsN n).map natAV), .int .i64 0], st2) /\ SFa L [] st2 :=
 (run27 h27 h57 h64 h65 h66 h112 h67 h62 h95 h117 h94 h68 n hn hv hsm.1 hsm.2.1 hsm.2.2 hS).mono fun r st' ⟨d, hd, e, hs⟩ => by
  have hcl : d.1.length = n.regs.xs.length := by rw [(hd.1.class (by simp [GNet.inits, GNet.nexts])).len, ini_len]
  exact ⟨st'.next, _, trivial, by rw [e, twins_eq hd]; exact freeze_cls hcl (hs.obj 0 _ _ rfl).1, SFa.frozen hs⟩
theorem run27n (h27 : pr 27 = none) (h57 : Has pr 57 Rel57) (n : GNet) (hn : FitsN n) (hv : validM n = false) (hS : SFa L [] st) :
  CW (En pr) 27 [netAV n] st fun r st' => r = .tup [.nilsl, .int .i64 2] /\ SFa L [] st' := by
 have u57 := use57 h57 hn
 rw [hv] at u57
 refine CW.startS (N := 180) h27 rfl rfl hS ?_
 repeat' (first | (refine OS.do rfl ?_; first | refine OD.box rfl rfl rfl rfl (net_ok _) rfl (fun b1 => ?_) | refine OD.loadP 0 rfl rfl rfl rfl rfl rfl ?_ | refine OD.auto rfl rfl ?_ | refine OD.call rfl rfl rfl h57.eq u57 (fun _ => rfl) ?_) | refine OS.nil ?_ | refine WS.seq ?_ | refine QS.seqN ?_ | refine WS.region ?_ | refine WS.condT rfl ?_ | refine WS.ret ?_ | refine QS.seqR ?_)
 exact QS.retRS (by rfl) fun st hs => ⟨rfl, hs.subO (.drop (.refl _))⟩
set_option maxHeartbeats 4000000 in
theorem run29 (h1 : pr 29 = none) (h27 : pr 27 = none) (h57 : Has pr 57 Rel57) (h64 : pr 64 = none) (h65 : pr 65 = none) (h66 : pr 66 = none) (h112 : Has pr 112 Rel112) (h67 : Has pr 67 Rel67) (h62 : pr 62 = none) (h95 : pr 95 = none) (h117 : pr 117 = none) (h94 : pr 94 = none) (h68 : pr 68 = none) (h61 : pr 61 = none) (h81 : pr 81 = none) (h118 : pr 118 = none) (h137 : pr 137 = none) (h138 : Has pr 138 Rel138) (h80 : pr 80 = none) (h51 : Has pr 51 Rel51) (n : GNet) (hn : FitsN n) (hsm : LittleN n) (st : St) :
  CW (En pr) 29 [netAV n] st fun r _ => AV.free r = true /\ AV.plain r = resAV n (mergeP n) := by
 rcases (Bool.eq_false_or_eq_true (validM n)).symm with hV | hV
 ·refine CW.start (N := 53) h1 rfl rfl ?_
  repeat' (first | (refine OS.do rfl ?_; first | refine OD.box rfl rfl rfl rfl (net_ok _) rfl (fun b1 => ?_) | refine OD.auto rfl rfl ?_ | refine OD.loadP 1 rfl rfl rfl rfl rfl rfl ?_ | refine OD.alloc rfl rfl rfl rfl (fun _ => ?_) | refine OD.storeW 0 rfl rfl rfl rfl (by first | rfl | exact net_ok _) rfl rfl rfl ?_ | (refine OD.callP (fun r => r = .tup [.nilsl, .int .i64 2]) rfl rfl rfl (fun st hS => run27n h27 h57 n hn hV hS.noK) (by rintro v st rfl; rfl) ?_; rintro v rfl)) | refine OS.nil ?_ | refine WS.seq ?_ | refine QS.seqN ?_ | refine WS.region ?_ | refine WS.condT rfl ?_ | refine WS.ret ?_ | refine QS.seqR ?_)
  refine QS.retO (ResO.cell 0 (by rfl) (by rfl) (by rfl) (by rfl) (by rfl) (.tmp (by rfl) .nil)) fun st hs => ⟨rfl, ?_⟩
  rw [res_no hV]; rfl
 obtain ⟨f1, f2, f3, f4⟩ := valid_len hV
 have hcl := twins_len n
 have hcan := (twins_class n).canon
 have c27 : ∀ (L : List (Nat × AObj)) (st : St), SFa L [] st -> CW (En pr) 27 [netAV n] st fun r st' => ∃ (d : Nat) (st2 : St), True /\ freezeA st' r = some (.tup [growA true d 1 ((twinsN n).map natAV), .int .i64 0], st2) /\ SFa L [] st2 := fun L st hS => run27z h27 h57 h64 h65 h66 h112 h67 h62 h95 h117 h94 h68 n hn hV hsm hS
 have hSt := merge_stand n
 have hmp : againN n (keepT (twinsN n)) (litT n.k0 (twinsN n)) = mergeP n := rfl
 generalize twinsN n = c at *
 refine CW.start (N := 53) h1 rfl rfl ?_
 repeat' (first | (refine OS.do rfl ?_; first | refine OD.box rfl rfl rfl rfl (net_ok _) rfl (fun b1 => ?_) | refine OD.auto rfl rfl ?_ | refine OD.loadP 1 rfl rfl rfl rfl rfl rfl ?_ | refine OD.alloc rfl rfl rfl rfl (fun _ => ?_) | (refine OD.callZ (D := Nat) (fun _ => True) (fun d => .tup [growA true d 1 (c.map natAV), .int .i64 0]) (fun _ => _) (fun _ => []) rfl rfl rfl rfl (c27 _) ?_; rintro tk _)) | refine OS.nil ?_ | refine WS.seq ?_ | refine QS.seqN ?_ | refine WS.region ?_ | refine WS.condF rfl ?_ | refine WS.skip ?_)
 rename_i b2 _
 refine WS.makes2 (a0 := growA true tk 1 (c.map natAV)) (a1 := AV.int .i64 (c.length : Int)) (a3 := growA true tk 1 (c.map natAV)) (a4 := AV.int .i64 (c.length : Int)) (v6 := fun b => AV.sl ty4.size (b + 2) 0 c.length) (v7 := fun b => AV.sl ty3.size (b + 5) 0 c.length) (l' := fun b => (7, AV.sl ty3.size (b + 5) 0 c.length) :: (6, AV.sl ty4.size (b + 2) 0 c.length) :: (24, AV.sl ty3.size (b + 5) 0 c.length) :: (23, AV.int .i64 (c.length : Int)) :: (22, growA true tk 1 (c.map natAV)) :: (21, AV.sl ty4.size (b + 2) 0 c.length) :: (20, AV.int .i64 (c.length : Int)) :: (19, growA true tk 1 (c.map natAV)) :: ?l) rfl rfl rfl rfl rfl rfl rfl rfl rfl rfl rfl rfl rfl rfl rfl rfl rfl rfl rfl (n := c.length) (m := c.length) (fun b => ?h) (fun b => ?k)
 case h =>
  refine RunsM.quiet rfl rfl rfl rfl (fun _ _ hF => quietS_sound rfl hF) ?_
  refine RunsM.quiet rfl rfl rfl rfl (fun tm st hF => by
   show lenTy (En pr) st 38 (evalO tm (.tmp 19)) = _
   rw [hF.ev (v := growA true tk 1 (c.map natAV)) rfl]
   exact lenTy_grow rfl rfl) ?_
  refine RunsM.make (n := c.length) rfl rfl rfl rfl rfl rfl rfl rfl (roomB rfl (by omega)) ?_
  refine RunsM.quiet rfl rfl rfl rfl (fun _ _ hF => quietS_sound rfl hF) ?_
  refine RunsM.quiet rfl rfl rfl rfl (fun tm st hF => by
   show lenTy (En pr) st 38 (evalO tm (.tmp 22)) = _
   rw [hF.ev (v := growA true tk 1 (c.map natAV)) rfl]
   exact lenTy_grow rfl rfl) ?_
  refine RunsM.make (n := c.length) rfl rfl rfl rfl rfl rfl rfl rfl (roomB rfl (by omega)) ?_
  refine RunsM.quiet rfl rfl rfl rfl (fun _ _ hF => quietS_sound rfl hF) ?_
  refine RunsM.quiet rfl rfl rfl rfl (fun _ _ hF => quietS_sound rfl hF) ?_
  exact RunsM.nil
 generalize b + 5 = lb
 generalize b + 2 = kb
 have hk0 : n.k0 = 1 + n.ins.xs.length := rfl
 have hll : (litT n.k0 c).length = c.length := litT_len _ _
 have hkl : (keepT c).length = c.length := keepT_len _
 rw [show List.replicate c.length ty3.zeroV = (((litT n.k0 c).take 0 ++ List.replicate ((litT n.k0 c).length - 0) 0)).map intAV by rw [List.take_zero, List.nil_append, Nat.sub_zero, hll]; exact rep_int _, show List.replicate c.length ty4.zeroV = (((keepT c).take 0 ++ List.replicate ((keepT c).length - 0) false)).map boolAV by rw [List.take_zero, List.nil_append, Nat.sub_zero, hkl]; exact rep_bool _]
 repeat' (first | (refine OS.do rfl ?_; first | refine OD.auto rfl rfl ?_ | refine OD.len rfl rfl (fun _ => lenTy_grow rfl rfl) ?_) | refine OS.nil ?_ | refine WS.seq ?_ | refine QS.seqN ?_ | refine WS.region ?_ | refine WS.block ?_)
 refine WS.objs SubO.swap ?_
 refine WS.rangeX (A := Nat) (n := c.length) ⟨27, _, fun _ => [], fun a => [(kb, .row ty4.size ((((keepT c).take a ++ List.replicate ((keepT c).length - a) false)).map boolAV)), (lb, .row ty3.size ((((litT n.k0 c).take a ++ List.replicate ((litT n.k0 c).length - a) 0)).map intAV)), (b2, .row ty27.size [ty27.zeroV]), (b1, .row ty27.size [netAV n])], fun _ => [], fun i a => a = i⟩ (0) [1, 2, 6, 7, 25, 26] (rfl) ?_ ?_
 ·rintro i a hi ha
  try dsimp only at ha
  subst ha
  have hci : c[((a : Nat) : Int).toNat]? = some c[a] := by rw [Int.toNat_natCast]; exact List.getElem?_eq_getElem hi
  have hca : c[a] <= a := (canon_at hcan hi).1
  have hkj : ((((keepT c).take a ++ List.replicate ((keepT c).length - a) false)).map boolAV)[a]? = some (.bool false) := by
   rw [List.getElem?_map, List.getElem?_append_right (by rw [List.length_take]; omega), List.length_take, List.getElem?_replicate, if_pos (by omega)]; rfl
  have hlj : ((((litT n.k0 c).take a ++ List.replicate ((litT n.k0 c).length - a) 0)).map intAV)[a]? = some (.int .i64 0) := by
   rw [List.getElem?_map, List.getElem?_append_right (by rw [List.length_take]; omega), List.length_take, List.getElem?_replicate, if_pos (by omega)]; rfl
  have hbe : ((c[a] : Int) == (a : Int)) = decide (c[a] = a) := by
   rw [Bool.eq_iff_iff]
   simp only [beq_iff_eq, decide_eq_true_eq]
   omega
  have hwe : IntKind.i64.wrap (2 * IntKind.i64.wrap (IntKind.i64.wrap (1 + (n.ins.xs.length : Int)) + (c[a] : Int))) = 2 * ((n.k0 + c[a] : Nat) : Int) := by
   rw [wrap64 (n := 1 + (n.ins.xs.length : Int)) (by omega) (by omega), wrap64 (n := 1 + (n.ins.xs.length : Int) + (c[a] : Int)) (by omega) (by omega), wrap64 (by omega) (by omega)]; omega
  have hks : ((((keepT c).take a ++ List.replicate ((keepT c).length - a) false)).map boolAV).set a (.bool ((c[a] : Int) == (a : Int))) = (((keepT c).take (a + 1) ++ List.replicate ((keepT c).length - (a + 1)) false)).map boolAV := by
   rw [<- fillT (by omega), List.map_set, hbe, keepT_at hi]; rfl
  have hls : ((((litT n.k0 c).take a ++ List.replicate ((litT n.k0 c).length - a) 0)).map intAV).set a (.int .i64 (IntKind.i64.wrap (2 * IntKind.i64.wrap (IntKind.i64.wrap (1 + (n.ins.xs.length : Int)) + (c[a] : Int))))) = (((litT n.k0 c).take (a + 1) ++ List.replicate ((litT n.k0 c).length - (a + 1)) 0)).map intAV := by
   rw [<- fillT (by omega), List.map_set, hwe, litT_at hi]; rfl
  dsimp only [RSt.at, List.cons_append, List.nil_append]
  repeat' (first | (refine OS.do rfl ?_; first | refine OD.indexAddr rfl rfl rfl (indexAddrA_grow rfl rfl rfl rfl (by omega) hci) ?_ | refine OD.auto rfl rfl ?_) | refine OS.nil ?_ | refine WS.seq ?_ | refine QS.seqN ?_ | refine WS.region ?_)
  refine WS.drawX 16 [(kb, .row ty4.size ((((keepT c).take a ++ List.replicate ((keepT c).length - a) false)).map boolAV))] [] (K := []) rfl rfl rfl rfl ?_; (repeat' (first | refine SegY.nil ?_ | refine SegY.loadP 3 rfl rfl rfl rfl rfl rfl rfl ?_ | refine SegY.indexAddr rfl rfl rfl rfl (indexAddrA_sl rfl rfl rfl rfl (by omega)) ?_ | refine SegY.storeB 0 rfl rfl rfl rfl rfl rfl hkj ?_ | refine SegY.auto rfl rfl rfl rfl ?_ | refine SegY.loadP 0 rfl rfl rfl rfl rfl rfl rfl ?_ | refine SegY.loadP 1 rfl rfl rfl rfl rfl rfl rfl ?_ | refine SegY.loadP 2 rfl rfl rfl rfl rfl rfl rfl ?_ | refine SegY.indexAddr rfl rfl rfl rfl rfl ?_ | refine SegY.len rfl rfl rfl (fun _ => lenTy_av rfl rfl) ?_))
  dsimp only [RSt.at, List.cons_append, List.nil_append]
  repeat' (first | (refine OS.do rfl ?_; first | refine OD.indexAddr rfl rfl rfl (indexAddrA_sl rfl rfl rfl rfl (by omega)) ?_ | refine OD.storeI 1 rfl rfl rfl rfl rfl hlj ?_) | refine OS.nil ?_)
  rw [hks, hls]
  exact QS.rangeX (a + 1) (by (try dsimp only) <;> exact (rfl)) (hL := by (try dsimp only); exact SubO.refl _)
 rintro a ha
 try dsimp only at ha
 subst ha
 have hkr : keepT c = (keepT c).take c.length ++ List.replicate ((keepT c).length - c.length) false := by rw [<- hkl]; exact fillT_all.symm
 have hlr : litT n.k0 c = (litT n.k0 c).take c.length ++ List.replicate ((litT n.k0 c).length - c.length) 0 := by rw [<- hll]; exact fillT_all.symm
 have z2 : ∀ (m : GNet) (st : St), freezeA st (netAV m) = some (netAV m, st) := fun m st => freeze_free (net_free m)
 have c61 : ∀ st, SFa [(kb, .row ty4.size ((keepT c).map boolAV)), (lb, .row ty3.size ((litT n.k0 c).map intAV)), (b2, .row ty27.size [ty27.zeroV]), (b1, .row ty27.size [netAV n])] [] st -> CW (En pr) 61 [netAV n, .sl ty4.size kb 0 c.length, .sl ty3.size lb 0 c.length, .fn 62 [] []] st fun r st' => r = netAV (mergeP n) /\ SFa [(kb, .row ty4.size ((keepT c).map boolAV)), (lb, .row ty3.size ((litT n.k0 c).map intAV)), (b2, .row ty27.size [ty27.zeroV]), (b1, .row ty27.size [netAV n])] [] st' := fun st hS => by
  have := run61 h61 h67 h66 h112 h57 h62 h95 h117 h94 h81 h118 h137 h138 h80 h51 0 1 (kr := keepT c) (ls := litT n.k0 c) rfl rfl n hV hn (by omega) (by omega) hSt hS
  rw [<- hcl, hmp] at this
  exact this
 dsimp only [RSt.at, List.cons_append, List.nil_append]
 rw [<- hkr, <- hlr]
 repeat' (first | (refine OS.do rfl ?_; first | refine OD.storeW 2 rfl rfl rfl rfl (net_ok _) rfl rfl rfl ?_ | refine OD.auto rfl rfl ?_ | refine OD.loadP 3 rfl rfl rfl rfl rfl rfl ?_ | refine OD.callS rfl rfl rfl c61 (z2 _) ?_) | refine OS.nil ?_ | refine WS.seq ?_ | refine QS.seqN ?_ | refine WS.region ?_ | refine WS.ret ?_)
 refine QS.retO (ResO.cell 2 (by rfl) (by rfl) (by rfl) (by rfl) (by rfl) (.tmp (by rfl) .nil)) fun st hs => ?_
 rw [res_yes hV]
 exact ⟨by show AV.free (.tup [netAV (mergeP n), .int .i64 0]) = true; simp [AV.free, AV.freeL, net_free], by show AV.plain (.tup [netAV (mergeP n), .int .i64 0]) = _; simp only [AV.plain, AV.plainL, net_plain]⟩
theorem con29 (h1 : pr 29 = none) (h27 : pr 27 = none) (h57 : Has pr 57 Rel57) (h64 : pr 64 = none) (h65 : pr 65 = none) (h66 : pr 66 = none) (h112 : Has pr 112 Rel112) (h67 : Has pr 67 Rel67) (h62 : pr 62 = none) (h95 : pr 95 = none) (h117 : pr 117 = none) (h94 : pr 94 = none) (h68 : pr 68 = none) (h61 : pr 61 = none) (h81 : pr 81 = none) (h118 : pr 118 = none) (h137 : pr 137 = none) (h138 : Has pr 138 Rel138) (h80 : pr 80 = none) (h51 : Has pr 51 Rel51) : Con2 (En pr) 29 Rel29 := con_of (fun d => by simp [AV.freeL, net_free]) fun d hd st => run29 h1 h27 h57 h64 h65 h66 h112 h67 h62 h95 h117 h94 h68 h61 h81 h118 h137 h138 h80 h51 d hd.1 hd.2 st
theorem use29 (h : Has pr 29 Rel29) {n : GNet} (hn : FitsN n) (hsm : LittleN n) (st : St) : primOf Rel29 [netAV n] st = some (resAV n (mergeP n), st) := h.use ⟨n, ⟨hn, hsm⟩, by simp [AV.plainL, net_plain], rfl⟩ st
end
end Go.OptEnv
namespace Go.OptEnv
open Go Go.Proofs Go.Abs Go.RowKit Go.NetM
set_option maxRecDepth 10000
def ownG (n : GNet) : GNet := ⟨GSl.some n.ins.xs, GSl.some n.regs.xs, GSl.some n.gates.xs, GSl.some n.outs.xs⟩
theorem own_same (n : GNet) : SameC (ownG n) n := ⟨rfl, rfl, rfl, rfl⟩
def Rel46 : Rel := RelF (fun n => FitsN n /\ validM n = true) (fun n => [netAV n]) fun n => netAV (ownG n)
theorem freeze_own {n : GNet} {g : (Bool × Nat) × (Bool × Nat)} {rb ob : Nat} {L : List (Nat × AObj)} {st : St} (hS : SFa ((ob, .row 2 (n.outs.xs.map pinAV)) :: (rb, .row 3 (n.regs.xs.map regAV)) :: L) [] st) :
  ∃ t t' st2, freezeA st (ownA n g rb ob) = some (.agg [growA g.1.1 g.1.2 1 (n.ins.xs.map strAV), .vs 3 (.tok t) (n.regs.xs.map regAV), growA g.2.1 g.2.2 2 (n.gates.xs.map gateAV), .vs 2 (.tok t') (n.outs.xs.map pinAV)], st2) := by
 have h1 := (hS.obj 1 rb _ rfl).1
 have h2 := (hS.obj 0 ob _ rfl).1
 have hne : ob ≠ rb := fun e => by
  subst e
  have := hS.uniq 0 1 ob _ _ rfl rfl
  omega
 have e1 : freezeC st (.sl 3 rb 0 n.regs.xs.length) = some (.vs 3 (.tok st.next) (n.regs.xs.map regAV), (st.drop rb).newTok) := by
  simp only [freezeC, h1]
  rw [if_pos ⟨trivial, by simp⟩, if_pos (by simp), List.drop_zero, List.take_of_length_le (by simp)]
 have h3 : ((st.drop rb).newTok).get ob = some (.row 2 (n.outs.xs.map pinAV)) := by
  rw [St.get_newTok, St.get_drop, if_neg (fun e => hne e.symm)]
  exact h2
 have e2 : freezeC ((st.drop rb).newTok) (.sl 2 ob 0 n.outs.xs.length) = some (.vs 2 (.tok ((st.drop rb).newTok).next) (n.outs.xs.map pinAV), ((((st.drop rb).newTok).drop ob).newTok)) := by
  simp only [freezeC, h3]
  rw [if_pos ⟨trivial, by simp⟩, if_pos (by simp), List.drop_zero, List.take_of_length_le (by simp)]
 refine ⟨st.next, ((st.drop rb).newTok).next, (((st.drop rb).newTok).drop ob).newTok, ?_⟩
 unfold ownA
 simp only [freezeA, freezeL, freezeC_free (free_grow str_free), freezeC_free (free_grow gate_free), e1, e2]
 rfl
theorem run46z {pr : Prims} (h1 : pr 46 = none) (n : GNet) (hv : validM n = true) (st : St) : CW (En pr) 46 [netAV n] st fun r st' => ∃ r' st2, freezeA st' r = some (r', st2) /\ AV.plain r' = netAV (ownG n) /\ AV.free r' = true := by
 obtain ⟨f1, f2, f3, f4⟩ := valid_len hv
 refine (run46n h1 n (by omega) (by omega) (by omega) (by omega) (L := []) ⟨fun _ _ _ h => by simp at h, fun _ _ _ _ _ h => by simp at h, fun _ _ h => by simp at h, fun _ _ _ h => by simp at h⟩).mono fun r st' ⟨d, _, e, hS⟩ => ?_
 obtain ⟨t, t', st2, hz⟩ := freeze_own (n := n) (g := d.1) hS
 refine ⟨_, st2, by rw [e]; exact hz, ?_, ?_⟩
 ·simp only [AV.plain, AV.plainL, plain_grow str_plain, plain_grow gate_plain, plainL_map reg_plain, plainL_map pin_plain]
  rfl
 ·simp only [AV.free, AV.freeL, free_grow str_free, free_grow gate_free, Bool.and_true, Bool.true_and]
  rw [freeL_map reg_free, freeL_map pin_free]; rfl
theorem con46 {pr : Prims} (h1 : pr 46 = none) : Con2 (En pr) 46 Rel46 := con_ofz (fun d => by simp [AV.freeL, net_free]) fun d hd st => run46z h1 d hd.2 st
theorem use46 {pr : Prims} (h : Has pr 46 Rel46) {n : GNet} (hn : FitsN n) (hv : validM n = true) (st : St) : primOf Rel46 [netAV n] st = some (netAV (ownG n), st) := h.use ⟨n, ⟨hn, hv⟩, by simp [AV.plainL, net_plain], rfl⟩ st
attribute [local irreducible] WS QS OS OD Abs.Sub SubO SubK CW GSl.av accA growA
section
variable {pr : Prims}
set_option maxHeartbeats 4000000 in
theorem run13 (h1 : pr 13 = none) (h15 : Has pr 15 Rel15) (h16 : Has pr 16 Rel16) (h31 : Has pr 31 Rel31) (h46 : Has pr 46 Rel46) (h17 : Has pr 17 Rel17) (h19 : Has pr 19 Rel19) (h24 : Has pr 24 Rel24) (h29 : Has pr 29 Rel29) (h21 : Has pr 21 Rel21) (n : GNet) (hn : FitsN n) (st : St) :
  CW (En pr) 13 [netAV n] st fun r _ => r = .bool true := by
 have u15 := use15 h15 hn
 have u16 := use16 h16
 have u31 := use31 h31 hn
 rcases (Bool.eq_false_or_eq_true (fewM n)).symm with hfew | hfew
 ·rw [hfew] at u15
  refine CW.start (N := 70) h1 rfl rfl ?_
  repeat' (first | (refine OS.do rfl ?_; first | refine OD.box rfl rfl rfl rfl (net_ok _) rfl (fun b1 => ?_) | refine OD.loadP 0 rfl rfl rfl rfl rfl rfl ?_ | refine OD.auto rfl rfl ?_ | refine OD.call rfl rfl rfl h15.eq u15 (fun _ => rfl) ?_ | refine OD.call rfl rfl rfl h16.eq u16 (fun _ => rfl) ?_) | refine OS.nil ?_ | refine OS.skip rfl rfl rfl ?_ | refine WS.seq ?_ | refine QS.seqN ?_ | refine WS.region ?_ | refine WS.condT rfl ?_ | refine WS.ret ?_ | refine QS.seqR ?_)
  all_goals (exact QS.retR (by rfl) fun _ => rfl)
 rcases (Bool.eq_false_or_eq_true (validM n)).symm with hV | hV
 ·rw [hfew] at u15
  rw [hV] at u31
  refine CW.start (N := 70) h1 rfl rfl ?_
  repeat' (first | (refine OS.do rfl ?_; first | refine OD.box rfl rfl rfl rfl (net_ok _) rfl (fun b1 => ?_) | refine OD.loadP 0 rfl rfl rfl rfl rfl rfl ?_ | refine OD.auto rfl rfl ?_ | refine OD.call rfl rfl rfl h15.eq u15 (fun _ => rfl) ?_ | refine OD.call rfl rfl rfl h31.eq u31 (fun _ => rfl) ?_ | refine OD.call rfl rfl rfl h16.eq u16 (fun _ => rfl) ?_) | refine OS.nil ?_ | refine WS.seq ?_ | refine QS.seqN ?_ | refine WS.region ?_ | refine WS.condT rfl ?_ | refine WS.ret ?_ | refine QS.seqR ?_)
  all_goals (exact QS.retR (by rfl) fun _ => rfl)
 rw [hfew] at u15
 rw [hV] at u31
 have hsm : LittleN n := by
  simp only [fewM, Bool.and_eq_true, decide_eq_true_eq] at hfew
  refine ⟨by omega, by omega, by omega⟩
 have hall : ∀ i : Nat, i < 4 -> ∃ g Rl F, indexAddrA (En pr) 60 (.vs ty32.size .full [.fn 17 [] [], .fn 19 [] [], .fn 24 [] [], .fn 29 [] []]) (.int .i64 (i : Int)) = some (.ip [.fn g [] []]) /\ Has pr g Rl /\ (∀ X, FitsN X -> validM X = true -> LittleN X -> ∀ st, primOf Rl [netAV X] st = some (.tup [netAV (F X), .int .i64 0], st)) /\ TwiceF F := fun i hi => by
  rcases (show i = 0 \/ i = 1 \/ i = 2 \/ i = 3 by omega) with rfl | rfl | rfl | rfl
  ·exact ⟨17, Rel17, foldN, rfl, h17, fun X a b _ st => by rw [use17 h17 a, res_yes b], fold_twice⟩
  ·exact ⟨19, Rel19, needP, rfl, h19, fun X a b _ st => by rw [use19 h19 a, res_yes b], need_twice⟩
  ·exact ⟨24, Rel24, _, rfl, h24, fun X a b c st => by rw [use24 h24 a c.1, res_yes b], settle_twice⟩
  ·exact ⟨29, Rel29, mergeP, rfl, h29, fun X a b c st => by rw [use29 h29 a c, res_yes b], merge_twice⟩
 have u46 := use46 h46 hn hV
 have z2 : ∀ (m : GNet) (st : St), freezeA st (netAV m) = some (netAV m, st) := fun m st => freeze_free (net_free m)
 have z : ∀ (m : GNet) (st : St), freezeA st (.tup [netAV m, .int .i64 0]) = some (.tup [netAV m, .int .i64 0], st) := fun m st => freeze_free (by simp [AV.free, AV.freeL, net_free])
 have hoV := (own_same n).valid.trans hV
 have hoF := (own_same n).fits hn
 obtain ⟨f1, f2, f3, f4⟩ := valid_len hV
 refine CW.start (N := 70) h1 rfl rfl ?_
 repeat' (first | (refine OS.do rfl ?_; first | refine OD.box rfl rfl rfl rfl (net_ok _) rfl (fun b1 => ?_) | refine OD.loadP 0 rfl rfl rfl rfl rfl rfl ?_ | refine OD.auto rfl rfl ?_ | refine OD.len rfl rfl (fun _ => rfl) ?_ | refine OD.call rfl rfl rfl h15.eq u15 (fun _ => rfl) ?_ | refine OD.call rfl rfl rfl h31.eq u31 (fun _ => rfl) ?_) | refine OS.nil ?_ | refine WS.seq ?_ | refine QS.seqN ?_ | refine WS.region ?_ | refine WS.condF rfl ?_ | refine WS.skip ?_ | refine WS.block ?_)
 refine WS.rangeX (A := Unit) (n := 4) ⟨20, _, fun _ => [], fun _ => [(b1, .row ty27.size [netAV n])], fun _ => [], fun _ _ => True⟩ (()) [1, 18, 19] (trivial) ?_ ?_
 ·rintro i _ hi _
  obtain ⟨g, Rl, F, hix, hg, hu, hT⟩ := hall i hi
  have hA := hT (ownG n) hoV hoF
  have uA := hu (ownG n) hoF hoV hsm
  generalize hAe : F (ownG n) = A at hA uA
  have hAV := hA.v
  have hAF := hA.f
  have hAg := hA.g
  have hAr := hA.r
  have hAi := hA.i
  rw [hAe] at hAV hAF hAg hAr hAi
  have hAL : LittleN A := ⟨by rw [hAi]; exact hsm.1, Nat.le_trans hAr hsm.2.1, Nat.le_trans hAg hsm.2.2⟩
  have hAg' : A.gates.xs.length <= n.gates.xs.length := hAg
  have hAr' : A.regs.xs.length <= n.regs.xs.length := hAr
  obtain ⟨a1, a2, a3, a4⟩ := valid_len hAV
  have u46A := use46 h46 hAF hAV
  have uB := hu (ownG A) ((own_same A).fits hAF) ((own_same A).valid.trans hAV) hAL
  have hs := hA.same (ownG A) (by rw [hAe]; exact own_same A)
  rw [hAe] at hs
  have u21 := use21 h21 hs hAF
  dsimp only [RSt.at, List.cons_append, List.nil_append]
  repeat' (first | (refine OS.do rfl ?_; first | refine OD.indexAddr rfl rfl rfl hix ?_ | refine OD.storeW 0 rfl rfl rfl rfl (net_ok _) rfl rfl rfl ?_ | refine OD.loadP 0 rfl rfl rfl rfl rfl rfl ?_ | refine OD.auto rfl rfl ?_ | refine OD.loadP 1 rfl rfl rfl rfl rfl rfl ?_ | refine OD.len rfl rfl (fun _ => lenTy_av rfl rfl) ?_ | refine OD.loadP 2 rfl rfl rfl rfl rfl rfl ?_ | refine OD.alloc rfl rfl rfl rfl (fun _ => ?_) | refine OD.call rfl rfl rfl h46.eq u46 (z2 _) ?_ | refine OD.call rfl rfl rfl hg.eq uA (z _) ?_ | refine OD.call rfl rfl rfl h46.eq u46A (z2 _) ?_ | refine OD.call rfl rfl rfl hg.eq uB (z _) ?_ | refine OD.call rfl rfl rfl h21.eq u21 (fun _ => rfl) ?_) | refine OS.nil ?_ | refine OS.skip rfl rfl rfl ?_ | refine WS.seq ?_ | refine QS.seqN ?_ | refine WS.region ?_ | refine WS.condT rfl ?_ | refine WS.condD rfl (fun _ => ?_) (fun _ => ?_) | refine WS.skip ?_ | refine WS.ret ?_ | refine QS.seqR ?_ | refine QS.rangeR ?_ | ((fail_if_success (refine OS.do rfl ?_)); first | refine OS.splitD rfl rfl rfl (fun _ => ?_) (fun _ => ?_)))
  ·exfalso; rename_i h; omega
  ·exfalso; rename_i h; omega
  try dsimp only [List.set_cons_zero, List.set_cons_succ]
  exact QS.rangeX (()) (by (try dsimp only) <;> exact (trivial)) (hL := by (try dsimp only); exact SubO.drop (SubO.drop (SubO.refl _)))
 rintro _ _
 dsimp only [RSt.at, List.cons_append, List.nil_append]
 repeat' (first | (refine OS.do rfl ?_; first | refine OD.auto rfl rfl ?_ | refine OD.call rfl rfl rfl h16.eq u16 (fun _ => rfl) ?_) | refine OS.nil ?_ | refine WS.seq ?_ | refine QS.seqN ?_ | refine WS.region ?_ | refine WS.ret ?_)
 all_goals (exact QS.retR (by rfl) fun _ => rfl)
end
end Go.OptEnv
namespace Go.OptEnv
open Go Go.Proofs Go.Abs Go.RowKit
set_option maxRecDepth 100000
def ra82_0 : List AV := [.int .i64 0]
def rr82_0 : AV := .agg [.int .u64 12297829382473034410, .int .u64 12297829382473034410, .int .u64 12297829382473034410, .int .u64 12297829382473034410]
theorem rk82_0 : runIs (En ap0) 10000 82 ra82_0 rr82_0 = true := by kernel_rfl
def ra82_1 : List AV := [.int .i64 1]
def rr82_1 : AV := .agg [.int .u64 14757395258967641292, .int .u64 14757395258967641292, .int .u64 14757395258967641292, .int .u64 14757395258967641292]
theorem rk82_1 : runIs (En ap0) 10000 82 ra82_1 rr82_1 = true := by kernel_rfl
def ra82_2 : List AV := [.int .i64 2]
def rr82_2 : AV := .agg [.int .u64 17361641481138401520, .int .u64 17361641481138401520, .int .u64 17361641481138401520, .int .u64 17361641481138401520]
theorem rk82_2 : runIs (En ap0) 10000 82 ra82_2 rr82_2 = true := by kernel_rfl
def tab82 : List (List AV × AV) := [(ra82_0, rr82_0), (ra82_1, rr82_1), (ra82_2, rr82_2)]
theorem tabok82 : TabOk (En ap0) 82 tab82 := (.cons 10000 rk82_0 (.cons 10000 rk82_1 (.cons 10000 rk82_2 .nil)))
def ra27_0 : List AV := [.agg [.vs 1 .any [.str ⟨#[97]⟩], .vs 3 .any [.agg [.str ⟨#[112]⟩, .int .u8 0, .int .i64 2], .agg [.str ⟨#[113]⟩, .int .u8 0, .int .i64 2]], .vs 2 .any [.agg [.int .i64 4, .int .i64 6]], .vs 2 .any [.agg [.str ⟨#[111]⟩, .int .i64 8]]]]
def rr27_0 : AV := .tup [.vs 1 .any [.int .i64 0, .int .i64 0], .int .i64 0]
theorem rk27_0 : runIs (En ap0) 10000 27 ra27_0 rr27_0 = true := by kernel_rfl
def ra27_1 : List AV := [.agg [.vs 1 .any [.str ⟨#[97]⟩], .vs 3 .any [.agg [.str ⟨#[112]⟩, .int .u8 0, .int .i64 2]], .nilsl, .vs 2 .any [.agg [.str ⟨#[111]⟩, .int .i64 4]]]]
def rr27_1 : AV := .tup [.vs 1 .any [.int .i64 0], .int .i64 0]
theorem rk27_1 : runIs (En ap0) 10000 27 ra27_1 rr27_1 = true := by kernel_rfl
def tab27 : List (List AV × AV) := [(ra27_0, rr27_0), (ra27_1, rr27_1)]
theorem tabok27 : TabOk (En ap0) 27 tab27 := (.cons 10000 rk27_0 (.cons 10000 rk27_1 .nil))
def ra22_0 : List AV := [.agg [.vs 1 .any [.str ⟨#[97]⟩], .vs 3 .any [.agg [.str ⟨#[112]⟩, .int .u8 0, .int .i64 6]], .vs 2 .any [.agg [.int .i64 2, .int .i64 4]], .vs 2 .any [.agg [.str ⟨#[111]⟩, .int .i64 4]]]]
def rr22_0 : AV := .tup [.vs 1 .any [.int .u8 0], .int .i64 0]
theorem rk22_0 : runIs (En ap0) 10000 22 ra22_0 rr22_0 = true := by kernel_rfl
def ra22_1 : List AV := [.agg [.vs 1 .any [.str ⟨#[97]⟩], .nilsl, .nilsl, .vs 2 .any [.agg [.str ⟨#[111]⟩, .int .i64 0]]]]
def rr22_1 : AV := .tup [.nilsl, .int .i64 0]
theorem rk22_1 : runIs (En ap0) 10000 22 ra22_1 rr22_1 = true := by kernel_rfl
def ra22_2 : List AV := [.agg [.vs 1 .any [.str ⟨#[97]⟩], .vs 3 .any [.agg [.str ⟨#[112]⟩, .int .u8 0, .int .i64 2], .agg [.str ⟨#[113]⟩, .int .u8 0, .int .i64 2]], .vs 2 .any [.agg [.int .i64 4, .int .i64 6]], .vs 2 .any [.agg [.str ⟨#[111]⟩, .int .i64 8]]]]
def rr22_2 : AV := .tup [.vs 1 .any [.int .u8 2, .int .u8 2], .int .i64 0]
theorem rk22_2 : runIs (En ap0) 10000 22 ra22_2 rr22_2 = true := by kernel_rfl
def ra22_3 : List AV := [.agg [.vs 1 .any [.str ⟨#[97]⟩], .vs 3 .any [.agg [.str ⟨#[112]⟩, .int .u8 0, .int .i64 2]], .nilsl, .vs 2 .any [.agg [.str ⟨#[111]⟩, .int .i64 4]]]]
def rr22_3 : AV := .tup [.vs 1 .any [.int .u8 2], .int .i64 0]
theorem rk22_3 : runIs (En ap0) 10000 22 ra22_3 rr22_3 = true := by kernel_rfl
def tab22 : List (List AV × AV) := [(ra22_0, rr22_0), (ra22_1, rr22_1), (ra22_2, rr22_2), (ra22_3, rr22_3)]
theorem tabok22 : TabOk (En ap0) 22 tab22 := (.cons 10000 rk22_0 (.cons 10000 rk22_1 (.cons 10000 rk22_2 (.cons 10000 rk22_3 .nil))))
def ra50_0 : List AV := [.agg [.vs 1 .any [.str ⟨#[97]⟩], .vs 3 .any [.agg [.str ⟨#[112]⟩, .int .u8 0, .int .i64 6]], .vs 2 .any [.agg [.int .i64 2, .int .i64 4]], .vs 2 .any [.agg [.str ⟨#[111]⟩, .int .i64 4]]]]
def rr50_0 : AV := .tup [.agg [.vs 1 .any [.str ⟨#[97]⟩], .vs 3 .any [.agg [.str ⟨#[112]⟩, .int .u8 0, .int .i64 6]], .vs 2 .any [.agg [.int .i64 2, .int .i64 4]], .vs 2 .any [.agg [.str ⟨#[111]⟩, .int .i64 4]]], .int .i64 0]
theorem rk50_0 : runIs (En ap0) 10000 50 ra50_0 rr50_0 = true := by kernel_rfl
def ra50_1 : List AV := [.agg [.vs 1 .any [.str ⟨#[]⟩], .nilsl, .nilsl, .nilsl]]
def rr50_1 : AV := .tup [.agg [.nilsl, .nilsl, .nilsl, .nilsl], .int .i64 2]
theorem rk50_1 : runIs (En ap0) 10000 50 ra50_1 rr50_1 = true := by kernel_rfl
def ra50_2 : List AV := [.agg [.vs 1 .any [.str ⟨#[97]⟩], .vs 3 .any [.agg [.str ⟨#[112]⟩, .int .u8 0, .int .i64 2], .agg [.str ⟨#[113]⟩, .int .u8 0, .int .i64 2]], .vs 2 .any [.agg [.int .i64 4, .int .i64 6]], .vs 2 .any [.agg [.str ⟨#[111]⟩, .int .i64 8]]]]
def rr50_2 : AV := .tup [.agg [.vs 1 .any [.str ⟨#[97]⟩], .vs 3 .any [.agg [.str ⟨#[112]⟩, .int .u8 0, .int .i64 2], .agg [.str ⟨#[113]⟩, .int .u8 0, .int .i64 2]], .vs 2 .any [.agg [.int .i64 4, .int .i64 6]], .vs 2 .any [.agg [.str ⟨#[111]⟩, .int .i64 8]]], .int .i64 0]
theorem rk50_2 : runIs (En ap0) 10000 50 ra50_2 rr50_2 = true := by kernel_rfl
def ra50_3 : List AV := [.agg [.vs 1 .any [.str ⟨#[97]⟩], .vs 3 .any [.agg [.str ⟨#[112]⟩, .int .u8 0, .int .i64 2]], .nilsl, .vs 2 .any [.agg [.str ⟨#[111]⟩, .int .i64 4]]]]
def rr50_3 : AV := .tup [.agg [.vs 1 .any [.str ⟨#[97]⟩], .vs 3 .any [.agg [.str ⟨#[112]⟩, .int .u8 0, .int .i64 2]], .nilsl, .vs 2 .any [.agg [.str ⟨#[111]⟩, .int .i64 4]]], .int .i64 0]
theorem rk50_3 : runIs (En ap0) 10000 50 ra50_3 rr50_3 = true := by kernel_rfl
def tab50 : List (List AV × AV) := [(ra50_0, rr50_0), (ra50_1, rr50_1), (ra50_2, rr50_2), (ra50_3, rr50_3)]
theorem tabok50 : TabOk (En ap0) 50 tab50 := (.cons 10000 rk50_0 (.cons 10000 rk50_1 (.cons 10000 rk50_2 (.cons 10000 rk50_3 .nil))))
def ra51_0 : List AV := [.agg [.vs 1 .any [.str ⟨#[97]⟩], .vs 3 .any [.agg [.str ⟨#[112]⟩, .int .u8 0, .int .i64 2]], .nilsl, .vs 2 .any [.agg [.str ⟨#[111]⟩, .int .i64 4]]]]
def rr51_0 : AV := .tup [.agg [.vs 1 .any [.str ⟨#[97]⟩], .vs 3 .any [.agg [.str ⟨#[112]⟩, .int .u8 0, .int .i64 2]], .nilsl, .vs 2 .any [.agg [.str ⟨#[111]⟩, .int .i64 4]]], .int .i64 0]
theorem rk51_0 : runIs (En ap0) 10000 51 ra51_0 rr51_0 = true := by kernel_rfl
def ra51_1 : List AV := [.agg [.vs 1 .any [.str ⟨#[97]⟩], .vs 3 .any [.agg [.str ⟨#[112]⟩, .int .u8 0, .int .i64 6]], .vs 2 .any [.agg [.int .i64 2, .int .i64 4]], .vs 2 .any [.agg [.str ⟨#[111]⟩, .int .i64 4]]]]
def rr51_1 : AV := .tup [.agg [.vs 1 .any [.str ⟨#[97]⟩], .vs 3 .any [.agg [.str ⟨#[112]⟩, .int .u8 0, .int .i64 6]], .vs 2 .any [.agg [.int .i64 2, .int .i64 4]], .vs 2 .any [.agg [.str ⟨#[111]⟩, .int .i64 4]]], .int .i64 0]
theorem rk51_1 : runIs (En ap0) 10000 51 ra51_1 rr51_1 = true := by kernel_rfl
def ra51_2 : List AV := [.agg [.vs 1 .any [.str ⟨#[97]⟩], .nilsl, .nilsl, .vs 2 .any [.agg [.str ⟨#[111]⟩, .int .i64 0]]]]
def rr51_2 : AV := .tup [.agg [.vs 1 .any [.str ⟨#[97]⟩], .nilsl, .nilsl, .vs 2 .any [.agg [.str ⟨#[111]⟩, .int .i64 0]]], .int .i64 0]
theorem rk51_2 : runIs (En ap0) 10000 51 ra51_2 rr51_2 = true := by kernel_rfl
def ra51_3 : List AV := [.agg [.vs 1 .any [.str ⟨#[97]⟩], .vs 3 .any [.agg [.str ⟨#[112]⟩, .int .u8 0, .int .i64 2], .agg [.str ⟨#[113]⟩, .int .u8 0, .int .i64 2]], .vs 2 .any [.agg [.int .i64 4, .int .i64 6]], .vs 2 .any [.agg [.str ⟨#[111]⟩, .int .i64 8]]]]
def rr51_3 : AV := .tup [.agg [.vs 1 .any [.str ⟨#[97]⟩], .vs 3 .any [.agg [.str ⟨#[112]⟩, .int .u8 0, .int .i64 2], .agg [.str ⟨#[113]⟩, .int .u8 0, .int .i64 2]], .vs 2 .any [.agg [.int .i64 4, .int .i64 6]], .vs 2 .any [.agg [.str ⟨#[111]⟩, .int .i64 8]]], .int .i64 0]
theorem rk51_3 : runIs (En ap0) 10000 51 ra51_3 rr51_3 = true := by kernel_rfl
def tab51 : List (List AV × AV) := [(ra51_0, rr51_0), (ra51_1, rr51_1), (ra51_2, rr51_2), (ra51_3, rr51_3)]
theorem tabok51 : TabOk (En ap0) 51 tab51 := (.cons 10000 rk51_0 (.cons 10000 rk51_1 (.cons 10000 rk51_2 (.cons 10000 rk51_3 .nil))))
def ap1 : Prims := (addP (addP (addP (addP (addP ap0 82 (tabPrim tab82)) 27 (tabPrim tab27)) 22 (tabPrim tab22)) 50 (tabPrim tab50)) 51 (tabPrim tab51))
theorem good1 : Good ap1 := (Good.addT (Good.addT (Good.addT (Good.addT (Good.addT good0 (tabok82.does (En_ok _) good0.ok (hent Tryz.func82))) (tabok27.does (En_ok _) good0.ok (hent Tryz.func27))) (tabok22.does (En_ok _) good0.ok (hent Tryz.func22))) (tabok50.does (En_ok _) good0.ok (hent Tryz.func50))) (tabok51.does (En_ok _) good0.ok (hent Tryz.func51)))
end Go.OptEnv
namespace Go.OptEnv
open Go Go.Proofs Go.Abs Go.RowKit
set_option maxRecDepth 100000
def ra17_0 : List AV := [.agg [.vs 1 .any [.str ⟨#[97]⟩], .vs 3 .any [.agg [.str ⟨#[112]⟩, .int .u8 0, .int .i64 6]], .vs 2 .any [.agg [.int .i64 2, .int .i64 4]], .vs 2 .any [.agg [.str ⟨#[111]⟩, .int .i64 4]]]]
def rr17_0 : AV := .tup [.agg [.vs 1 .any [.str ⟨#[97]⟩], .vs 3 .any [.agg [.str ⟨#[112]⟩, .int .u8 0, .int .i64 6]], .vs 2 .any [.agg [.int .i64 2, .int .i64 4]], .vs 2 .any [.agg [.str ⟨#[111]⟩, .int .i64 4]]], .int .i64 0]
theorem rk17_0 : runIs (En ap1) 10000 17 ra17_0 rr17_0 = true := by kernel_rfl
def ra17_1 : List AV := [.agg [.vs 1 .any [.str ⟨#[]⟩], .nilsl, .nilsl, .nilsl]]
def rr17_1 : AV := .tup [.agg [.nilsl, .nilsl, .nilsl, .nilsl], .int .i64 2]
theorem rk17_1 : runIs (En ap1) 10000 17 ra17_1 rr17_1 = true := by kernel_rfl
def ra17_2 : List AV := [.agg [.vs 1 .any [.str ⟨#[97]⟩], .vs 3 .any [.agg [.str ⟨#[112]⟩, .int .u8 0, .int .i64 2], .agg [.str ⟨#[113]⟩, .int .u8 0, .int .i64 2]], .vs 2 .any [.agg [.int .i64 4, .int .i64 6]], .vs 2 .any [.agg [.str ⟨#[111]⟩, .int .i64 8]]]]
def rr17_2 : AV := .tup [.agg [.vs 1 .any [.str ⟨#[97]⟩], .vs 3 .any [.agg [.str ⟨#[112]⟩, .int .u8 0, .int .i64 2], .agg [.str ⟨#[113]⟩, .int .u8 0, .int .i64 2]], .vs 2 .any [.agg [.int .i64 4, .int .i64 6]], .vs 2 .any [.agg [.str ⟨#[111]⟩, .int .i64 8]]], .int .i64 0]
theorem rk17_2 : runIs (En ap1) 10000 17 ra17_2 rr17_2 = true := by kernel_rfl
def ra17_3 : List AV := [.agg [.vs 1 .any [.str ⟨#[97]⟩], .vs 3 .any [.agg [.str ⟨#[112]⟩, .int .u8 0, .int .i64 2]], .nilsl, .vs 2 .any [.agg [.str ⟨#[111]⟩, .int .i64 4]]]]
def rr17_3 : AV := .tup [.agg [.vs 1 .any [.str ⟨#[97]⟩], .vs 3 .any [.agg [.str ⟨#[112]⟩, .int .u8 0, .int .i64 2]], .nilsl, .vs 2 .any [.agg [.str ⟨#[111]⟩, .int .i64 4]]], .int .i64 0]
theorem rk17_3 : runIs (En ap1) 10000 17 ra17_3 rr17_3 = true := by kernel_rfl
def tab17 : List (List AV × AV) := [(ra17_0, rr17_0), (ra17_1, rr17_1), (ra17_2, rr17_2), (ra17_3, rr17_3)]
theorem tabok17 : TabOk (En ap1) 17 tab17 := (.cons 10000 rk17_0 (.cons 10000 rk17_1 (.cons 10000 rk17_2 (.cons 10000 rk17_3 .nil))))
def ap2 : Prims := (addP ap1 17 (tabPrim tab17))
theorem good2 : Good ap2 := (Good.addT good1 (tabok17.does (En_ok _) good1.ok (hent Tryz.func17)))
end Go.OptEnv
namespace Go.OptEnv
open Go Go.Proofs Go.Abs Go.RowKit
set_option maxRecDepth 100000
def ra29_0 : List AV := [.agg [.vs 1 .any [.str ⟨#[97]⟩], .vs 3 .any [.agg [.str ⟨#[112]⟩, .int .u8 0, .int .i64 2], .agg [.str ⟨#[113]⟩, .int .u8 0, .int .i64 2]], .vs 2 .any [.agg [.int .i64 4, .int .i64 6]], .vs 2 .any [.agg [.str ⟨#[111]⟩, .int .i64 8]]]]
def rr29_0 : AV := .tup [.agg [.vs 1 .any [.str ⟨#[97]⟩], .vs 3 .any [.agg [.str ⟨#[112]⟩, .int .u8 0, .int .i64 2]], .nilsl, .vs 2 .any [.agg [.str ⟨#[111]⟩, .int .i64 4]]], .int .i64 0]
theorem rk29_0 : runIs (En ap2) 10000 29 ra29_0 rr29_0 = true := by kernel_rfl
def ra29_1 : List AV := [.agg [.vs 1 .any [.str ⟨#[97]⟩], .vs 3 .any [.agg [.str ⟨#[112]⟩, .int .u8 0, .int .i64 2]], .nilsl, .vs 2 .any [.agg [.str ⟨#[111]⟩, .int .i64 4]]]]
def rr29_1 : AV := .tup [.agg [.vs 1 .any [.str ⟨#[97]⟩], .vs 3 .any [.agg [.str ⟨#[112]⟩, .int .u8 0, .int .i64 2]], .nilsl, .vs 2 .any [.agg [.str ⟨#[111]⟩, .int .i64 4]]], .int .i64 0]
theorem rk29_1 : runIs (En ap2) 10000 29 ra29_1 rr29_1 = true := by kernel_rfl
def tab29 : List (List AV × AV) := [(ra29_0, rr29_0), (ra29_1, rr29_1)]
theorem tabok29 : TabOk (En ap2) 29 tab29 := (.cons 10000 rk29_0 (.cons 10000 rk29_1 .nil))
def ra24_0 : List AV := [.agg [.vs 1 .any [.str ⟨#[97]⟩], .vs 3 .any [.agg [.str ⟨#[112]⟩, .int .u8 0, .int .i64 6]], .vs 2 .any [.agg [.int .i64 2, .int .i64 4]], .vs 2 .any [.agg [.str ⟨#[111]⟩, .int .i64 4]]]]
def rr24_0 : AV := .tup [.agg [.vs 1 .any [.str ⟨#[97]⟩], .nilsl, .nilsl, .vs 2 .any [.agg [.str ⟨#[111]⟩, .int .i64 0]]], .int .i64 0]
theorem rk24_0 : runIs (En ap2) 10000 24 ra24_0 rr24_0 = true := by kernel_rfl
def ra24_1 : List AV := [.agg [.vs 1 .any [.str ⟨#[97]⟩], .vs 3 .any [.agg [.str ⟨#[112]⟩, .int .u8 0, .int .i64 2], .agg [.str ⟨#[113]⟩, .int .u8 0, .int .i64 2]], .vs 2 .any [.agg [.int .i64 4, .int .i64 6]], .vs 2 .any [.agg [.str ⟨#[111]⟩, .int .i64 8]]]]
def rr24_1 : AV := .tup [.agg [.vs 1 .any [.str ⟨#[97]⟩], .vs 3 .any [.agg [.str ⟨#[112]⟩, .int .u8 0, .int .i64 2], .agg [.str ⟨#[113]⟩, .int .u8 0, .int .i64 2]], .vs 2 .any [.agg [.int .i64 4, .int .i64 6]], .vs 2 .any [.agg [.str ⟨#[111]⟩, .int .i64 8]]], .int .i64 0]
theorem rk24_1 : runIs (En ap2) 10000 24 ra24_1 rr24_1 = true := by kernel_rfl
def ra24_2 : List AV := [.agg [.vs 1 .any [.str ⟨#[97]⟩], .vs 3 .any [.agg [.str ⟨#[112]⟩, .int .u8 0, .int .i64 2]], .nilsl, .vs 2 .any [.agg [.str ⟨#[111]⟩, .int .i64 4]]]]
def rr24_2 : AV := .tup [.agg [.vs 1 .any [.str ⟨#[97]⟩], .vs 3 .any [.agg [.str ⟨#[112]⟩, .int .u8 0, .int .i64 2]], .nilsl, .vs 2 .any [.agg [.str ⟨#[111]⟩, .int .i64 4]]], .int .i64 0]
theorem rk24_2 : runIs (En ap2) 10000 24 ra24_2 rr24_2 = true := by kernel_rfl
def tab24 : List (List AV × AV) := [(ra24_0, rr24_0), (ra24_1, rr24_1), (ra24_2, rr24_2)]
theorem tabok24 : TabOk (En ap2) 24 tab24 := (.cons 10000 rk24_0 (.cons 10000 rk24_1 (.cons 10000 rk24_2 .nil)))
def ra19_0 : List AV := [.agg [.vs 1 .any [.str ⟨#[97]⟩], .vs 3 .any [.agg [.str ⟨#[112]⟩, .int .u8 0, .int .i64 2], .agg [.str ⟨#[113]⟩, .int .u8 0, .int .i64 2]], .vs 2 .any [.agg [.int .i64 4, .int .i64 6]], .vs 2 .any [.agg [.str ⟨#[111]⟩, .int .i64 8]]]]
def rr19_0 : AV := .tup [.agg [.vs 1 .any [.str ⟨#[97]⟩], .vs 3 .any [.agg [.str ⟨#[112]⟩, .int .u8 0, .int .i64 2], .agg [.str ⟨#[113]⟩, .int .u8 0, .int .i64 2]], .vs 2 .any [.agg [.int .i64 4, .int .i64 6]], .vs 2 .any [.agg [.str ⟨#[111]⟩, .int .i64 8]]], .int .i64 0]
theorem rk19_0 : runIs (En ap2) 10000 19 ra19_0 rr19_0 = true := by kernel_rfl
def ra19_1 : List AV := [.agg [.vs 1 .any [.str ⟨#[97]⟩], .vs 3 .any [.agg [.str ⟨#[112]⟩, .int .u8 0, .int .i64 2]], .nilsl, .vs 2 .any [.agg [.str ⟨#[111]⟩, .int .i64 4]]]]
def rr19_1 : AV := .tup [.agg [.vs 1 .any [.str ⟨#[97]⟩], .vs 3 .any [.agg [.str ⟨#[112]⟩, .int .u8 0, .int .i64 2]], .nilsl, .vs 2 .any [.agg [.str ⟨#[111]⟩, .int .i64 4]]], .int .i64 0]
theorem rk19_1 : runIs (En ap2) 10000 19 ra19_1 rr19_1 = true := by kernel_rfl
def tab19 : List (List AV × AV) := [(ra19_0, rr19_0), (ra19_1, rr19_1)]
theorem tabok19 : TabOk (En ap2) 19 tab19 := (.cons 10000 rk19_0 (.cons 10000 rk19_1 .nil))
def ra38_0 : List AV := [.agg [.vs 1 .any [.str ⟨#[97]⟩], .vs 3 .any [.agg [.str ⟨#[112]⟩, .int .u8 0, .int .i64 2], .agg [.str ⟨#[113]⟩, .int .u8 0, .int .i64 2]], .vs 2 .any [.agg [.int .i64 4, .int .i64 6]], .vs 2 .any [.agg [.str ⟨#[111]⟩, .int .i64 8]]]]
def rr38_0 : AV := .tup [.agg [.vs 1 .any [.str ⟨#[97]⟩], .vs 3 .any [.agg [.str ⟨#[112]⟩, .int .u8 0, .int .i64 2], .agg [.str ⟨#[113]⟩, .int .u8 0, .int .i64 2]], .vs 2 .any [.agg [.int .i64 4, .int .i64 6]], .vs 2 .any [.agg [.str ⟨#[111]⟩, .int .i64 8]]], .int .i64 0]
theorem rk38_0 : runIs (En ap2) 10000 38 ra38_0 rr38_0 = true := by kernel_rfl
def ra38_1 : List AV := [.agg [.vs 1 .any [.str ⟨#[97]⟩], .vs 3 .any [.agg [.str ⟨#[112]⟩, .int .u8 0, .int .i64 2]], .nilsl, .vs 2 .any [.agg [.str ⟨#[111]⟩, .int .i64 4]]]]
def rr38_1 : AV := .tup [.agg [.vs 1 .any [.str ⟨#[97]⟩], .vs 3 .any [.agg [.str ⟨#[112]⟩, .int .u8 0, .int .i64 2]], .nilsl, .vs 2 .any [.agg [.str ⟨#[111]⟩, .int .i64 4]]], .int .i64 0]
theorem rk38_1 : runIs (En ap2) 10000 38 ra38_1 rr38_1 = true := by kernel_rfl
def tab38 : List (List AV × AV) := [(ra38_0, rr38_0), (ra38_1, rr38_1)]
theorem tabok38 : TabOk (En ap2) 38 tab38 := (.cons 10000 rk38_0 (.cons 10000 rk38_1 .nil))
def ra39_0 : List AV := [.agg [.vs 1 .any [.str ⟨#[97]⟩], .vs 3 .any [.agg [.str ⟨#[112]⟩, .int .u8 0, .int .i64 2], .agg [.str ⟨#[113]⟩, .int .u8 0, .int .i64 2]], .vs 2 .any [.agg [.int .i64 4, .int .i64 6]], .vs 2 .any [.agg [.str ⟨#[111]⟩, .int .i64 8]]]]
def rr39_0 : AV := .tup [.agg [.vs 1 .any [.str ⟨#[97]⟩], .vs 3 .any [.agg [.str ⟨#[112]⟩, .int .u8 0, .int .i64 2], .agg [.str ⟨#[113]⟩, .int .u8 0, .int .i64 2]], .vs 2 .any [.agg [.int .i64 4, .int .i64 6]], .vs 2 .any [.agg [.str ⟨#[111]⟩, .int .i64 8]]], .int .i64 0]
theorem rk39_0 : runIs (En ap2) 10000 39 ra39_0 rr39_0 = true := by kernel_rfl
def tab39 : List (List AV × AV) := [(ra39_0, rr39_0)]
theorem tabok39 : TabOk (En ap2) 39 tab39 := (.cons 10000 rk39_0 .nil)
def ra40_0 : List AV := [.agg [.vs 1 .any [.str ⟨#[97]⟩], .vs 3 .any [.agg [.str ⟨#[112]⟩, .int .u8 0, .int .i64 2], .agg [.str ⟨#[113]⟩, .int .u8 0, .int .i64 2]], .vs 2 .any [.agg [.int .i64 4, .int .i64 6]], .vs 2 .any [.agg [.str ⟨#[111]⟩, .int .i64 8]]]]
def rr40_0 : AV := .tup [.agg [.vs 1 .any [.str ⟨#[97]⟩], .vs 3 .any [.agg [.str ⟨#[112]⟩, .int .u8 0, .int .i64 2], .agg [.str ⟨#[113]⟩, .int .u8 0, .int .i64 2]], .vs 2 .any [.agg [.int .i64 4, .int .i64 6]], .vs 2 .any [.agg [.str ⟨#[111]⟩, .int .i64 8]]], .int .i64 0]
theorem rk40_0 : runIs (En ap2) 10000 40 ra40_0 rr40_0 = true := by kernel_rfl
def ra40_1 : List AV := [.agg [.vs 1 .any [.str ⟨#[97]⟩], .vs 3 .any [.agg [.str ⟨#[112]⟩, .int .u8 0, .int .i64 2]], .nilsl, .vs 2 .any [.agg [.str ⟨#[111]⟩, .int .i64 4]]]]
def rr40_1 : AV := .tup [.agg [.vs 1 .any [.str ⟨#[97]⟩], .vs 3 .any [.agg [.str ⟨#[112]⟩, .int .u8 0, .int .i64 2]], .nilsl, .vs 2 .any [.agg [.str ⟨#[111]⟩, .int .i64 4]]], .int .i64 0]
theorem rk40_1 : runIs (En ap2) 10000 40 ra40_1 rr40_1 = true := by kernel_rfl
def tab40 : List (List AV × AV) := [(ra40_0, rr40_0), (ra40_1, rr40_1)]
theorem tabok40 : TabOk (En ap2) 40 tab40 := (.cons 10000 rk40_0 (.cons 10000 rk40_1 .nil))
def ap3 : Prims := (addP (addP (addP (addP (addP (addP ap2 29 (tabPrim tab29)) 24 (tabPrim tab24)) 19 (tabPrim tab19)) 38 (tabPrim tab38)) 39 (tabPrim tab39)) 40 (tabPrim tab40))
theorem good3 : Good ap3 := (Good.addT (Good.addT (Good.addT (Good.addT (Good.addT (Good.addT good2 (tabok29.does (En_ok _) good2.ok (hent Tryz.func29))) (tabok24.does (En_ok _) good2.ok (hent Tryz.func24))) (tabok19.does (En_ok _) good2.ok (hent Tryz.func19))) (tabok38.does (En_ok _) good2.ok (hent Tryz.func38))) (tabok39.does (En_ok _) good2.ok (hent Tryz.func39))) (tabok40.does (En_ok _) good2.ok (hent Tryz.func40)))
end Go.OptEnv
namespace Go.OptEnv
open Go Go.Proofs Go.Abs Go.RowKit
set_option maxRecDepth 100000
def ra45_0 : List AV := [.agg [.vs 1 .any [.str ⟨#[97]⟩], .vs 3 .any [.agg [.str ⟨#[112]⟩, .int .u8 0, .int .i64 2], .agg [.str ⟨#[113]⟩, .int .u8 0, .int .i64 2]], .vs 2 .any [.agg [.int .i64 4, .int .i64 6]], .vs 2 .any [.agg [.str ⟨#[111]⟩, .int .i64 8]]]]
def rr45_0 : AV := .tup [.agg [.vs 1 .any [.str ⟨#[97]⟩], .vs 3 .any [.agg [.str ⟨#[112]⟩, .int .u8 0, .int .i64 2]], .nilsl, .vs 2 .any [.agg [.str ⟨#[111]⟩, .int .i64 4]]], .int .i64 0]
theorem rk45_0 : runIs (En ap3) 10000 45 ra45_0 rr45_0 = true := by kernel_rfl
def tab45 : List (List AV × AV) := [(ra45_0, rr45_0)]
theorem tabok45 : TabOk (En ap3) 45 tab45 := (.cons 10000 rk45_0 .nil)
def ap4 : Prims := (addP ap3 45 (tabPrim tab45))
theorem good4 : Good ap4 := (Good.addT good3 (tabok45.does (En_ok _) good3.ok (hent Tryz.func45)))
end Go.OptEnv
namespace Go.OptEnv
open Go Go.Proofs Go.Abs Go.RowKit
set_option maxRecDepth 100000
theorem awake_run : isT (callF (En ap4) 10000 16 [] St.empty) = true := by kernel_rfl
theorem awake_calls (w : World) : Calls Tryz.prog 16 #[] w fun e w' => e = .returned (.bool true) /\ Below w.heap.size w w' := by
 obtain ⟨st, h⟩ := isT_spec awake_run
 refine (closed_calls (En_ok _) good4.ok h w).mono ?_
 rintro e w' ⟨v, Γ, rfl, hb, hr⟩
 simp only [R] at hr
 subst hr
 exact ⟨rfl, hb⟩
end Go.OptEnv
namespace Go.OptEnv
open Go Go.Proofs Go.Abs Go.RowKit Go.NetM
set_option maxRecDepth 10000
theorem con16 : Con2 (En ap4) 16 Rel16 := ⟨by rintro a x ⟨rfl, rfl⟩; rfl, by
 rintro a x ⟨rfl, rfl⟩
 obtain ⟨st, h⟩ := isT_spec awake_run
 exact ⟨10000, .bool true, st, h, .bool true, st, rfl, rfl, rfl⟩⟩
noncomputable def cp0 : Prims := addP ap0 16 (primOf Rel16)
theorem cg0 : Good cp0 := good0.addT fun B w0 => con16.does (En_ok ap4) good4.ok (hent Tryz.func16) B w0
noncomputable def cp1 : Prims := addP cp0 133 (tabPrim tab133)
theorem cg1 : Good cp1 := cg0.addT fun B w0 => tabok133.does (En_ok ap0) good0.ok (hent Tryz.func133) B w0
noncomputable def cp2 : Prims := addP cp1 132 (tabPrim tab132)
theorem cg2 : Good cp2 := cg1.addT fun B w0 => tabok132.does (En_ok ap0) good0.ok (hent Tryz.func132) B w0
noncomputable def cp3 : Prims := addP cp2 58 (tabPrim tab58)
theorem cg3 : Good cp3 := cg2.addT fun B w0 => tabok58.does (En_ok ap0) good0.ok (hent Tryz.func58) B w0
theorem cc70 : Con2 (En cp3) 70 Rel70 := con70 rfl
noncomputable def cp4 : Prims := addP cp3 70 (primOf Rel70)
theorem cg4 : Good cp4 := cg3.add cc70 (hent Tryz.func70)
theorem cc72 : Con2 (En cp4) 72 Rel72 := con72 rfl
noncomputable def cp5 : Prims := addP cp4 72 (primOf Rel72)
theorem cg5 : Good cp5 := cg4.add cc72 (hent Tryz.func72)
theorem cc73 : Con2 (En cp5) 73 Rel73 := con73 rfl
noncomputable def cp6 : Prims := addP cp5 73 (primOf Rel73)
theorem cg6 : Good cp6 := cg5.add cc73 (hent Tryz.func73)
theorem cc103 : Con2 (En cp6) 103 Rel103 := con103 rfl
noncomputable def cp7 : Prims := addP cp6 103 (primOf Rel103)
theorem cg7 : Good cp7 := cg6.add cc103 (hent Tryz.func103)
theorem cc105 : Con2 (En cp7) 105 Rel105 := con105 rfl
noncomputable def cp8 : Prims := addP cp7 105 (primOf Rel105)
theorem cg8 : Good cp8 := cg7.add cc105 (hent Tryz.func105)
theorem cc107 : Con2 (En cp8) 107 Rel107 := con107 rfl
noncomputable def cp9 : Prims := addP cp8 107 (primOf Rel107)
theorem cg9 : Good cp9 := cg8.add cc107 (hent Tryz.func107)
theorem cc114 : Con2 (En cp9) 114 Rel114 := con114 rfl
noncomputable def cp10 : Prims := addP cp9 114 (primOf Rel114)
theorem cg10 : Good cp10 := cg9.add cc114 (hent Tryz.func114)
theorem cc128 : Con2 (En cp10) 128 Rel128 := con128 rfl
noncomputable def cp11 : Prims := addP cp10 128 (primOf Rel128)
theorem cg11 : Good cp11 := cg10.add cc128 (hent Tryz.func128)
theorem cc102 : Con2 (En cp11) 102 Rel102 := con102 rfl (Has.of cc103 rfl) (Has.of cc128 rfl)
noncomputable def cp12 : Prims := addP cp11 102 (primOf Rel102)
theorem cg12 : Good cp12 := cg11.add cc102 (hent Tryz.func102)
theorem cc104 : Con2 (En cp12) 104 Rel104 := con104 rfl (Has.of cc105 rfl) (Has.of cc128 rfl)
noncomputable def cp13 : Prims := addP cp12 104 (primOf Rel104)
theorem cg13 : Good cp13 := cg12.add cc104 (hent Tryz.func104)
theorem cc106 : Con2 (En cp13) 106 Rel106 := con106 rfl (Has.of cc107 rfl) (Has.of cc128 rfl)
noncomputable def cp14 : Prims := addP cp13 106 (primOf Rel106)
theorem cg14 : Good cp14 := cg13.add cc106 (hent Tryz.func106)
theorem cc71 : Con2 (En cp14) 71 Rel71 := con71 rfl (Has.of cc114 rfl)
noncomputable def cp15 : Prims := addP cp14 71 (primOf Rel71)
theorem cg15 : Good cp15 := cg14.add cc71 (hent Tryz.func71)
theorem cc31 : Con2 (En cp15) 31 Rel31 := con31 rfl (Has.of cc70 rfl) (Has.of cc71 rfl) (Has.of cc72 rfl) (Has.of cc73 rfl)
noncomputable def cp16 : Prims := addP cp15 31 (primOf Rel31)
theorem cg16 : Good cp16 := cg15.add cc31 (hent Tryz.func31)
theorem cc57 : Con2 (En cp16) 57 Rel57 := con57 rfl (Has.of cc102 rfl) (Has.of cc104 rfl) (Has.of cc106 rfl)
noncomputable def cp17 : Prims := addP cp16 57 (primOf Rel57)
theorem cg17 : Good cp17 := cg16.add cc57 (hent Tryz.func57)
theorem cc151 : Con2 (En cp17) 151 Rel151 := con151 rfl
noncomputable def cp18 : Prims := addP cp17 151 (primOf Rel151)
theorem cg18 : Good cp18 := cg17.add cc151 (hent Tryz.func151)
theorem cc150 : Con2 (En cp18) 150 Rel150 := con150 rfl rfl (Has.of cc151 rfl)
noncomputable def cp19 : Prims := addP cp18 150 (primOf Rel150)
theorem cg19 : Good cp19 := cg18.add cc150 (hent Tryz.func150)
theorem cc131 : Con2 (En cp19) 131 Rel131 := con131 rfl (Has.of cc150 rfl)
noncomputable def cp20 : Prims := addP cp19 131 (primOf Rel131)
theorem cg20 : Good cp20 := cg19.add cc131 (hent Tryz.func131)
theorem cc110 : Con2 (En cp20) 110 Rel110 := con110 rfl rfl
noncomputable def cp21 : Prims := addP cp20 110 (primOf Rel110)
theorem cg21 : Good cp21 := cg20.add cc110 (hent Tryz.func110)
theorem cc22 : Con2 (En cp21) 22 Rel22 := con22 rfl rfl rfl rfl (Has.of cc57 rfl) (Has.of cc131 rfl) (Has.of cc110 rfl) rfl
noncomputable def cp22 : Prims := addP cp21 22 (primOf Rel22)
theorem cg22 : Good cp22 := cg21.add cc22 (hent Tryz.func22)
theorem cc112 : Con2 (En cp22) 112 Rel112 := con112 rfl
noncomputable def cp23 : Prims := addP cp22 112 (primOf Rel112)
theorem cg23 : Good cp23 := cg22.add cc112 (hent Tryz.func112)
theorem cc138 : Con2 (En cp23) 138 Rel138 := con138 rfl
noncomputable def cp24 : Prims := addP cp23 138 (primOf Rel138)
theorem cg24 : Good cp24 := cg23.add cc138 (hent Tryz.func138)
theorem cc97 : Con2 (En cp24) 97 Rel97 := con97 rfl
noncomputable def cp25 : Prims := addP cp24 97 (primOf Rel97)
theorem cg25 : Good cp25 := cg24.add cc97 (hent Tryz.func97)
theorem cc50 : Con2 (En cp25) 50 Rel50 := con50 rfl rfl rfl rfl rfl rfl rfl rfl rfl rfl (Has.of cc112 rfl) rfl (Has.of cc138 rfl) rfl (Has.of cc57 rfl)
noncomputable def cp26 : Prims := addP cp25 50 (primOf Rel50)
theorem cg26 : Good cp26 := cg25.add cc50 (hent Tryz.func50)
theorem cc51 : Con2 (En cp26) 51 Rel51 := con51 rfl (Has.of cc97 rfl) rfl rfl rfl rfl rfl rfl rfl rfl (Has.of cc112 rfl) rfl (Has.of cc138 rfl) rfl (Has.of cc57 rfl)
noncomputable def cp27 : Prims := addP cp26 51 (primOf Rel51)
theorem cg27 : Good cp27 := cg26.add cc51 (hent Tryz.func51)
theorem cc17 : Con2 (En cp27) 17 Rel17 := con17 rfl (Has.of cc50 rfl) (Has.of cc51 rfl)
noncomputable def cp28 : Prims := addP cp27 17 (primOf Rel17)
theorem cg28 : Good cp28 := cg27.add cc17 (hent Tryz.func17)
theorem cc19 : Con2 (En cp28) 19 Rel19 := con19 rfl (Has.of cc17 rfl) rfl rfl
noncomputable def cp29 : Prims := addP cp28 19 (primOf Rel19)
theorem cg29 : Good cp29 := cg28.add cc19 (hent Tryz.func19)
theorem cc67 : Con2 (En cp29) 67 Rel67 := con67 rfl
noncomputable def cp30 : Prims := addP cp29 67 (primOf Rel67)
theorem cg30 : Good cp30 := cg29.add cc67 (hent Tryz.func67)
theorem cc111 : Con2 (En cp30) 111 Rel111 := con111 rfl
noncomputable def cp31 : Prims := addP cp30 111 (primOf Rel111)
theorem cg31 : Good cp31 := cg30.add cc111 (hent Tryz.func111)
theorem cc60 : Con2 (En cp31) 60 Rel60 := con60 rfl (Has.of cc111 rfl)
noncomputable def cp32 : Prims := addP cp31 60 (primOf Rel60)
theorem cg32 : Good cp32 := cg31.add cc60 (hent Tryz.func60)
theorem cc24 : Con2 (En cp32) 24 Rel24 := con24 rfl (Has.of cc17 rfl) (Has.of cc22 rfl) (Has.of cc60 rfl) rfl (Has.of cc67 rfl) rfl (Has.of cc112 rfl) (Has.of cc57 rfl) rfl rfl rfl rfl rfl rfl rfl (Has.of cc138 rfl) rfl (Has.of cc51 rfl)
noncomputable def cp33 : Prims := addP cp32 24 (primOf Rel24)
theorem cg33 : Good cp33 := cg32.add cc24 (hent Tryz.func24)
theorem cc29 : Con2 (En cp33) 29 Rel29 := con29 rfl rfl (Has.of cc57 rfl) rfl rfl rfl (Has.of cc112 rfl) (Has.of cc67 rfl) rfl rfl rfl rfl rfl rfl rfl rfl rfl (Has.of cc138 rfl) rfl (Has.of cc51 rfl)
noncomputable def cp34 : Prims := addP cp33 29 (primOf Rel29)
theorem cg34 : Good cp34 := cg33.add cc29 (hent Tryz.func29)
theorem cc46 : Con2 (En cp34) 46 Rel46 := con46 rfl
noncomputable def cp35 : Prims := addP cp34 46 (primOf Rel46)
theorem cg35 : Good cp35 := cg34.add cc46 (hent Tryz.func46)
theorem cc21 : Con2 (En cp35) 21 Rel21 := con21 rfl
noncomputable def cp36 : Prims := addP cp35 21 (primOf Rel21)
theorem cg36 : Good cp36 := cg35.add cc21 (hent Tryz.func21)
theorem cc15 : Con2 (En cp36) 15 Rel15 := con15 rfl
noncomputable def cp37 : Prims := addP cp36 15 (primOf Rel15)
theorem cg37 : Good cp37 := cg36.add cc15 (hent Tryz.func15)
theorem again_calls (w : World) (n : GNet) (hn : FitsN n) (v0 : Value) (h0 : R (Ghost.all w) (netAV n) v0) :
  Calls Tryz.prog 13 #[v0] w fun e w' => e = .returned (.bool true) /\ Below w.heap.size w w' := by
 obtain ⟨n', x, st', h, hx⟩ := run13 (pr := cp37) rfl (Has.of cc15 rfl) (Has.of con16 rfl) (Has.of cc31 rfl) (Has.of cc46 rfl) (Has.of cc17 rfl) (Has.of cc19 rfl) (Has.of cc24 rfl) (Has.of cc29 rfl) (Has.of cc21 rfl) n hn St.empty
 refine ((callF_sound (En_ok cp37) (cg37.ok w.heap.size w) n' 13 _ St.empty x st' h).2 (Ghost.all w) w #[v0] (Inv.all w) (RL.cons h0 (RL.nil _))).mono ?_
 rintro e w' ⟨u, Γ, rfl, out, hu⟩
 subst hx
 simp only [R] at hu
 subst hu
 exact ⟨rfl, out.inv.below⟩
end Go.OptEnv
namespace Go.OptEnv
open Go Go.Proofs Go.Abs Go.RowKit
set_option maxRecDepth 10000
theorem reach_le : reachBytes <= 140737488355328 := by decide
theorem fit_wf {k : Int} (h : (Lit.int .i64 k).wf = true) : Fit64 k := by
 simp [Lit.wf, IntKind.min, IntKind.max, IntKind.signed, IntKind.bits] at h
 exact ⟨by omega, by omega⟩
section
variable {H : Type} {enc : TypeId × Value -> H} {w : World} {base : Nat} {spare : Nat -> Bool} {held : Bool} {fuel n : Nat} {cs : List Value} {x : DataW H × List MemPlace}
theorem array_read {t e : TypeId} {k : Nat} (ht : Tryz.prog.underlying t = some (.array k e)) (h : DataW.trod enc Tryz.prog w base spare held fuel t cs = some x) :
  ∃ (xs : List (DataW H × List MemPlace)) (m : Nat), fuel = m + 1 /\ x = (.agg (xs.map (·.1)), xs.flatMap (·.2)) /\ cs.length = Tryz.prog.cellsOf t /\ xs.length = k /\
   ∀ (i : Nat), i < k -> DataW.trod enc Tryz.prog w base spare held m e ((cs.drop (i * Tryz.prog.cellsOf e)).take (Tryz.prog.cellsOf e)) = xs[i]? := by
 cases fuel with
 | zero => simp [DataW.trod] at h
 | succ m =>
  unfold DataW.trod at h
  rw [ht] at h
  split at h <;> simp_all
  obtain ⟨hl, xs, hp, hd⟩ := h
  exact ⟨xs, hd.symm, by simpa using mapM_some_length hp, fun i hi => mapM_some_get hp i i (by simp [hi])⟩
theorem int_read (h : DataW.trod enc Tryz.prog w base spare held n 3 cs = some x) : ∃ k : Int, cs = [.int .i64 k] /\ Fit64 k := by
 obtain ⟨k, rfl, _, hw⟩ := DataW.trod_int Tryz.underlying3 h
 exact ⟨k, rfl, fit_wf hw⟩
theorem u8_wf {k : Int} (hw : (Lit.int .u8 k).wf = true) : ∃ b : UInt8, k = b.toNat := by
 have hb : 0 <= k /\ k < 256 := by
  simp [Lit.wf, IntKind.min, IntKind.max, IntKind.signed, IntKind.bits] at hw
  omega
 refine ⟨UInt8.ofNat k.toNat, ?_⟩
 have : (UInt8.ofNat k.toNat).toNat = k.toNat := by
  rw [UInt8.toNat_ofNat']
  omega
 rw [this, Int.toNat_of_nonneg hb.1]
theorem bit_read (h : DataW.trod enc Tryz.prog w base spare held n 63 cs = some x) : ∃ b : UInt8, cs = [.int .u8 b.toNat] := by
 obtain ⟨k, rfl, _, hw⟩ := DataW.trod_int Tryz.underlying63 h
 obtain ⟨b, rfl⟩ := u8_wf hw
 exact ⟨b, rfl⟩
theorem c9 : Tryz.prog.cellsOf 9 = 1 := by kernel_rfl
theorem c3 : Tryz.prog.cellsOf 3 = 1 := by kernel_rfl
theorem c63 : Tryz.prog.cellsOf 63 = 1 := by kernel_rfl
theorem c22 : Tryz.prog.cellsOf 22 = 1 := by kernel_rfl
theorem c23 : Tryz.prog.cellsOf 23 = 1 := by kernel_rfl
theorem c24 : Tryz.prog.cellsOf 24 = 1 := by kernel_rfl
theorem c25 : Tryz.prog.cellsOf 25 = 1 := by kernel_rfl
theorem c68 : Tryz.prog.cellsOf 68 = 3 := by kernel_rfl
theorem c55 : Tryz.prog.cellsOf 55 = 2 := by kernel_rfl
theorem c53 : Tryz.prog.cellsOf 53 = 2 := by kernel_rfl
theorem c27 : Tryz.prog.cellsOf 27 = 4 := by kernel_rfl
theorem fldW {fs : Array Field} {m : Nat} {xs : List (DataW H × List MemPlace)} (hf : ∀ (i : Nat) (f : Field), fs[i]? = some f -> DataW.trod enc Tryz.prog w base spare held m f.type ((cs.drop f.offset).take (Tryz.prog.cellsOf f.type)) = xs[i]?) (hx : xs.length = fs.size)
  (i : Nat) {f : Field} (hi : fs[i]? = some f) {k off : Nat} {t : TypeId} {l : List Value} (ht : f.type = t) (ho : f.offset = off) (hk : Tryz.prog.cellsOf t = k) (hl : (cs.drop off).take k = l) : ∃ y, DataW.trod enc Tryz.prog w base spare held m t l = some y /\ xs[i]? = some y := by
 have h := hf i f hi
 subst ht; subst ho; subst hk; subst hl
 have hlt : i < xs.length := by rw [hx]; exact (Array.getElem?_eq_some_iff.1 hi).1
 rw [List.getElem?_eq_getElem hlt] at h ⊢
 exact ⟨_, h, rfl⟩
theorem elmW {e : TypeId} {k m : Nat} {xs : List (DataW H × List MemPlace)} (hf : ∀ (i : Nat), i < k -> DataW.trod enc Tryz.prog w base spare held m e ((cs.drop (i * Tryz.prog.cellsOf e)).take (Tryz.prog.cellsOf e)) = xs[i]?) (hx : xs.length = k)
  (i : Nat) (hi : i < k) {c : Nat} {l : List Value} (hk : Tryz.prog.cellsOf e = c) (hl : (cs.drop (i * c)).take c = l) : ∃ y, DataW.trod enc Tryz.prog w base spare held m e l = some y /\ xs[i]? = some y := by
 have h := hf i hi
 subst hk; subst hl
 have hlt : i < xs.length := by omega
 rw [List.getElem?_eq_getElem hlt] at h ⊢
 exact ⟨_, h, rfl⟩
theorem str_read (h : DataW.trod enc Tryz.prog w base spare held n 9 cs = some x) (hw : ∀ m ∈ x.1.weights Tryz.prog 9, m <= reachBytes) : ∃ s : ByteArray, cs = [.string s] /\ s.size <= 140737488355328 := by
 obtain ⟨s, rfl, e, hs⟩ := DataW.trod_string Tryz.underlying9 h
 have := weigh_string (t := 9) (P := Tryz.prog) (d := x.1) (by rw [e]) hw
 have hk := reach_le
 exact ⟨s, rfl, by omega⟩
theorem reg_read (h : DataW.trod enc Tryz.prog w base spare held n 68 cs = some x) (hw : ∀ m ∈ x.1.weights Tryz.prog 68, m <= reachBytes) : ∃ l : GReg, (l.name.size <= 140737488355328 /\ Fit64 l.next) /\ ∃ v : Value, v.cells.toList = cs /\ R (Ghost.all w) (regAV l) v := by
 obtain ⟨xs, m, rfl, rfl, hl, hx, hf⟩ := DataW.trod_struct Tryz.underlying68 h
 rw [c68] at hl
 rcases cs with _ | ⟨a, _ | ⟨b, _ | ⟨c, _ | ⟨d, l⟩⟩⟩⟩ <;> simp at hl
 obtain ⟨y0, f0, z0⟩ := fldW hf hx 0 rfl rfl rfl c9 (l := [a]) rfl
 obtain ⟨y1, f1, z1⟩ := fldW hf hx 1 rfl rfl rfl c63 (l := [b]) rfl
 obtain ⟨y2, f2, z2⟩ := fldW hf hx 2 rfl rfl rfl c3 (l := [c]) rfl
 obtain ⟨s, e0, hs⟩ := str_read f0 (weigh_field Tryz.underlying68 hw (i := 0) rfl z0)
 obtain ⟨q, e1⟩ := bit_read f1
 obtain ⟨k2, e2, hk2⟩ := int_read f2
 simp only [List.cons.injEq, and_true] at e0 e1 e2
 subst e0; subst e1; subst e2
 refine ⟨⟨s, q, k2⟩, ⟨hs, hk2⟩, .agg #[.string s, .int .u8 q.toNat, .int .i64 k2], rfl, ?_⟩
 simp only [regAV, R]
 exact ⟨_, rfl, RL.cons (by simp only [R]) (RL.cons (by simp only [bitAV, R]) (RL.cons (by simp only [R]) (RL.nil _)))⟩
theorem pin_read (h : DataW.trod enc Tryz.prog w base spare held n 55 cs = some x) (hw : ∀ m ∈ x.1.weights Tryz.prog 55, m <= reachBytes) : ∃ l : GPin, (l.name.size <= 140737488355328 /\ Fit64 l.lit) /\ ∃ v : Value, v.cells.toList = cs /\ R (Ghost.all w) (pinAV l) v := by
 obtain ⟨xs, m, rfl, rfl, hl, hx, hf⟩ := DataW.trod_struct Tryz.underlying55 h
 rw [c55] at hl
 rcases cs with _ | ⟨a, _ | ⟨b, _ | ⟨c, l⟩⟩⟩ <;> simp at hl
 obtain ⟨y0, f0, z0⟩ := fldW hf hx 0 rfl rfl rfl c9 (l := [a]) rfl
 obtain ⟨y1, f1, z1⟩ := fldW hf hx 1 rfl rfl rfl c3 (l := [b]) rfl
 obtain ⟨s, e0, hs⟩ := str_read f0 (weigh_field Tryz.underlying55 hw (i := 0) rfl z0)
 obtain ⟨k1, e1, hk1⟩ := int_read f1
 simp only [List.cons.injEq, and_true] at e0 e1
 subst e0; subst e1
 refine ⟨⟨s, k1⟩, ⟨hs, hk1⟩, .agg #[.string s, .int .i64 k1], rfl, ?_⟩
 simp only [pinAV, R]
 exact ⟨_, rfl, RL.cons (by simp only [R]) (RL.cons (by simp only [R]) (RL.nil _))⟩
theorem gate_read (h : DataW.trod enc Tryz.prog w base spare held n 53 cs = some x) : ∃ g : Int × Int, (Fit64 g.1 /\ Fit64 g.2) /\ ∃ v : Value, v.cells.toList = cs /\ R (Ghost.all w) (gateAV g) v := by
 obtain ⟨xs, m, rfl, rfl, hl, hx, hf⟩ := array_read Tryz.underlying53 h
 rw [c53] at hl
 rcases cs with _ | ⟨a, _ | ⟨b, _ | ⟨c, l⟩⟩⟩ <;> simp at hl
 obtain ⟨y0, f0, _⟩ := elmW hf hx 0 (by omega) c3 (l := [a]) rfl
 obtain ⟨y1, f1, _⟩ := elmW hf hx 1 (by omega) c3 (l := [b]) rfl
 obtain ⟨k0, e0, hk0⟩ := int_read f0
 obtain ⟨k1, e1, hk1⟩ := int_read f1
 simp only [List.cons.injEq, and_true] at e0 e1
 subst e0; subst e1
 refine ⟨(k0, k1), ⟨hk0, hk1⟩, .agg #[.int .i64 k0, .int .i64 k1], rfl, ?_⟩
 simp only [gateAV, R]
 exact ⟨_, rfl, RL.cons (by simp only [R]) (RL.cons (by simp only [R]) (RL.nil _))⟩
theorem strs_read (h : DataW.trod enc Tryz.prog w base spare held n 22 cs = some x) (hw : ∀ m ∈ x.1.weights Tryz.prog 22, m <= reachBytes) : ∃ s : GSl ByteArray, (∃ v, cs = [v] /\ R (Ghost.all w) (s.av 1 strAV) v) /\ (∀ a ∈ s.xs, a.size <= 140737488355328) /\ s.xs.length <= reachBytes :=
 slice_readV strAV 1 (fun a => a.size <= 140737488355328) (by decide) Tryz.underlying22 c9 (of_decide_eq_true (by kernel_rfl)) hw (fun n cs y hy hwy => by
  obtain ⟨s, rfl, hs⟩ := str_read hy hwy
  exact ⟨s, hs, rfl, .string s, rfl, by simp only [strAV, R]⟩) h
theorem regs_read (h : DataW.trod enc Tryz.prog w base spare held n 23 cs = some x) (hw : ∀ m ∈ x.1.weights Tryz.prog 23, m <= reachBytes) : ∃ s : GSl GReg, (∃ v, cs = [v] /\ R (Ghost.all w) (s.av 3 regAV) v) /\ (∀ a ∈ s.xs, a.name.size <= 140737488355328 /\ Fit64 a.next) /\ s.xs.length <= reachBytes :=
 slice_readV regAV 3 (fun a => a.name.size <= 140737488355328 /\ Fit64 a.next) (by decide) Tryz.underlying23 c68 (of_decide_eq_true (by kernel_rfl)) hw (fun n cs y hy hwy => by
  obtain ⟨l, h1, h2⟩ := reg_read hy hwy
  exact ⟨l, h1, rfl, h2⟩) h
theorem gates_read (h : DataW.trod enc Tryz.prog w base spare held n 24 cs = some x) (hw : ∀ m ∈ x.1.weights Tryz.prog 24, m <= reachBytes) : ∃ s : GSl (Int × Int), (∃ v, cs = [v] /\ R (Ghost.all w) (s.av 2 gateAV) v) /\ (∀ a ∈ s.xs, Fit64 a.1 /\ Fit64 a.2) /\ s.xs.length <= reachBytes :=
 slice_readV gateAV 2 (fun a => Fit64 a.1 /\ Fit64 a.2) (by decide) Tryz.underlying24 c53 (of_decide_eq_true (by kernel_rfl)) hw (fun n cs y hy hwy => by
  obtain ⟨l, h1, h2⟩ := gate_read hy
  exact ⟨l, h1, rfl, h2⟩) h
theorem pins_read (h : DataW.trod enc Tryz.prog w base spare held n 25 cs = some x) (hw : ∀ m ∈ x.1.weights Tryz.prog 25, m <= reachBytes) : ∃ s : GSl GPin, (∃ v, cs = [v] /\ R (Ghost.all w) (s.av 2 pinAV) v) /\ (∀ a ∈ s.xs, a.name.size <= 140737488355328 /\ Fit64 a.lit) /\ s.xs.length <= reachBytes :=
 slice_readV pinAV 2 (fun a => a.name.size <= 140737488355328 /\ Fit64 a.lit) (by decide) Tryz.underlying25 c55 (of_decide_eq_true (by kernel_rfl)) hw (fun n cs y hy hwy => by
  obtain ⟨l, h1, h2⟩ := pin_read hy hwy
  exact ⟨l, h1, rfl, h2⟩) h
theorem net_read (h : DataW.trod enc Tryz.prog w base spare held n 27 cs = some x) (hw : ∀ m ∈ x.1.weights Tryz.prog 27, m <= reachBytes) : ∃ r : GNet, FitsN r /\ R (Ghost.all w) (netAV r) (.agg cs.toArray) := by
 obtain ⟨xs, m, rfl, rfl, hl, hx, hf⟩ := DataW.trod_struct Tryz.underlying27 h
 rw [c27] at hl
 rcases cs with _ | ⟨a, _ | ⟨b, _ | ⟨c, _ | ⟨d, _ | ⟨e, l⟩⟩⟩⟩⟩ <;> simp at hl
 obtain ⟨y0, f0, z0⟩ := fldW hf hx 0 rfl rfl rfl c22 (l := [a]) rfl
 obtain ⟨y1, f1, z1⟩ := fldW hf hx 1 rfl rfl rfl c23 (l := [b]) rfl
 obtain ⟨y2, f2, z2⟩ := fldW hf hx 2 rfl rfl rfl c24 (l := [c]) rfl
 obtain ⟨y3, f3, z3⟩ := fldW hf hx 3 rfl rfl rfl c25 (l := [d]) rfl
 obtain ⟨q0, ⟨v0, e0, r0⟩, g0, n0⟩ := strs_read f0 (weigh_field Tryz.underlying27 hw (i := 0) rfl z0)
 obtain ⟨q1, ⟨v1, e1, r1⟩, g1, n1⟩ := regs_read f1 (weigh_field Tryz.underlying27 hw (i := 1) rfl z1)
 obtain ⟨q2, ⟨v2, e2, r2⟩, g2, n2⟩ := gates_read f2 (weigh_field Tryz.underlying27 hw (i := 2) rfl z2)
 obtain ⟨q3, ⟨v3, e3, r3⟩, g3, n3⟩ := pins_read f3 (weigh_field Tryz.underlying27 hw (i := 3) rfl z3)
 simp only [List.cons.injEq, and_true] at e0 e1 e2 e3
 subst e0; subst e1; subst e2; subst e3
 have hk := reach_le
 refine ⟨⟨q0, q1, q2, q3⟩, ⟨Nat.le_trans n0 hk, Nat.le_trans n1 hk, Nat.le_trans n2 hk, Nat.le_trans n3 hk, g0, fun x hx => (g1 x hx).1, fun x hx => (g3 x hx).1, g2, fun x hx => (g1 x hx).2, fun x hx => (g3 x hx).2⟩, ?_⟩
 simp only [netAV, R]
 exact ⟨_, rfl, RL.cons r0 (RL.cons r1 (RL.cons r2 (RL.cons r3 (RL.nil _))))⟩
end
end Go.OptEnv
namespace Go.Proofs.YthomnnnhkfjbdaaGreat.optAgain
open Go.ChangeShapes Go.WideShapes Go.ChangeAt Go.RowKit
open Go.OptEnv Go.Abs
theorem own : ownKnob Tryz.prog.godebug = none := by kernel_rfl
theorem laidOut : laidOutB Tryz.prog = true := by kernel_rfl
set_option maxRecDepth 100000 in
theorem lifted0 (os : Os) (started : os.Started) (H : Type) (enc : TypeId × Value -> H) :
  ReturnsInHanded {} Tryz.checked os 13 .any (fun w args => (Rows.optAgainSpec.pre enc Tryz.prog Tryz.f13 Rows.optAgainRow.domain false w args /\ True) /\ sizedMet enc Tryz.prog Tryz.f13 (OpenSpec.ofChange Rows.optAgainSpec) false w args)
   (Rows.optAgainSpec.post enc Tryz.prog Tryz.f13 false true false false) := by
 refine returnsInHanded_of_change_and (C := Tryz.checked) (X := fun _ _ => True) (fun _ _ _ _ h => h) own started (by kernel_rfl) Tryz.func13
  (ChangeSpec.witness_at (enc := enc) (C := Tryz.checked) (os := os) (X := fun _ _ => True) false (World.laidAll Tryz.prog os []) #[.agg #[.slice none 0 0, .slice none 0 0, .slice none 0 0, .slice none 0 0]] 8 (World.laidAll_os _ _ _)
   (by kernel_rfl) (by kernel_rfl) (by kernel_rfl) (by kernel_rfl) (by kernel_rfl) trivial) ?_
 intro W base args ds gs before hval0 hW hcnd hsz0 _ _
 have hval : ∀ (j : Nat) t v, Tryz.f13.params[j]? = some t -> args[j]? = some v -> Value.okWide Tryz.prog W .any base t v := hval0
 have hW' := hW
 obtain ⟨p, q, hA0, hV, rfl, hfz, hnd⟩ := hW
 have hA : DataW.TrodAll enc Tryz.prog W 0 (fun _ => true) true Tryz.f13.params.toList args.toList ds p := hA0
 rw [Tryz.params13] at hA hval
 obtain ⟨v0, vs0, d0, ds0, p0, q0, hargs, rfl, rfl, h0, r0⟩ := trodAll_cons hA
 obtain ⟨rfl, rfl, rfl⟩ := trodAll_nil r0
 obtain rfl : args = #[v0] := by cases args; simp_all
 obtain ⟨rfl, rfl⟩ := trodVars_none hV
 have hv0 := hval 0 27 v0 rfl rfl
 have lt0 : ∀ x ∈ p0, x.block < W.heap.size := by obtain ⟨m, hm⟩ := h0; exact DataW.trod_lt m _ _ _ hm
 obtain ⟨cs, rfl⟩ : ∃ cs, v0 = .agg cs := by
  unfold Value.okWide at hv0
  rw [Tryz.underlying27] at hv0
  obtain ⟨cs, rfl, _⟩ := hv0
  exact ⟨cs, rfl⟩
 have k0 := h0
 obtain ⟨r, hr, hR⟩ : ∃ r : GNet, FitsN r /\ R (Ghost.all W) (netAV r) (.agg cs) := by
  obtain ⟨fuel, hf⟩ := h0
  obtain ⟨r, hr, hR⟩ := net_read hf (weigh_arg hsz0 (j := 0) rfl rfl)
  exact ⟨r, hr, by simpa [Value.cells] using hR⟩
 clear hA0 hval0 hsz0
 refine (again_calls W r hr _ hR).mono fun e W' ⟨he, bel⟩ => ?_
 subst he
 exact ⟨_, rfl, _, _, _, [], _, [], hW', trodAll_mk1 (shut_bool Tryz.underlying4 _), (trodAll_cons_mk (Below.trod laidOut (by kernel_rfl) (of_decide_eq_true (by kernel_rfl)) k0 bel lt0) trodAll_mk0), rfl, bel.frame _, fun h => by cases h⟩
theorem lifted (os : Os) (started : os.Started) (H : Type) (enc : TypeId × Value -> H) :
  ReturnsInHanded {} Tryz.checked os 13 .any (fun w args => Rows.optAgainSpec.pre enc Tryz.prog Tryz.f13 Rows.optAgainRow.domain false w args /\ sizedMet enc Tryz.prog Tryz.f13 (OpenSpec.ofChange Rows.optAgainSpec) false w args)
   (Rows.optAgainSpec.post enc Tryz.prog Tryz.f13 false true false false) := by
 have h := lifted0 os started H enc
 simp only [and_true] at h
 exact h
theorem over : Rows.optAgainRow.holds Tryz.pinned (OpenSpec.ofChange Rows.optAgainSpec) :=
 OpenClaim.holds_of_wide 13 Tryz.f13 rfl rfl rfl rfl rfl rfl rfl ⟨rfl, rfl, rfl, rfl, rfl⟩ rfl rfl rfl rfl rfl (by kernel_rfl) Tryz.func13 (by kernel_rfl)
  (of_decide_eq_true (by kernel_rfl)) (by unfold Func.isWrapper; first | (rw [if_pos (by decide +kernel)]; kernel_rfl) | (rw [if_neg (by decide +kernel)]; exact ⟨rfl, rfl⟩))
  (fun os started H enc _ => lifted os started H enc)
theorem proved : Rows.OptAgainSaid := over
end Go.Proofs.YthomnnnhkfjbdaaGreat.optAgain
namespace Go.Proofs.YthomnnnhkfjbdaaGreat
theorem optAgain_holds : Rows.OptAgainSaid := optAgain.proved
end Go.Proofs.YthomnnnhkfjbdaaGreat
