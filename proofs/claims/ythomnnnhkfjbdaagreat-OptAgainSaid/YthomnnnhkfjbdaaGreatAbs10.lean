/- Own text of this claim: part 10 of an interpreter that is proved sound against the model, and of what it shows of the law. -/
import Derived.Test.YthomnnnhkfjbdaaGreatAbs9
import Derived.Test.YthomnnnhkfjbdaaGreatAbs7
import Derived.Test.YthomnnnhkfjbdaaGreatAbs8
namespace Go.OptEnv
open Go Go.Proofs Go.Abs Go.RowKit Go.NetM
set_option maxRecDepth 10000
def withNext (lits : List Int) (r : GReg) : GReg := ⟨r.name, r.init, atL lits r.next⟩
def layN (n : GNet) (s : List Int × List (Int × Int)) : GNet := ⟨cloneG n.ins, GSl.of (n.regs.xs.map (withNext s.1)), GSl.of s.2, mapC n.outs (withLit s.1)⟩
def shareS (n : GNet) : List Int × List (Int × Int) := shareM n.kN (idL n.kN) n.gates.xs
def shareN (n : GNet) : GNet := layN n (shareS n)
def nilN : GNet := ⟨GSl.of [], GSl.of [], GSl.of [], GSl.of []⟩
theorem nil_AV : netAV nilN = .agg [.nilsl, .nilsl, .nilsl, .nilsl] := rfl
def resAV (n : GNet) (m : GNet) : AV := .tup [netAV (if validM n = true then m else nilN), .int .i64 (if validM n = true then 0 else 2)]
theorem gatesOk_all : ∀ {G : List (Int × Int)} {k : Nat}, okG k G -> gatesOk (k : Int) G = true := fun {G k} h => by
 have : ∀ i, i <= G.length -> gatesOk (k : Int) (G.take i) = true := by
  intro i
  induction i with
  | zero => intro _; simp [gatesOk]
  | succ i ih =>
   intro hi
   rw [gatesOk_take (by omega), ih (by omega)]
   obtain ⟨⟨a1, a2⟩, a3, a4⟩ := h i (by omega)
   simp only [litOk, Bool.true_and, Bool.and_eq_true, decide_eq_true_eq]
   omega
 have h2 := this G.length (Nat.le_refl _)
 rw [List.take_length] at h2
 exact h2
theorem lay_xs {n : GNet} {s : List Int × List (Int × Int)} : (layN n s).ins.xs = n.ins.xs /\ (layN n s).regs.xs = n.regs.xs.map (withNext s.1) /\ (layN n s).gates.xs = s.2 /\ (layN n s).outs.xs = n.outs.xs.map (withLit s.1) := by
 simp only [layN, clone_xs, gof_xs, mapC_xs, and_self]
theorem lay_valid {n : GNet} (hv : validM n = true) {s : List Int × List (Int × Int)} {N m : Nat} (hs : ShOk n.kN N m s) (hm : m <= 20000) : validM (layN n s) = true := by
 have v := validM_iff.1 hv
 obtain ⟨e1, e2, e3, e4⟩ := lay_xs (n := n) (s := s)
 have hf : (layN n s).first = (n.kN : Int) := by unfold GNet.first GNet.kN; rw [e1, e2, List.length_map]; omega
 have hnd : (layN n s).nodes = ((n.kN + s.2.length : Nat) : Int) := by unfold GNet.nodes; rw [hf, e3]; omega
 have hg := hs.gates
 refine validM_iff.2 ⟨by rw [e3]; omega, by rw [e1]; exact v.ins, ?_, ?_, by rw [hf, e3]; exact gatesOk_all hs.ok, ?_, ?_, ?_⟩
 ·rw [e2, List.map_map]; exact v.regs
 ·rw [e4, List.map_map]; exact v.outs
 ·rw [e2, List.all_map]; exact v.inits
 ·rw [e2, hnd, List.all_map, List.all_eq_true]
  intro r _
  have := hs.at_ r.next
  exact decide_eq_true this
 ·rw [e4, hnd, List.all_map, List.all_eq_true]
  intro r _
  have := hs.at_ r.lit
  exact decide_eq_true this
theorem lay_fits {n : GNet} (hn : FitsN n) (hr : n.ins.xs.length <= 1000 /\ n.regs.xs.length <= 1000) {s : List Int × List (Int × Int)} {N m : Nat} (hs : ShOk n.kN N m s) (hm : m <= 20000) : FitsN (layN n s) := by
 obtain ⟨e1, e2, e3, e4⟩ := lay_xs (n := n) (s := s)
 obtain ⟨f1, f2, f3, f4, m1, m2, m3, g1, g2, g3⟩ := hn
 have hg := hs.gates
 have hk : n.kN <= 3000 := by unfold GNet.kN; omega
 have ha : ∀ l, Fit64 (atL s.1 l) := fun l => by
  have := hs.at_ l
  exact ⟨by omega, by omega⟩
 refine ⟨by rw [e1]; exact f1, by rw [e2, List.length_map]; exact f2, by rw [e3]; omega, by rw [e4, List.length_map]; exact f4, by rw [e1]; exact m1, ?_, ?_, ?_, ?_, ?_⟩
 ·rw [e2]; intro r hr
  obtain ⟨x, hx, rfl⟩ := List.mem_map.1 hr
  exact m2 x hx
 ·rw [e4]; intro r hr
  obtain ⟨x, hx, rfl⟩ := List.mem_map.1 hr
  exact m3 x hx
 ·rw [e3]; intro g hg'
  obtain ⟨i, hi, rfl⟩ := List.mem_iff_getElem.1 hg'
  obtain ⟨a, b⟩ := hs.ok i hi
  exact ⟨⟨by omega, by omega⟩, by omega, by omega⟩
 ·rw [e2]; intro r hr
  obtain ⟨x, hx, rfl⟩ := List.mem_map.1 hr
  exact ha _
 ·rw [e4]; intro r hr
  obtain ⟨x, hx, rfl⟩ := List.mem_map.1 hr
  exact ha _
theorem net_lay {n : GNet} {m : MkI} {s : List Int × List (Int × Int)} (h1 : m.ins = cloneG n.ins) (h2 : m.regs = n.regs.xs.map zeroR) : netN m (n.regs.xs.map fun r => atL s.1 r.next) s.2 (mapC n.outs (withLit s.1)) = layN n s := by
 unfold netN layN nextR
 rw [h1, h2, cloneG_clone, List.zipWith_map, List.zipWith_self]
 rfl
theorem mk_k {n : GNet} {m : MkI} (h1 : m.ins = cloneG n.ins) (h2 : m.regs = n.regs.xs.map zeroR) : m.k = n.kN := by
 unfold MkI.k GNet.kN; rw [h1, h2, clone_xs, List.length_map]
theorem mk_fit {n : GNet} {m : MkI} (h1 : m.ins = cloneG n.ins) (h2 : m.regs = n.regs.xs.map zeroR) (f1 : n.ins.xs.length <= 1000) (f2 : n.regs.xs.length <= 1000) : m.Fit := ⟨by rw [h1, clone_xs]; exact f1, by rw [h2, List.length_map]; exact f2⟩
theorem share_sh (n : GNet) {i : Nat} (hi : i <= n.gates.xs.length) : ShOk n.kN (n.kN + i) i (shareM n.kN (idL n.kN) (n.gates.xs.take i)) := by
 have hk : 0 < n.kN := by unfold GNet.kN; omega
 have := ShOk.share hk (idL_range hk) n.gates.xs i hi
 rw [idL_len] at this
 exact this
theorem valid_lits {n : GNet} (hv : validM n = true) : okG n.kN n.gates.xs /\ (∀ r ∈ n.regs.xs, 0 <= r.next /\ r.next < 2 * ((n.kN + n.gates.xs.length : Nat) : Int)) /\ (∀ p ∈ n.outs.xs, 0 <= p.lit /\ p.lit < 2 * ((n.kN + n.gates.xs.length : Nat) : Int)) := by
 have v := validM_iff.1 hv
 have hf : (n.kN : Int) = n.first := by unfold GNet.first GNet.kN; omega
 refine ⟨okG_of hf v.gates, fun r hr => ?_, fun p hp => ?_⟩
 ·have := of_decide_eq_true (List.all_eq_true.1 v.nexts r hr)
  unfold GNet.nodes at this
  omega
 ·have := of_decide_eq_true (List.all_eq_true.1 v.lits p hp)
  unfold GNet.nodes at this
  omega
theorem valid_len {n : GNet} (hv : validM n = true) : n.ins.xs.length <= 1000 /\ n.regs.xs.length <= 1000 /\ n.outs.xs.length <= 1000 /\ n.gates.xs.length <= 20000 := by
 have v := validM_iff.1 hv
 have a := names_len v.ins
 have b := names_len v.regs
 have c := names_len v.outs
 simp only [List.length_map] at b c
 exact ⟨by omega, by omega, by omega, v.gatesN⟩
def Rel50 : Rel := RelF FitsN (fun n => [netAV n]) fun n => resAV n (shareN n)
attribute [local irreducible] WS QS OS OD Abs.Sub SubO SubK CW GSl.av accA growA
section
variable {pr : Prims}
theorem res_no {n m : GNet} (h : validM n = false) : resAV n m = .tup [.agg [.nilsl, .nilsl, .nilsl, .nilsl], .int .i64 2] := by
 unfold resAV; rw [h, <- nil_AV]; rfl
theorem res_yes {n m : GNet} (h : validM n = true) : resAV n m = .tup [netAV m, .int .i64 0] := by
 unfold resAV; rw [h]; rfl
theorem run95' (h95 : pr 95 = none) (h117 : pr 117 = none) (h94 : pr 94 = none) {L : List (Nat × AObj)} {K : List (Nat × Bool)} (km kt kg : Nat) {mb tg : Nat} {m : MkI} {G : List (Int × Int)} (hm : L[km]? = some (mb, mkO m tg G)) (ht : L[kt]? = some (m.tb, thO m G)) (hg : K[kg]? = some (tg, !G.isEmpty)) (hne : km ≠ kt) (hf : m.Fit) (hG : G.length < 20000)
  {a b : Int} (ha : 0 <= a /\ a < 2 * ((m.k + G.length : Nat) : Int)) (hb : 0 <= b /\ b < 2 * ((m.k + G.length : Nat) : Int)) {st : St} (hS : SFa L K st) :
  CW (En pr) 95 [.ptr mb 0 0, .int .i64 a, .int .i64 b] st fun r st' => ∃ tg' : Nat, True /\ r = .tup [.int .i64 (andG m.k G a b).1, .int .i64 0] /\ SFa ((L.set km (mb, mkO m tg' (andG m.k G a b).2)).set kt (m.tb, thO m (andG m.k G a b).2)) (K.set kg (tg', !(andG m.k G a b).2.isEmpty)) st' :=
 (run95 h95 h117 h94 km kt kg hm ht hg hne hf hG ha hb hS).mono fun r st' ⟨e, tg', h⟩ => ⟨tg', trivial, e, h⟩
set_option maxHeartbeats 2000000 in
theorem run50 (h1 : pr 50 = none) (h93 : pr 93 = none) (h66 : pr 66 = none) (h94 : pr 94 = none) (h95 : pr 95 = none) (h96 : pr 96 = none) (h125 : pr 125 = none) (h81 : pr 81 = none) (h117 : pr 117 = none) (h118 : pr 118 = none) (h112 : Has pr 112 Rel112) (h137 : pr 137 = none) (h138 : Has pr 138 Rel138) (h80 : pr 80 = none) (h57 : Has pr 57 Rel57)
  (n : GNet) (hn : FitsN n) (st : St) : CW (En pr) 50 [netAV n] st fun r _ => AV.free r = true /\ AV.plain r = resAV n (shareN n) := by
 have u57 := use57 h57 hn
 rcases (Bool.eq_false_or_eq_true (validM n)).symm with hV | hV
 ·rw [hV] at u57
  refine CW.start (N := 74) h1 rfl rfl ?_
  repeat' (first | (refine OS.do rfl ?_; first | refine OD.box rfl rfl rfl rfl (net_ok _) rfl (fun b1 => ?_) | refine OD.auto rfl rfl ?_ | refine OD.loadP 1 rfl rfl rfl rfl rfl rfl ?_ | refine OD.alloc rfl rfl rfl rfl (fun _ => ?_) | refine OD.storeW 0 rfl rfl rfl rfl (by first | rfl | exact net_ok _) rfl rfl rfl ?_ | refine OD.call rfl rfl rfl h57.eq u57 (fun _ => rfl) ?_) | refine OS.nil ?_ | refine WS.seq ?_ | refine QS.seqN ?_ | refine WS.region ?_ | refine WS.condT rfl ?_ | refine WS.ret ?_ | refine QS.seqR ?_)
  refine QS.retO (ResO.cell 0 (by rfl) (by rfl) (by rfl) (by rfl) (by rfl) (.tmp (by rfl) .nil)) fun st hs => ⟨rfl, ?_⟩
  rw [res_no hV]; rfl
 rw [hV] at u57
 obtain ⟨f1, f2, f3, f4⟩ := valid_len hV
 obtain ⟨hgo, hrn, hol⟩ := valid_lits hV
 refine CW.start (N := 74) h1 rfl rfl ?_
 repeat' (first | (refine OS.do rfl ?_; first | refine OD.box rfl rfl rfl rfl (net_ok _) rfl (fun b1 => ?_) | refine OD.auto rfl rfl ?_ | refine OD.loadP 1 rfl rfl rfl rfl rfl rfl ?_ | refine OD.alloc rfl rfl rfl rfl (fun _ => ?_) | refine OD.call rfl rfl rfl h57.eq u57 (fun _ => rfl) ?_ | (refine OD.callM (D := Nat × MkI) (fun d => d.2.ins = cloneG n.ins /\ d.2.regs = n.regs.xs.map zeroR) (fun d => .ptr d.1 0 0) (fun d => (d.1, mkO d.2 0 []) :: (d.2.tb, thO d.2 []) :: _) (fun _ => []) rfl rfl rfl (fun st hS => run93 h93 h66 h112 h57 n hn hV f1 f2 hS) (fun _ _ _ => rfl) ?_; rintro ⟨mb, m⟩ ⟨hmi, hmr⟩)) | refine OS.nil ?_ | refine WS.seq ?_ | refine QS.seqN ?_ | refine WS.region ?_ | refine WS.condF rfl ?_ | refine WS.skip ?_ | refine WS.block ?_)
 rename_i b2
 try dsimp only at hmi hmr
 have hmk : m.k = n.kN := mk_k hmi hmr
 have hmf : m.Fit := mk_fit hmi hmr f1 f2
 have hk1 : 1 <= n.kN /\ n.kN <= 2001 := by unfold GNet.kN; omega
 dsimp only
 refine WS.newK (WS.newK ?_)
 refine WS.loopX (D := Nat × Nat) [1, 2, 4] (fun d => [(5, accA d.1 1 ((idL d.2).map intAV)), (6, .int .i64 (2 * (d.2 : Int)))]) (fun _ => [(mb, mkO m 0 []), (m.tb, thO m []), (b2, .row ty27.size [ty27.zeroV]), (b1, .row ty27.size [netAV n])]) (fun d => [(d.1, !(idL d.2).isEmpty), (0, false)]) (fun d => d.2 <= n.kN) (fun d => n.kN - d.2) ((0, 0)) (Nat.zero_le _) ?_ (hm := by (try dsimp only); repeat' (first | exact Sub.nil _ | refine Sub.cons (congrArg some (accA_nil2 _ _).symm) ?_ | refine Sub.cons (congrArg (fun z => some (AV.int .i64 z)) (wrap_succ (by omega))) ?_ | refine Sub.cons rfl ?_))
 rintro ⟨t, j⟩ hj
 try dsimp only at hj
 have c94 := fun {L' : List (Nat × AObj)} {K' : List (Nat × Bool)} (km : Nat) (hm : L'[km]? = some (mb, mkO m 0 [])) (st : St) (hS : SFa L' K' st) => run94 h94 km hm hmf (by simp) hS
 rw [hmk] at c94
 dsimp only [RSt.at, List.cons_append, List.nil_append]
 have hgm : (idL j).map intAV ++ [.int .i64 (2 * (j : Int))] = (idL (j + 1)).map intAV := by rw [idL_succ, List.map_append]; rfl
 repeat' (first | (refine OS.do rfl ?_; first | refine OD.auto rfl rfl ?_ | refine OD.len rfl rfl (fun _ => lenTy_av rfl rfl) ?_ | (refine OD.callP (fun r => r = .int .i64 (2 * ((n.kN + ([] : List (Int × Int)).length : Nat) : Int))) rfl rfl rfl (c94 0 rfl) (by rintro v st rfl; rfl) ?_; rintro v rfl) | refine OD.append 0 (xs := (idL j).map intAV) (ys := [.int .i64 (2 * (j : Int))]) rfl rfl rfl rfl (by rw [List.isEmpty_map]; rfl) rfl rfl rfl rfl rfl rfl (.inr ⟨⟨_, rfl⟩, rfl⟩) (fun _ => rfl) rfl rfl (roomB rfl (by simp only [List.length_map, List.length_singleton, idL_len]; omega)) (fun t' => ?_) | refine OD.loadP 3 rfl rfl rfl rfl rfl rfl ?_) | refine OS.nil ?_ | refine WS.seq ?_ | refine QS.seqN ?_ | refine WS.region ?_ | refine WS.condD rfl (fun _ => ?_) (fun _ => ?_) | refine WS.skip ?_ | refine WS.block ?_ | refine QS.blockN ?_ | refine WS.exit ?_ | refine QS.seqE ?_ | refine QS.blockH ?_ | refine QS.loopE ?_)
 ·rename_i hc
  rw [hgm, List.isEmpty_map]
  simp only [List.length_nil, Nat.add_zero] at hc
  have hw : IntKind.i64.wrap (2 * (j : Int) + 2) = 2 * ((j + 1 : Nat) : Int) := by rw [wrap64 (by omega) (by omega)]; omega
  exact QS.loopX ((t', j + 1)) (by exact (by dsimp only; omega)) (by exact (by dsimp only; omega)) (hl := by (try dsimp only [List.cons_append, List.nil_append]); repeat' (first | exact Sub.nil _ | refine Sub.cons (congrArg (fun z => some (AV.int .i64 z)) hw) ?_ | refine Sub.cons (congrArg (fun z => some (AV.int .i64 z)) (wrap_succ (by omega))) ?_ | refine Sub.cons rfl ?_))
 rename_i hc
 simp only [List.length_nil, Nat.add_zero] at hc
 have hjk : j = n.kN := by omega
 subst hjk
 refine WS.rangeX (A := (Nat × List Int) × Nat × List (Int × Int)) (n := n.gates.xs.length) ⟨30, _, fun a => [(5, accA a.1.1 1 (a.1.2.map intAV))], fun a => [(mb, mkO m a.2.1 a.2.2), (m.tb, thO m a.2.2), (b2, .row ty27.size [ty27.zeroV]), (b1, .row ty27.size [netAV n])], fun a => [(a.1.1, !a.1.2.isEmpty), (a.2.1, !a.2.2.isEmpty)], fun i a => (a.1.2, a.2.2) = shareM n.kN (idL n.kN) (n.gates.xs.take i)⟩ (((t, idL n.kN), 0, [])) [1, 2, 4, 28, 29] (rfl) ?_ ?_
 ·rintro i ⟨⟨t, R⟩, tg, G⟩ hi hA
  try dsimp only at hA
  have hs := share_sh n (Nat.le_of_lt hi)
  rw [<- hA] at hs
  have hRl := hs.len
  have hGl := hs.gates
  try dsimp only at hRl hGl
  obtain ⟨⟨g1, g2⟩, g3, g4⟩ := hgo i hi
  have r1 := hs.range (n.gates.xs[i].1 / 2).toNat
  have r2 := hs.range (n.gates.xs[i].2 / 2).toNat
  have a1 := hs.at_ n.gates.xs[i].1
  have a2 := hs.at_ n.gates.xs[i].2
  try dsimp only at r1 r2 a1 a2
  rw [<- hmk] at a1 a2
  have hw1 : IntKind.i64.wrap (n.gates.xs[i].1.tdiv 2) = n.gates.xs[i].1 / 2 := by rw [Int.tdiv_eq_ediv_of_nonneg g1]; exact wrap64 (by omega) (by omega)
  have hw2 : IntKind.i64.wrap (n.gates.xs[i].2.tdiv 2) = n.gates.xs[i].2 / 2 := by rw [Int.tdiv_eq_ediv_of_nonneg g3]; exact wrap64 (by omega) (by omega)
  have hx1 : R[(n.gates.xs[i].1 / 2).toNat]? = some (R.getD (n.gates.xs[i].1 / 2).toNat 0) := by rw [List.getD_eq_getElem?_getD, List.getElem?_eq_getElem (by omega)]; rfl
  have hx2 : R[(n.gates.xs[i].2 / 2).toNat]? = some (R.getD (n.gates.xs[i].2 / 2).toNat 0) := by rw [List.getD_eq_getElem?_getD, List.getElem?_eq_getElem (by omega)]; rfl
  have ex1 : IntKind.i64.wrap ((BitVec.ofInt IntKind.i64.bits (R.getD (n.gates.xs[i].1 / 2).toNat 0) ^^^ BitVec.ofInt IntKind.i64.bits (IntKind.i64.wrap ((BitVec.ofInt IntKind.i64.bits n.gates.xs[i].1 &&& BitVec.ofInt IntKind.i64.bits 1).toNat : Int))).toNat : Int) = atL R n.gates.xs[i].1 := by rw [and1 g1, xor_flip (by omega) (by omega)]; rfl
  have ex2 : IntKind.i64.wrap ((BitVec.ofInt IntKind.i64.bits (R.getD (n.gates.xs[i].2 / 2).toNat 0) ^^^ BitVec.ofInt IntKind.i64.bits (IntKind.i64.wrap ((BitVec.ofInt IntKind.i64.bits n.gates.xs[i].2 &&& BitVec.ofInt IntKind.i64.bits 1).toNat : Int))).toNat : Int) = atL R n.gates.xs[i].2 := by rw [and1 g3, xor_flip (by omega) (by omega)]; rfl
  have c95 := fun {L' : List (Nat × AObj)} {K : List (Nat × Bool)} (km kt kg : Nat) (hm : L'[km]? = some (mb, mkO m tg G)) (ht : L'[kt]? = some (m.tb, thO m G)) (hg : K[kg]? = some (tg, !G.isEmpty)) (hne : km ≠ kt) (st : St) (hS : SFa L' K st) => run95' h95 h117 h94 km kt kg hm ht hg hne hmf (by omega) a1 a2 hS
  obtain ⟨⟨lit, G'⟩, hAnd⟩ : ∃ res, res = andG m.k G (atL R n.gates.xs[i].1) (atL R n.gates.xs[i].2) := ⟨_, rfl⟩
  simp only [<- hAnd] at c95
  have hstep : (R ++ [lit], G') = stepM n.kN (R, G) n.gates.xs[i] := by unfold stepM; rw [<- hmk, <- hAnd]
  have hgm : R.map intAV ++ [.int .i64 lit] = (R ++ [lit]).map intAV := by rw [List.map_append]; rfl
  dsimp only [RSt.at, List.cons_append, List.nil_append]
  repeat' (first | (refine OS.do rfl ?_; first | refine OD.indexAddr rfl rfl rfl (indexAddrA_accm rfl rfl rfl rfl (by rw [hw1]; omega) (by rw [hw1]; exact hx1)) ?_ | refine OD.indexAddr rfl rfl rfl (indexAddrA_accm rfl rfl rfl rfl (by rw [hw2]; omega) (by rw [hw2]; exact hx2)) ?_ | refine OD.loadP 0 rfl rfl rfl rfl rfl rfl ?_ | refine OD.auto rfl rfl ?_ | refine OD.indexAddr rfl rfl rfl (indexAddrA_nat rfl rfl rfl rfl (by first | assumption | exact List.getElem?_eq_getElem (by omega))) ?_ | refine OD.alloc rfl rfl rfl rfl (fun _ => ?_) | refine OD.storeW 0 rfl rfl rfl rfl (by first | rfl | exact net_ok _) rfl rfl rfl ?_ | refine OD.indexAddr rfl rfl rfl rfl ?_ | (rw [ex1, ex2]; refine OD.callM (D := Nat) (fun _ => True) (fun _ => .tup [.int .i64 lit, .int .i64 0]) _ _ rfl rfl rfl (c95 1 2 1 rfl rfl rfl (by decide)) (fun _ _ _ => rfl) ?_; rintro tg' _) | refine OD.append 0 (xs := R.map intAV) (ys := [.int .i64 lit]) rfl rfl rfl rfl (by rw [List.isEmpty_map]; rfl) rfl rfl rfl rfl rfl rfl (.inr ⟨⟨_, rfl⟩, rfl⟩) (fun _ => rfl) rfl rfl (roomB rfl (by simp only [List.length_map, List.length_singleton]; omega)) (fun t' => ?_)) | refine OS.nil ?_ | refine WS.seq ?_ | refine QS.seqN ?_ | refine WS.region ?_ | refine WS.condF rfl ?_ | refine WS.skip ?_ | refine WS.draw rfl rfl ?_)
  rw [hgm, List.isEmpty_map]
  exact QS.rangeX (((t', R ++ [lit]), tg', G')) (by (try dsimp only) <;> exact (by rw [hstep, hA, shareM_succ hi])) (hL := by (try dsimp only); exact SubO.drop (SubO.refl _))
 ·rintro ⟨⟨t, R⟩, tg, G⟩ hA
  try dsimp only at hA
  rw [List.take_of_length_le (Nat.le_refl _)] at hA
  have hs := share_sh n (Nat.le_refl n.gates.xs.length)
  rw [List.take_length, <- hA] at hs
  have hRl := hs.len
  try dsimp only at hRl
  have hGl := hs.gates
  try dsimp only at hGl
  have hRne : R.map intAV ≠ [] := by
   intro h
   have : R.length = 0 := by rw [List.map_eq_nil_iff.1 h]; rfl
   omega
  have hlay : netN m (n.regs.xs.map fun r => atL R r.next) G (mapC n.outs (withLit R)) = shareN n := by
   have := net_lay (s := (R, G)) hmi hmr
   rw [this]; unfold shareN shareS; rw [<- hA]
  have hLO : LitsOk R := ⟨fun j => by have := hs.range j; dsimp only at this; omega, by omega⟩
  have hV2 := lay_valid hV hs f4
  have hF2 := lay_fits hn ⟨f1, f2⟩ hs f4
  rw [hA] at hV2 hF2
  have c96 := fun {L' : List (Nat × AObj)} {K' : List (Nat × Bool)} (km : Nat) (hm : L'[km]? = some (mb, mkO m tg G)) (st : St) (hS : SFa L' K' st) => run96 h96 h81 h117 h118 h112 h137 h138 h80 h57 km hm hmf (by omega) n (by rw [hmr, List.length_map]) f3 (x := accA t 1 (R.map intAV)) acc_cell (lits := R) (by rw [hRl]; exact hrn) (by rw [hRl]; exact hol)
   (fun X k5 b5 l K'' st hx hl hS => by
    have e : accA t 1 (R.map intAV) = growA true t 1 (R.map intAV) := by rw [acc_vs hRne]; unfold growA; rfl
    rw [e] at hx
    exact run125g h125 k5 (by rw [List.getElem?_append_left (List.getElem?_eq_some_iff.1 hx).1]; exact hx) hLO hl hS) (by rw [hlay]; exact hF2) (by rw [hlay]; exact hV2) hS.noK
  rw [hlay] at c96
  dsimp only [RSt.at, List.cons_append, List.nil_append]
  repeat' (first | (refine OS.do rfl ?_; first | refine OD.storeW 2 rfl rfl rfl rfl hq.ok rfl rfl rfl ?_ | refine OD.auto rfl rfl ?_ | refine OD.loadP 3 rfl rfl rfl rfl rfl rfl ?_ | (refine OD.callM (D := Quad) (fun q => QOk q (shareN n)) (fun q => .tup [qAV q, .int .i64 0]) (fun _ => _) (fun _ => []) rfl rfl rfl (c96 0 rfl) (fun q st hq => freeze_free (by simp only [AV.free, AV.freeL, hq.free]; rfl)) ?_; rintro q hq)) | refine OS.nil ?_ | refine WS.seq ?_ | refine QS.seqN ?_ | refine WS.region ?_ | refine WS.ret ?_)
  refine QS.retO (ResO.cell 2 (by rfl) (by rfl) (by rfl) (by rfl) (by rfl) (.tmp (by rfl) .nil)) fun st hs => ⟨?_, ?_⟩
  ·show AV.free (.tup [qAV q, .int .i64 0]) = true
   simp only [AV.free, AV.freeL, hq.free]; rfl
  ·show AV.plain (.tup [qAV q, .int .i64 0]) = _
   rw [res_yes hV]
   simp only [AV.plain, AV.plainL, hq.plain]
theorem con50 (h1 : pr 50 = none) (h93 : pr 93 = none) (h66 : pr 66 = none) (h94 : pr 94 = none) (h95 : pr 95 = none) (h96 : pr 96 = none) (h125 : pr 125 = none) (h81 : pr 81 = none) (h117 : pr 117 = none) (h118 : pr 118 = none) (h112 : Has pr 112 Rel112) (h137 : pr 137 = none) (h138 : Has pr 138 Rel138) (h80 : pr 80 = none) (h57 : Has pr 57 Rel57) : Con2 (En pr) 50 Rel50 :=
 con_of (fun d => by simp [AV.freeL, net_free]) fun d hd st => run50 h1 h93 h66 h94 h95 h96 h125 h81 h117 h118 h112 h137 h138 h80 h57 d hd st
theorem use50 (h : Has pr 50 Rel50) {n : GNet} (hn : FitsN n) (st : St) : primOf Rel50 [netAV n] st = some (resAV n (shareN n), st) := h.use ⟨n, hn, by simp [AV.plainL, net_plain], rfl⟩ st
end
end Go.OptEnv
namespace Go.OptEnv
open Go Go.Proofs Go.Abs Go.RowKit Go.NetM
set_option maxRecDepth 10000
def cleanS (n : GNet) : List Int × List (Int × Int) := keepM n.kN (coneN n n.roots) n.gates.xs
def cleanN (n : GNet) : GNet := layN n (cleanS n)
def nodeM (n : GNet) (keep : List Bool) (i : Nat) : List Int × List (Int × Int) := if i < n.kN then (idL i, []) else keepM n.kN keep (n.gates.xs.take (i - n.kN))
theorem nodeM_len {n : GNet} {keep : List Bool} {i : Nat} (hi : i <= n.kN + n.gates.xs.length) : (nodeM n keep i).1.length = i := by
 unfold nodeM
 split
 ·exact idL_len i
 ·have := (keep_ok (k := n.kN) (by unfold GNet.kN; omega) (keep := keep) n.gates.xs (i - n.kN) (by omega)).len
  omega
theorem nodeM_in {n : GNet} {keep : List Bool} {i : Nat} (hi : i < n.kN) : nodeM n keep (i + 1) = ((nodeM n keep i).1 ++ [2 * (i : Int)], (nodeM n keep i).2) := by
 unfold nodeM
 rw [if_pos hi]
 split
 ·rw [idL_succ]
 ·rw [show i + 1 - n.kN = 0 by omega, <- idL_succ, show i + 1 = n.kN by omega]; rfl
theorem nodeM_gate {n : GNet} {keep : List Bool} {i : Nat} (hi : i < n.gates.xs.length) : nodeM n keep (n.kN + i + 1) = keepS n.kN keep (nodeM n keep (n.kN + i)) n.gates.xs[i] := by
 unfold nodeM
 rw [if_neg (by omega), if_neg (by omega), show n.kN + i + 1 - n.kN = i + 1 by omega, show n.kN + i - n.kN = i by omega, keepM_succ hi]
theorem nodeM_all {n : GNet} {keep : List Bool} : nodeM n keep (n.kN + n.gates.xs.length) = keepM n.kN keep n.gates.xs := by
 unfold nodeM
 rw [if_neg (by omega), show n.kN + n.gates.xs.length - n.kN = n.gates.xs.length by omega, List.take_length]
theorem nodeM_ok {n : GNet} {keep : List Bool} {i : Nat} (hi : i <= n.gates.xs.length) : ShOk n.kN (n.kN + i) i (nodeM n keep (n.kN + i)) := by
 unfold nodeM
 rw [if_neg (by omega), show n.kN + i - n.kN = i by omega]
 exact keep_ok (by unfold GNet.kN; omega) n.gates.xs i hi
theorem rep_int (k : Nat) : List.replicate k (AV.int .i64 0) = (List.replicate k (0 : Int)).map intAV := by rw [List.map_replicate]; rfl
def Rel51 : Rel := RelF FitsN (fun n => [netAV n]) fun n => resAV n (cleanN n)
attribute [local irreducible] WS QS OS OD Abs.Sub SubO SubK CW GSl.av accA growA
section
variable {pr : Prims}
theorem use97a (h : Has pr 97 Rel97) {n : GNet} {t : Nat} {ls : List Int} (hv : validM n = true) (hn : ls.length <= 100000) (hl : ∀ l ∈ ls, 0 <= l /\ l < 2 * ((n.kN + n.gates.xs.length : Nat) : Int)) (st : St) : primOf Rel97 [netAV n, accA t 1 (ls.map intAV)] st = some ((GSl.some (coneN n ls)).av 1 boolAV, st) :=
 h.use (r := (GSl.some (coneN n ls)).av 1 boolAV) ⟨(n, GSl.of ls), ⟨⟨(valid_len hv).1, (valid_len hv).2.1, (valid_len hv).2.2.2, by rw [gof_xs]; exact hn⟩, (valid_lits hv).1, by rw [gof_xs]; exact hl⟩, by simp [AV.plainL, net_plain, plain_acc int_plain], by dsimp only; rw [gof_xs]⟩ st
set_option maxHeartbeats 4000000 in
theorem run51 (h1 : pr 51 = none) (h97 : Has pr 97 Rel97) (h93 : pr 93 = none) (h66 : pr 66 = none) (h94 : pr 94 = none) (h96 : pr 96 = none) (h125 : pr 125 = none) (h81 : pr 81 = none) (h117 : pr 117 = none) (h118 : pr 118 = none) (h112 : Has pr 112 Rel112) (h137 : pr 137 = none) (h138 : Has pr 138 Rel138) (h80 : pr 80 = none) (h57 : Has pr 57 Rel57)
  (n : GNet) (hn : FitsN n) (st : St) : CW (En pr) 51 [netAV n] st fun r _ => AV.free r = true /\ AV.plain r = resAV n (cleanN n) := by
 have u57 := use57 h57 hn
 rcases (Bool.eq_false_or_eq_true (validM n)).symm with hV | hV
 ·rw [hV] at u57
  refine CW.start (N := 126) h1 rfl rfl ?_
  repeat' (first | (refine OS.do rfl ?_; first | refine OD.box rfl rfl rfl rfl (net_ok _) rfl (fun b1 => ?_) | refine OD.auto rfl rfl ?_ | refine OD.loadP 1 rfl rfl rfl rfl rfl rfl ?_ | refine OD.alloc rfl rfl rfl rfl (fun _ => ?_) | refine OD.storeW 0 rfl rfl rfl rfl (by first | rfl | exact net_ok _) rfl rfl rfl ?_ | refine OD.call rfl rfl rfl h57.eq u57 (fun _ => rfl) ?_) | refine OS.nil ?_ | refine WS.seq ?_ | refine QS.seqN ?_ | refine WS.region ?_ | refine WS.condT rfl ?_ | refine WS.ret ?_ | refine QS.seqR ?_)
  refine QS.retO (ResO.cell 0 (by rfl) (by rfl) (by rfl) (by rfl) (by rfl) (.tmp (by rfl) .nil)) fun st hs => ⟨rfl, ?_⟩
  rw [res_no hV]; rfl
 rw [hV] at u57
 obtain ⟨f1, f2, f3, f4⟩ := valid_len hV
 obtain ⟨hgo, hrn, hol⟩ := valid_lits hV
 have hk1 : 1 <= n.kN /\ n.kN <= 2001 := by unfold GNet.kN; omega
 have hnl : n.nexts.length = n.regs.xs.length := by simp [GNet.nexts]
 refine CW.start (N := 126) h1 rfl rfl ?_
 repeat' (first | (refine OS.do rfl ?_; first | refine OD.box rfl rfl rfl rfl (net_ok _) rfl (fun b1 => ?_) | refine OD.auto rfl rfl ?_ | refine OD.loadP 1 rfl rfl rfl rfl rfl rfl ?_ | refine OD.len rfl rfl (fun _ => lenTy_av rfl rfl) ?_ | refine OD.alloc rfl rfl rfl rfl (fun _ => ?_) | refine OD.call rfl rfl rfl h57.eq u57 (fun _ => rfl) ?_) | refine OS.nil ?_ | refine WS.seq ?_ | refine QS.seqN ?_ | refine WS.region ?_ | refine WS.condF rfl ?_ | refine WS.skip ?_ | refine WS.block ?_)
 rename_i b2
 refine WS.newK ?_
 refine WS.rangeX (A := Nat × List Int) (n := n.regs.xs.length) ⟨22, _, fun a => [(4, accA a.1 1 (a.2.map intAV))], fun _ => [(b2, .row ty27.size [ty27.zeroV]), (b1, .row ty27.size [netAV n])], fun a => [(a.1, !a.2.isEmpty)], fun i a => a.2 = n.nexts.take i⟩ ((0, [])) [1, 2, 20, 21] (rfl) ?_ ?_ (hm := by (try dsimp only); repeat' (first | exact Sub.nil _ | refine Sub.cons (congrArg some (accA_nil2 _ _).symm) ?_ | refine Sub.cons (congrArg (fun z => some (AV.int .i64 z)) (wrap_succ (by omega))) ?_ | refine Sub.cons rfl ?_))
 ·rintro i ⟨t, R⟩ hi hR
  try dsimp only at hR
  have hRl : R.length = i := by rw [hR, List.length_take]; omega
  have hgm : R.map intAV ++ [.int .i64 n.regs.xs[i].next] = (R ++ [n.regs.xs[i].next]).map intAV := by rw [List.map_append]; rfl
  have hnx : n.nexts.take (i + 1) = n.nexts.take i ++ [n.regs.xs[i].next] := by
   rw [List.take_succ_eq_append_getElem (by omega)]; simp [GNet.nexts]
  dsimp only [RSt.at, List.cons_append, List.nil_append]
  repeat' (first | (refine OS.do rfl ?_; first | refine OD.loadP 0 rfl rfl rfl rfl rfl rfl ?_ | refine OD.auto rfl rfl ?_ | refine OD.indexAddr rfl rfl rfl (indexAddrA_nat rfl rfl rfl rfl (by first | assumption | exact List.getElem?_eq_getElem (by omega))) ?_ | refine OD.alloc rfl rfl rfl rfl (fun _ => ?_) | refine OD.storeW 0 rfl rfl rfl rfl (by first | rfl | exact net_ok _) rfl rfl rfl ?_ | refine OD.append 0 (xs := R.map intAV) (ys := [.int .i64 n.regs.xs[i].next]) rfl rfl rfl rfl (by rw [List.isEmpty_map]; rfl) rfl rfl rfl rfl rfl rfl (.inr ⟨⟨_, rfl⟩, rfl⟩) (fun _ => rfl) rfl rfl (roomB rfl (by simp only [List.length_map, List.length_singleton]; omega)) (fun t' => ?_)) | refine OS.nil ?_ | refine WS.seq ?_ | refine QS.seqN ?_ | refine WS.region ?_)
  rw [hgm, List.isEmpty_map]
  exact QS.rangeX ((t', R ++ [n.regs.xs[i].next])) (by (try dsimp only) <;> exact (by rw [hnx, <- hR])) (hL := by (try dsimp only); exact SubO.drop (SubO.refl _))
 rintro ⟨t, R⟩ hR
 try dsimp only at hR
 rw [List.take_of_length_le (by omega)] at hR
 dsimp only [RSt.at, List.cons_append, List.nil_append]
 repeat' (first | (refine OS.do rfl ?_; first | refine OD.auto rfl rfl ?_ | refine OD.loadP 1 rfl rfl rfl rfl rfl rfl ?_ | refine OD.len rfl rfl (fun _ => lenTy_av rfl rfl) ?_) | refine OS.nil ?_ | refine WS.seq ?_ | refine QS.seqN ?_ | refine WS.region ?_ | refine WS.block ?_)
 refine WS.rangeX (A := Nat × List Int) (n := n.outs.xs.length) ⟨35, _, fun a => [(4, accA a.1 1 (a.2.map intAV))], fun _ => [(b2, .row ty27.size [ty27.zeroV]), (b1, .row ty27.size [netAV n])], fun a => [(a.1, !a.2.isEmpty)], fun i a => a.2 = n.nexts ++ (n.outs.xs.take i).map (·.lit)⟩ ((t, R)) [1, 2, 33, 34] (by simp [hR]) ?_ ?_
 ·rintro i ⟨t, R⟩ hi hR
  try dsimp only at hR
  have hRl : R.length = n.regs.xs.length + i := by rw [hR, List.length_append, List.length_map, List.length_take]; omega
  have hgm : R.map intAV ++ [.int .i64 n.outs.xs[i].lit] = (R ++ [n.outs.xs[i].lit]).map intAV := by rw [List.map_append]; rfl
  dsimp only [RSt.at, List.cons_append, List.nil_append]
  repeat' (first | (refine OS.do rfl ?_; first | refine OD.loadP 0 rfl rfl rfl rfl rfl rfl ?_ | refine OD.auto rfl rfl ?_ | refine OD.indexAddr rfl rfl rfl (indexAddrA_nat rfl rfl rfl rfl (by first | assumption | exact List.getElem?_eq_getElem (by omega))) ?_ | refine OD.alloc rfl rfl rfl rfl (fun _ => ?_) | refine OD.storeW 0 rfl rfl rfl rfl (by first | rfl | exact net_ok _) rfl rfl rfl ?_ | refine OD.append 0 (xs := R.map intAV) (ys := [.int .i64 n.outs.xs[i].lit]) rfl rfl rfl rfl (by rw [List.isEmpty_map]; rfl) rfl rfl rfl rfl rfl rfl (.inr ⟨⟨_, rfl⟩, rfl⟩) (fun _ => rfl) rfl rfl (roomB rfl (by simp only [List.length_map, List.length_singleton]; omega)) (fun t' => ?_)) | refine OS.nil ?_ | refine WS.seq ?_ | refine QS.seqN ?_ | refine WS.region ?_)
  rw [hgm, List.isEmpty_map]
  exact QS.rangeX ((t', R ++ [n.outs.xs[i].lit])) (by (try dsimp only) <;> exact (by rw [map_take_succ hi, hR, List.append_assoc])) (hL := by (try dsimp only); exact SubO.drop (SubO.refl _))
 rintro ⟨t, R⟩ hR
 try dsimp only at hR
 rw [List.take_of_length_le (Nat.le_refl _)] at hR
 have hR : R = n.roots := hR
 subst hR
 have hrl : n.roots.length <= 2000 := by unfold GNet.roots; rw [List.length_append, List.length_map]; omega
 have hro : ∀ l ∈ n.roots, 0 <= l /\ l < 2 * ((n.kN + n.gates.xs.length : Nat) : Int) := fun l hl => by
  rcases List.mem_append.1 hl with h | h
  ·obtain ⟨r, hr, rfl⟩ := List.mem_map.1 h; exact hrn r hr
  ·obtain ⟨r, hr, rfl⟩ := List.mem_map.1 h; exact hol r hr
 have u97 := use97a h97 (t := t) hV (by omega) hro
 have z97 : ∀ st, freezeA st ((GSl.some (coneN n n.roots)).av 1 boolAV) = some ((GSl.some (coneN n n.roots)).av 1 boolAV, st) := fun st => freeze_free (free_av bool_free)
 have hcl : (GSl.some (coneN n n.roots)).xs.length = n.kN + n.gates.xs.length := coneM_len
 have c94 := fun {L' : List (Nat × AObj)} {K' : List (Nat × Bool)} {mb tg : Nat} {m : MkI} {G : List (Int × Int)} (hmf : m.Fit) (hG : G.length <= 20000) (km : Nat) (hm : L'[km]? = some (mb, mkO m tg G)) (st : St) (hS : SFa L' K' st) => run94 h94 km hm hmf hG hS
 dsimp only [RSt.at, List.cons_append, List.nil_append]
 repeat' (first | (refine OS.do rfl ?_; first | refine OD.auto rfl rfl ?_ | refine OD.loadP 1 rfl rfl rfl rfl rfl rfl ?_ | refine OD.len rfl rfl (fun _ => lenTy_av rfl rfl) ?_ | refine OD.call rfl rfl rfl h97.eq u97 z97 ?_ | (refine OD.callM (D := Nat × MkI) (fun d => d.2.ins = cloneG n.ins /\ d.2.regs = n.regs.xs.map zeroR) (fun d => .ptr d.1 0 0) (fun d => (d.1, mkO d.2 0 []) :: (d.2.tb, thO d.2 []) :: _) (fun _ => []) rfl rfl rfl (fun st hS => run93 h93 h66 h112 h57 n hn hV f1 f2 hS.noK) (fun _ _ _ => rfl) ?_; rintro ⟨mb, m⟩ ⟨hmi, hmr⟩) | (refine OD.makeSlice (n := n.kN + n.gates.xs.length) rfl (congrArg (fun (z : Nat) => some (AV.int .i64 (z : Int))) hcl) (congrArg (fun (z : Nat) => some (AV.int .i64 (z : Int))) hcl) rfl rfl rfl rfl rfl (roomB rfl (by omega)) (fun lb => ?_)) | (refine OD.callP (fun r => r = .int .i64 (2 * ((m.k + ([] : List (Int × Int)).length : Nat) : Int))) rfl rfl rfl (c94 (mk_fit hmi hmr f1 f2) (Nat.zero_le _) 1 rfl) (by rintro v st rfl; rfl) ?_; rintro v rfl)) | refine OS.nil ?_ | refine WS.seq ?_ | refine QS.seqN ?_ | refine WS.region ?_ | refine WS.block ?_)
 try dsimp only at hmi hmr
 have hmk : m.k = n.kN := mk_k hmi hmr
 have hmf : m.Fit := mk_fit hmi hmr f1 f2
 have hfirst : IntKind.i64.wrap ((2 * ((m.k + ([] : List (Int × Int)).length : Nat) : Int)).tdiv 2) = (n.kN : Int) := by
  rw [hmk, Int.tdiv_eq_ediv_of_nonneg (by omega), wrap64 (by simp only [List.length_nil]; omega) (by simp only [List.length_nil]; omega)]
  simp only [List.length_nil]; omega
 rw [hfirst, hcl, show List.replicate (n.kN + n.gates.xs.length) ty3.zeroV = (([] : List Int) ++ List.replicate (n.kN + n.gates.xs.length - ([] : List Int).length) 0).map intAV from rep_int _]
 generalize hkeep : coneN n n.roots = keep at *
 dsimp only
 refine WS.newK ?_
 have half : ∀ l : Int, 0 <= l /\ l < 2 * ((n.kN + n.gates.xs.length : Nat) : Int) -> indexAddrA (En pr) 38 (.sl ty3.size lb 0 (n.kN + n.gates.xs.length)) (.int .i64 (IntKind.i64.wrap (l.tdiv 2))) = some (.ptr lb (l / 2).toNat 0) := fun l h => by
  have : IntKind.i64.wrap (l.tdiv 2) = (((l / 2).toNat : Nat) : Int) := by
   rw [Int.tdiv_eq_ediv_of_nonneg h.1, wrap64 (by omega) (by omega)]; omega
  rw [this]
  exact indexAddrA_sl rfl rfl rfl rfl (by omega)
 refine WS.rangeX (A := Nat × List Int × List (Int × Int)) (n := n.kN + n.gates.xs.length) ⟨58, _, fun _ => [], fun a => [(lb, .row ty3.size ((a.2.1 ++ List.replicate (n.kN + n.gates.xs.length - a.2.1.length) 0).map intAV)), (mb, mkO m a.1 a.2.2), (m.tb, thO m []), (b2, .row ty27.size [ty27.zeroV]), (b1, .row ty27.size [netAV n])], fun a => [(a.1, !a.2.2.isEmpty)], fun i a => (a.2.1, a.2.2) = nodeM n keep i⟩ ((0, [], [])) [1, 2, 9, 10, 11, 12, 57] ((if_pos (show 0 < n.kN by omega)).symm) ?_ ?_
 ·rintro i ⟨tg, lits, G⟩ hi hA
  try dsimp only at hA
  have hl : lits.length = i := by
   have := nodeM_len (n := n) (keep := keep) (i := i) (by omega)
   rw [<- hA] at this; exact this
  have hrep : n.kN + n.gates.xs.length - lits.length = (n.kN + n.gates.xs.length - (lits.length + 1)) + 1 := by omega
  have hbr : ((lits ++ List.replicate (n.kN + n.gates.xs.length - lits.length) 0).map intAV)[i]? = some (.int .i64 0) := by
   rw [List.getElem?_map, List.getElem?_append_right (by omega), hl, Nat.sub_self, List.getElem?_replicate, if_pos (by omega)]; rfl
  have hset : ∀ x : Int, ((lits ++ List.replicate (n.kN + n.gates.xs.length - lits.length) 0).map intAV).set i (.int .i64 x) = ((lits ++ [x]) ++ List.replicate (n.kN + n.gates.xs.length - (lits ++ [x]).length) 0).map intAV := fun x => by
   have e : ((lits ++ List.replicate (n.kN + n.gates.xs.length - lits.length) 0).map intAV).set i (.int .i64 x) = ((lits ++ List.replicate (n.kN + n.gates.xs.length - lits.length) 0).set lits.length x).map intAV := by rw [List.map_set, hl]; rfl
   rw [e, hrep, set_zeros, List.length_append]; rfl
  by_cases hik : i < n.kN
  ·have hw : IntKind.i64.wrap (2 * (i : Int)) = 2 * (i : Int) := wrap64 (by omega) (by omega)
   dsimp only [RSt.at, List.cons_append, List.nil_append]
   repeat' (first | (refine OS.do rfl ?_; first | refine OD.auto rfl rfl ?_ | refine OD.indexAddr rfl rfl rfl (indexAddrA_nat rfl rfl rfl rfl (by first | assumption | exact List.getElem?_eq_getElem (by omega))) ?_ | refine OD.indexAddr rfl rfl rfl (indexAddrA_sl rfl rfl rfl rfl (by omega)) ?_ | refine OD.storeI 0 rfl rfl rfl rfl rfl hbr ?_) | refine OS.nil ?_ | refine WS.seq ?_ | refine QS.seqN ?_ | refine WS.region ?_ | refine WS.condD rfl (fun _ => ?_) (fun _ => ?_) | refine WS.skip ?_ | refine WS.block ?_ | refine QS.blockN ?_ | refine WS.condB rfl (fun _ => ?_) (fun _ => ?_))
   all_goals try (exfalso; omega)
   rw [hw, hset]
   exact QS.rangeX ((tg, lits ++ [2 * (i : Int)], G)) (by (try dsimp only) <;> exact (by rw [nodeM_in hik, <- hA])) (hL := by (try dsimp only); exact SubO.refl _)
  obtain ⟨j, rfl⟩ : ∃ j, i = n.kN + j := ⟨i - n.kN, by omega⟩
  have hj : j < n.gates.xs.length := by omega
  have hs := nodeM_ok (n := n) (keep := keep) (i := j) (by omega)
  rw [<- hA] at hs
  have hGl := hs.gates
  try dsimp only at hGl
  obtain ⟨⟨g1, g2⟩, g3, g4⟩ := hgo j hj
  have r1 := hs.range (n.gates.xs[j].1 / 2).toNat
  have r2 := hs.range (n.gates.xs[j].2 / 2).toNat
  try dsimp only at r1 r2
  have hwj : IntKind.i64.wrap (((n.kN + j : Nat) : Int) - (n.kN : Int)) = (j : Int) := by rw [wrap64 (by omega) (by omega)]; omega
  have hgx : n.gates.xs[((j : Nat) : Int).toNat]? = some n.gates.xs[j] := by rw [Int.toNat_natCast]; exact List.getElem?_eq_getElem hj
  have hkl : keep.length = n.kN + n.gates.xs.length := hcl
  have hkx : (GSl.some keep).xs[n.kN + j]? = some (keep.getD (n.kN + j) false) := by
   show keep[n.kN + j]? = _
   rw [List.getD_eq_getElem?_getD, List.getElem?_eq_getElem (by omega)]; rfl
  have hq : ∀ (x : AV) (l : Int), 0 <= l /\ l < 2 * ((n.kN + j : Nat) : Int) -> (((lits ++ List.replicate (n.kN + n.gates.xs.length - lits.length) 0).map intAV).set (n.kN + j) x)[(l / 2).toNat]? = some (intAV (lits.getD (l / 2).toNat 0)) := fun x l h => by
   rw [List.getElem?_set, if_neg (by omega), List.getElem?_map, List.getElem?_append_left (by omega), List.getD_eq_getElem?_getD, List.getElem?_eq_getElem (by omega)]; rfl
  have ex1 : IntKind.i64.wrap ((BitVec.ofInt IntKind.i64.bits (lits.getD (n.gates.xs[j].1 / 2).toNat 0) ^^^ BitVec.ofInt IntKind.i64.bits (IntKind.i64.wrap ((BitVec.ofInt IntKind.i64.bits n.gates.xs[j].1 &&& BitVec.ofInt IntKind.i64.bits 1).toNat : Int))).toNat : Int) = atL lits n.gates.xs[j].1 := by rw [and1 g1, xor_flip (by omega) (by omega)]; rfl
  have ex2 : IntKind.i64.wrap ((BitVec.ofInt IntKind.i64.bits (lits.getD (n.gates.xs[j].2 / 2).toNat 0) ^^^ BitVec.ofInt IntKind.i64.bits (IntKind.i64.wrap ((BitVec.ofInt IntKind.i64.bits n.gates.xs[j].2 &&& BitVec.ofInt IntKind.i64.bits 1).toNat : Int))).toNat : Int) = atL lits n.gates.xs[j].2 := by rw [and1 g3, xor_flip (by omega) (by omega)]; rfl
  have c94' := fun {L' : List (Nat × AObj)} {K' : List (Nat × Bool)} (km : Nat) (hm : L'[km]? = some (mb, mkO m tg G)) (st : St) (hS : SFa L' K' st) => c94 hmf (by omega) km hm st hS
  rw [hmk] at c94'
  have hgm : G.map gateAV ++ [gateAV (atL lits n.gates.xs[j].1, atL lits n.gates.xs[j].2)] = (G ++ [(atL lits n.gates.xs[j].1, atL lits n.gates.xs[j].2)]).map gateAV := by rw [List.map_append]; rfl
  dsimp only [RSt.at, List.cons_append, List.nil_append]
  repeat' (first | (refine OS.do rfl ?_; first | refine OD.indexAddr rfl rfl rfl (indexAddrA_int rfl rfl rfl rfl (by rw [hwj]; omega) (by rw [hwj]; exact hgx)) ?_ | refine OD.indexAddr rfl rfl rfl (half _ (by omega)) ?_ | refine OD.loadP 1 rfl rfl rfl (hq _ _ ⟨g1, g2⟩) rfl rfl ?_ | refine OD.loadP 1 rfl rfl rfl (hq _ _ ⟨g3, g4⟩) rfl rfl ?_ | refine OD.loadP 0 rfl rfl rfl rfl rfl rfl ?_ | refine OD.auto rfl rfl ?_ | refine OD.indexAddr rfl rfl rfl (indexAddrA_nat rfl rfl rfl rfl (by first | assumption | exact List.getElem?_eq_getElem (by omega))) ?_ | refine OD.loadP 2 rfl rfl rfl rfl rfl rfl ?_ | refine OD.alloc rfl rfl rfl rfl (fun _ => ?_) | refine OD.storeW 0 rfl rfl rfl rfl (by first | rfl | exact net_ok _) rfl rfl rfl ?_ | refine OD.indexAddr rfl rfl rfl rfl ?_ | refine OD.nilCheckP rfl rfl ?_ | (refine OD.callP (fun r => r = .int .i64 (2 * ((n.kN + G.length : Nat) : Int))) rfl rfl rfl (c94' 2 rfl) (by rintro v st rfl; rfl) ?_; rintro v rfl) | refine OD.indexAddr rfl rfl rfl (indexAddrA_sl rfl rfl rfl rfl (by omega)) ?_ | refine OD.storeI 1 rfl rfl rfl rfl rfl hbr ?_ | refine OD.loadP 4 rfl rfl rfl rfl rfl rfl ?_ | (rw [ex1, ex2]; refine OD.append 0 (xs := G.map gateAV) (ys := [gateAV (atL lits n.gates.xs[j].1, atL lits n.gates.xs[j].2)]) rfl rfl rfl rfl (by rw [List.isEmpty_map]; rfl) rfl rfl rfl rfl rfl rfl (.inr ⟨⟨_, rfl⟩, rfl⟩) (fun _ => rfl) rfl rfl (roomB rfl (by simp only [List.length_map, List.length_singleton]; omega)) (fun t' => ?_); rw [hgm]) | (refine OD.storeG 2 rfl rfl rfl rfl rfl acc_ok1 (by rw [acc_cells]; rfl) (by rw [acc_cells]; rfl) ?_; rw [st_gates])) | refine OS.nil ?_ | refine WS.seq ?_ | refine QS.seqN ?_ | refine WS.region ?_ | refine WS.condD rfl (fun _ => ?_) (fun _ => ?_) | refine WS.skip ?_ | refine WS.block ?_ | refine QS.blockN ?_ | refine WS.draw rfl rfl ?_ | refine WS.condB rfl (fun _ => ?_) (fun _ => ?_))
  ·exfalso; omega
  ·rename_i hb _
   have hst := nodeM_gate (n := n) (keep := keep) hj
   rw [<- hA] at hst
   unfold keepS at hst
   rw [if_pos (by rw [hl]; exact hb)] at hst
   dsimp only at hst
   rw [hset]
   exact QS.rangeX ((t', lits ++ [2 * ((n.kN + G.length : Nat) : Int)], G ++ [(atL lits n.gates.xs[j].1, atL lits n.gates.xs[j].2)])) (by (try dsimp only) <;> exact (hst.symm)) (hL := by (try dsimp only); exact SubO.drop (SubO.refl _))
  ·rename_i hb
   have hst := nodeM_gate (n := n) (keep := keep) hj
   rw [<- hA] at hst
   unfold keepS at hst
   rw [if_neg (by rw [hl, hb]; simp)] at hst
   dsimp only at hst
   rw [hrep, skip_zeros]
   have hrl : n.kN + n.gates.xs.length - (lits.length + 1) = n.kN + n.gates.xs.length - (lits ++ [0]).length := by simp
   rw [hrl]
   exact QS.rangeX ((tg, lits ++ [0], G)) (by (try dsimp only) <;> exact (hst.symm)) (hL := by (try dsimp only); exact SubO.refl _)
 ·rintro ⟨tg, lits, G⟩ hA
  try dsimp only at hA
  have hs := nodeM_ok (n := n) (keep := keep) (Nat.le_refl _)
  rw [<- hA] at hs
  rw [nodeM_all] at hA
  have hRl := hs.len
  have hGl := hs.gates
  try dsimp only at hRl hGl
  have hlay : netN m (n.regs.xs.map fun r => atL lits r.next) G (mapC n.outs (withLit lits)) = cleanN n := by
   have := net_lay (s := (lits, G)) hmi hmr
   rw [this]; unfold cleanN cleanS; rw [hkeep, <- hA]
  have hLO : LitsOk lits := ⟨fun j => by have := hs.range j; dsimp only at this; omega, by omega⟩
  have hV2 := lay_valid hV hs f4
  have hF2 := lay_fits hn ⟨f1, f2⟩ hs f4
  have hcs : layN n (lits, G) = cleanN n := by unfold cleanN cleanS; rw [hkeep, <- hA]
  rw [hcs] at hV2 hF2
  have hrow : (lits ++ List.replicate (n.kN + n.gates.xs.length - lits.length) 0) = lits := by rw [hRl, Nat.sub_self]; simp
  have c96 := fun {L' : List (Nat × AObj)} {K' : List (Nat × Bool)} (km kl : Nat) (hm : L'[km]? = some (mb, mkO m tg G)) (hkl : L'[kl]? = some (lb, .row 1 (lits.map intAV))) (st : St) (hS : SFa L' K' st) => run96 h96 h81 h117 h118 h112 h137 h138 h80 h57 km hm hmf (by omega) n (by rw [hmr, List.length_map]) f3 (x := .sl 1 lb 0 (n.kN + n.gates.xs.length)) rfl (lits := lits) (by rw [hRl]; exact hrn) (by rw [hRl]; exact hol)
   (fun X k5 b5 l K'' st hx hl hS => run125s h125 k5 (X.length + kl) (by rw [List.getElem?_append_left (List.getElem?_eq_some_iff.1 hx).1, hRl]; exact hx) (by rw [List.getElem?_append_right (by omega), Nat.add_sub_cancel_left]; exact hkl) hLO hl hS) (by rw [hlay]; exact hF2) (by rw [hlay]; exact hV2) hS.noK
  rw [hlay] at c96
  dsimp only [RSt.at, List.cons_append, List.nil_append]
  rw [hrow]
  repeat' (first | (refine OS.do rfl ?_; first | refine OD.storeW 3 rfl rfl rfl rfl hq.ok rfl rfl rfl ?_ | refine OD.auto rfl rfl ?_ | refine OD.loadP 4 rfl rfl rfl rfl rfl rfl ?_ | (refine OD.callM (D := Quad) (fun q => QOk q (cleanN n)) (fun q => .tup [qAV q, .int .i64 0]) (fun _ => _) (fun _ => []) rfl rfl rfl (c96 1 0 rfl rfl) (fun q st hq => freeze_free (by simp only [AV.free, AV.freeL, hq.free]; rfl)) ?_; rintro q hq)) | refine OS.nil ?_ | refine WS.seq ?_ | refine QS.seqN ?_ | refine WS.region ?_ | refine WS.ret ?_)
  refine QS.retO (ResO.cell 3 (by rfl) (by rfl) (by rfl) (by rfl) (by rfl) (.tmp (by rfl) .nil)) fun st hs => ⟨?_, ?_⟩
  ·show AV.free (.tup [qAV q, .int .i64 0]) = true
   simp only [AV.free, AV.freeL, hq.free]; rfl
  ·show AV.plain (.tup [qAV q, .int .i64 0]) = _
   rw [res_yes hV]
   simp only [AV.plain, AV.plainL, hq.plain]
theorem con51 (h1 : pr 51 = none) (h97 : Has pr 97 Rel97) (h93 : pr 93 = none) (h66 : pr 66 = none) (h94 : pr 94 = none) (h96 : pr 96 = none) (h125 : pr 125 = none) (h81 : pr 81 = none) (h117 : pr 117 = none) (h118 : pr 118 = none) (h112 : Has pr 112 Rel112) (h137 : pr 137 = none) (h138 : Has pr 138 Rel138) (h80 : pr 80 = none) (h57 : Has pr 57 Rel57) : Con2 (En pr) 51 Rel51 :=
 con_of (fun d => by simp [AV.freeL, net_free]) fun d hd st => run51 h1 h97 h93 h66 h94 h96 h125 h81 h117 h118 h112 h137 h138 h80 h57 d hd st
theorem use51 (h : Has pr 51 Rel51) {n : GNet} (hn : FitsN n) (st : St) : primOf Rel51 [netAV n] st = some (resAV n (cleanN n), st) := h.use ⟨n, hn, by simp [AV.plainL, net_plain], rfl⟩ st
end
end Go.OptEnv
namespace Go.Abs
section
variable {E : Env} {N : Nat} {l : List (Nat × AV)} {L X : List (Nat × AObj)} {K Y : List (Nat × Bool)} {pol : Nat -> Nat} {ops : Array Oper} {r : List Oper} {i : Nat} {d : Nat} {ty : TypeId} {pos : String} {after : Array Edge} {guard : Option (Nat × Bool)}
variable {k : List (Nat × AV) -> List (Nat × AObj) -> List (Nat × Bool) -> Prop}
theorem SegY.len {x : Operand} {t : TypeId} {a v : AV} (hw : wantS ops l { dst := some d, op := .call { callee := .builtin .len, args := #[x], argTypes := #[t] }, type := ty, pos := pos, after := after, guard := guard } = some true) (hn : Nat.blt d N = true) (hx : evL l x = some a) (h : ∀ st, lenTy E st t a = some v) (k1 : SegY E ops N L K pol r (i + 1) ((d, v) :: l) X Y k) :
  SegY E ops N L K pol ({ dst := some d, op := .call { callee := .builtin .len, args := #[x], argTypes := #[t] }, type := ty, pos := pos, after := after, guard := guard } :: r) i l X Y k :=
 .quiet hw rfl hn rfl (fun tm st hF => by
  show lenTy E st t (evalO tm x) = some v
  rw [hF.ev hx]; exact h st) k1
end
end Go.Abs
namespace Go.OptEnv
open Go Go.Proofs Go.Abs Go.RowKit Go.NetM
set_option maxRecDepth 10000
structure MkR where
 a : AV
 r : AV
 o : AV
def MkR.av (m : MkR) (tg : Nat) (G : List (Int × Int)) : AV := .agg [m.a, m.r, accA tg 2 (G.map gateAV), m.o]
def First (pr : Prims) (m : MkR) (k : Nat) (q : List (Nat × AObj)) : Prop :=
 ∀ (tg : Nat) (G : List (Int × Int)), okG k G -> G.length <= 20000 -> ∀ (L : List (Nat × AObj)) (K : List (Nat × Bool)) (st : St), SFa L K st -> (∀ p ∈ q, p ∈ L) -> primOf Rel73 [m.av tg G] st = some (.int .i64 (k : Int), st)
attribute [local irreducible] WS QS OS OD Abs.Sub SubO SubK CW GSl.av accA growA
section
variable {pr : Prims} {L : List (Nat × AObj)} {K : List (Nat × Bool)} {st : St}
end
end Go.OptEnv
namespace Go.Abs
theorem WS.objs {E : Env} {fid N : Nat} {c : Code} {l : List (Nat × AV)} {L L' : List (Nat × AObj)} {K : List (Nat × Bool)} {Q : AExit -> TM -> St -> Prop} (h2 : SubO L L') (h : WS E fid N c l L' K Q) : WS E fid N c l L K Q := fun tm st hF => h tm st (hF.sub (fun _ _ h => h) h2 (.refl _))
end Go.Abs
namespace Go.OptEnv
open Go Go.Proofs Go.Abs Go.RowKit Go.NetM
set_option maxRecDepth 10000
def ownA (n : GNet) (g : (Bool × Nat) × (Bool × Nat)) (rb ob : Nat) : AV := .agg [growA g.1.1 g.1.2 1 (n.ins.xs.map strAV), .sl 3 rb 0 n.regs.xs.length, growA g.2.1 g.2.2 2 (n.gates.xs.map gateAV), .sl 2 ob 0 n.outs.xs.length]
theorem grow_cell {b : Bool} {t sz : Nat} {xs : List AV} : (growA b t sz xs).cellOk = true := rfl
structure SameC (a b : GNet) : Prop where
 ins : a.ins.xs = b.ins.xs
 regs : a.regs.xs = b.regs.xs
 gates : a.gates.xs = b.gates.xs
 outs : a.outs.xs = b.outs.xs
theorem SameC.valid {a b : GNet} (h : SameC a b) : validM a = validM b := by
 obtain ⟨h1, h2, h3, h4⟩ := h
 unfold validM GNet.nodes GNet.first
 rw [h1, h2, h3, h4]
theorem SameC.fits {a b : GNet} (h : SameC a b) (hb : FitsN b) : FitsN a := by
 obtain ⟨h1, h2, h3, h4⟩ := h
 obtain ⟨f1, f2, f3, f4, m1, m2, m3, g1, g2, g3⟩ := hb
 exact ⟨by rw [h1]; exact f1, by rw [h2]; exact f2, by rw [h3]; exact f3, by rw [h4]; exact f4, by rw [h1]; exact m1, by rw [h2]; exact m2, by rw [h4]; exact m3, by rw [h3]; exact g1, by rw [h2]; exact g2, by rw [h4]; exact g3⟩
theorem SameC.k {a b : GNet} (h : SameC a b) : a.kN = b.kN := by unfold GNet.kN; rw [h.ins, h.regs]
theorem SameC.share {a b : GNet} (h : SameC a b) : shareS a = shareS b := by unfold shareS; rw [h.k, h.gates]
theorem SameC.lay {a b : GNet} (h : SameC a b) (s : List Int × List (Int × Int)) : SameC (layN a s) (layN b s) := by
 obtain ⟨a1, a2, a3, a4⟩ := lay_xs (n := a) (s := s)
 obtain ⟨b1, b2, b3, b4⟩ := lay_xs (n := b) (s := s)
 exact ⟨by rw [a1, b1, h.ins], by rw [a2, b2, h.regs], by rw [a3, b3], by rw [a4, b4, h.outs]⟩
attribute [local irreducible] WS QS OS OD Abs.Sub SubO SubK CW GSl.av accA growA
section
variable {pr : Prims} {L : List (Nat × AObj)} {K : List (Nat × Bool)} {st : St}
set_option maxHeartbeats 1000000 in
theorem run46n (h1 : pr 46 = none) (n : GNet) (f1 : n.ins.xs.length <= 1000000) (f2 : n.regs.xs.length <= 1000000) (f3 : n.gates.xs.length <= 1000000) (f4 : n.outs.xs.length <= 1000000) (hS : SFa L [] st) : CW (En pr) 46 [netAV n] st fun r st' => ∃ d : ((Bool × Nat) × (Bool × Nat)) × Nat × Nat, True /\ r = ownA n d.1 d.2.1 d.2.2 /\ SFa ((d.2.2, .row 2 (n.outs.xs.map pinAV)) :: (d.2.1, .row 3 (n.regs.xs.map regAV)) :: L) [] st' := by
 refine CW.startS (N := 20) h1 rfl rfl hS ?_
 repeat' (first | (refine OS.do rfl ?_; first | refine OD.box rfl rfl rfl rfl (net_ok _) rfl (fun b1 => ?_) | refine OD.alloc rfl rfl rfl rfl (fun _ => ?_)) | refine OS.nil ?_ | refine WS.seq ?_ | refine QS.seqN ?_ | refine WS.region ?_)
 refine WS.drawT 16 rfl rfl rfl rfl ?_; (repeat' (first | refine SegT.nil ?_ | refine SegT.auto rfl rfl rfl rfl ?_ | refine SegT.loadP 0 rfl rfl rfl rfl rfl rfl rfl ?_ | refine SegT.loadP 1 rfl rfl rfl rfl rfl rfl rfl ?_ | refine SegT.loadP 2 rfl rfl rfl rfl rfl rfl rfl ?_ | refine SegT.len rfl rfl rfl (fun _ => lenTy_av rfl rfl) ?_ | refine SegT.len rfl rfl rfl (fun _ => rfl) ?_ | refine SegT.indexAddr rfl rfl rfl rfl rfl ?_ | refine SegT.skip rfl rfl rfl ?_ | refine SegT.appendG rfl rfl rfl rfl rfl rfl rfl rfl rfl rfl rfl (.inr ⟨⟨_, rfl⟩, isStr_gsl⟩) (fun st => elemsA_gsl st) (okElems_map (f := strAV) (n := 1) rfl (fun _ => ⟨rfl, rfl⟩) _) szOf_ok (roomB rfl (by have := f1; simp only [List.length_nil, List.length_map]; omega)) (fun gb1 gt1 => ?_) | refine SegT.appendO rfl rfl rfl rfl rfl rfl rfl rfl rfl rfl rfl (.inr ⟨⟨_, rfl⟩, isStr_gsl⟩) (fun st => elemsA_gsl st) (okElems_map (f := regAV) (n := 3) rfl (fun _ => ⟨rfl, rfl⟩) _) szOf_ok (roomB rfl (by have := f2; simp only [List.length_nil, List.length_map]; omega)) (fun b => ?_) | refine SegT.appendG rfl rfl rfl rfl rfl rfl rfl rfl rfl rfl rfl (.inr ⟨⟨_, rfl⟩, isStr_gsl⟩) (fun st => elemsA_gsl st) (okElems_map (f := gateAV) (n := 2) rfl (fun _ => ⟨rfl, rfl⟩) _) szOf_ok (roomB rfl (by have := f3; simp only [List.length_nil, List.length_map]; omega)) (fun gb2 gt2 => ?_) | refine SegT.appendO rfl rfl rfl rfl rfl rfl rfl rfl rfl rfl rfl (.inr ⟨⟨_, rfl⟩, isStr_gsl⟩) (fun st => elemsA_gsl st) (okElems_map (f := pinAV) (n := 2) rfl (fun _ => ⟨rfl, rfl⟩) _) szOf_ok (roomB rfl (by have := f4; simp only [List.length_nil, List.length_map]; omega)) (fun ob => ?_)))
 dsimp only [RSt.at, List.cons_append, List.nil_append]
 repeat' (first | (refine OS.do rfl ?_; first | refine OD.build rfl rfl (bld4 grow_cell rfl grow_cell rfl) ?_ | refine OD.storeW 2 rfl rfl rfl rfl (ok4 grow_cell rfl grow_cell rfl) rfl rfl rfl ?_) | refine OS.nil ?_ | refine QS.seqN ?_ | refine WS.ret ?_)
 refine QS.retO (ResO.cell 2 (by rfl) (by rfl) (by rfl) (by rfl) (by rfl) .nil) fun st hs => ⟨(((gb1, gt1), (gb2, gt2)), b, ob), trivial, ?_, ?_⟩
 ·unfold ownA
  have e : (n.regs.xs.map regAV).length = n.regs.xs.length := List.length_map _
  have e2 : (n.outs.xs.map pinAV).length = n.outs.xs.length := List.length_map _
  dsimp only
  rw [<- e, <- e2]; rfl
 ·exact hs.subO (.keep (.keep (.drop (.drop (.refl _)))))
end
end Go.OptEnv
namespace Go.OptEnv
open Go Go.Proofs Go.Abs Go.RowKit Go.NetM
set_option maxRecDepth 10000
attribute [local irreducible] WS QS OS OD Abs.Sub SubO SubK CW GSl.av accA growA
section
variable {pr : Prims} {L : List (Nat × AObj)} {K : List (Nat × Bool)} {st : St}
end
end Go.OptEnv
namespace Go.OptEnv
open Go Go.Proofs Go.Abs Go.RowKit Go.NetM
set_option maxRecDepth 10000
theorem atL_front {l : List Int} {y x : Int} {n : Nat} (h : (x / 2).toNat < l.length) : atL ((l ++ [y]) ++ List.replicate n 0) x = atL l x := by
 rw [atL_zeros]
 unfold atL
 rw [getD_snocI, if_pos h]
attribute [local irreducible] WS QS OS OD Abs.Sub SubO SubK CW GSl.av accA growA
section
variable {pr : Prims} {L : List (Nat × AObj)} {K : List (Nat × Bool)} {st : St}
end
end Go.OptEnv
namespace Go.Abs
open Go.RowKit
section
variable {P : Program}
end
end Go.Abs
namespace Go.OptEnv
open Go Go.Proofs Go.Abs Go.RowKit Go.NetM
set_option maxRecDepth 10000
def foldN (n : GNet) : GNet := cleanN (shareN n)
theorem SameC.trans {a b c : GNet} (h : SameC a b) (k : SameC b c) : SameC a c := ⟨h.ins.trans k.ins, h.regs.trans k.regs, h.gates.trans k.gates, h.outs.trans k.outs⟩
theorem SameC.symm {a b : GNet} (h : SameC a b) : SameC b a := ⟨h.ins.symm, h.regs.symm, h.gates.symm, h.outs.symm⟩
theorem SameC.refl (a : GNet) : SameC a a := ⟨rfl, rfl, rfl, rfl⟩
theorem SameC.clean {a b : GNet} (h : SameC a b) : cleanS a = cleanS b := by
 unfold cleanS coneN GNet.roots GNet.nexts
 rw [h.k, h.gates, h.regs, h.outs]
theorem share_full (n : GNet) : ShOk n.kN (n.kN + n.gates.xs.length) n.gates.xs.length (shareS n) := by
 have := share_sh n (Nat.le_refl n.gates.xs.length)
 rw [List.take_length] at this
 exact this
theorem clean_full (n : GNet) : ShOk n.kN (n.kN + n.gates.xs.length) n.gates.xs.length (cleanS n) := by
 have := keep_ok (k := n.kN) (by unfold GNet.kN; omega) (keep := coneN n n.roots) n.gates.xs n.gates.xs.length (Nat.le_refl _)
 rw [List.take_length] at this
 exact this
theorem share_valid {n : GNet} (hv : validM n = true) : validM (shareN n) = true := lay_valid hv (share_full n) (valid_len hv).2.2.2
theorem share_fits {n : GNet} (hv : validM n = true) (hn : FitsN n) : FitsN (shareN n) := lay_fits hn ⟨(valid_len hv).1, (valid_len hv).2.1⟩ (share_full n) (valid_len hv).2.2.2
theorem clean_valid {n : GNet} (hv : validM n = true) : validM (cleanN n) = true := lay_valid hv (clean_full n) (valid_len hv).2.2.2
theorem clean_fits {n : GNet} (hv : validM n = true) (hn : FitsN n) : FitsN (cleanN n) := lay_fits hn ⟨(valid_len hv).1, (valid_len hv).2.1⟩ (clean_full n) (valid_len hv).2.2.2
theorem fold_valid {n : GNet} (hv : validM n = true) : validM (foldN n) = true := clean_valid (share_valid hv)
theorem fold_fits {n : GNet} (hv : validM n = true) (hn : FitsN n) : FitsN (foldN n) := clean_fits (share_valid hv) (share_fits hv hn)
def Rel17 : Rel := RelF FitsN (fun n => [netAV n]) fun n => resAV n (foldN n)
def Rel21 : Rel := RelF (fun p : GNet × GNet => SameC p.1 p.2 /\ FitsN p.1) (fun p => [netAV p.1, netAV p.2]) fun _ => .bool true
theorem neqS {E : Env} {t : TypeId} {xo yo : Operand} {x y : ByteArray} (h : x = y) : binA E .neq t xo yo (.str x) (.str y) = some (.bool false) := by
 subst h
 show strBin .neq x x = _
 simp [strBin]
section
variable {pr : Prims}
theorem neqR {xo yo : Operand} {x y : GReg} (h : x = y) : binA (En pr) .neq 68 xo yo (regAV x) (regAV y) = some (.bool false) := by
 subst h
 have e : binA (En pr) .neq 68 xo yo (regAV x) (regAV x) = (match some (decide (x.name = x.name)) with | some true => (match some ((x.init.toNat : Int) == x.init.toNat) with | some true => (match some (x.next == x.next) with | some true => some true | some false => some false | none => none) | some false => some false | none => none) | some false => some false | none => none).map fun b => .bool (!b) := rfl
 rw [e]; simp
theorem neqP {xo yo : Operand} {x y : GPin} (h : x = y) : binA (En pr) .neq 55 xo yo (pinAV x) (pinAV y) = some (.bool false) := by
 subst h
 have e : binA (En pr) .neq 55 xo yo (pinAV x) (pinAV x) = (match some (decide (x.name = x.name)) with | some true => (match some (x.lit == x.lit) with | some true => some true | some false => some false | none => none) | some false => some false | none => none).map fun b => .bool (!b) := rfl
 rw [e]; simp
theorem neqG {xo yo : Operand} {x y : Int × Int} (h : x = y) : binA (En pr) .neq 53 xo yo (gateAV x) (gateAV y) = some (.bool false) := by
 subst h
 have e : binA (En pr) .neq 53 xo yo (gateAV x) (gateAV x) = (eqA (En pr) 20 53 (gateAV x) (gateAV x)).map fun b => .bool (!b) := rfl
 rw [e, eq_pair]; simp
def entsI (l : List Int) : List (AV × AV) := l.map fun k => (.int .i64 k, .bool true)
theorem findI {k : Int} : ∀ (l : List Int) (i : Nat), (k ∉ l -> findA (eqA (En pr) 20 3) (.int .i64 k) (entsI l) i = some none) /\ (k ∈ l -> ∃ j, findA (eqA (En pr) 20 3) (.int .i64 k) (entsI l) i = some (some (j, .bool true)))
 | [], _ => ⟨fun _ => rfl, fun h => by cases h⟩
 | x :: l, i => by
  have e : eqA (En pr) 20 3 (.int .i64 k) (.int .i64 x) = some (k == x) := rfl
  obtain ⟨h1, h2⟩ := findI (k := k) l (i + 1)
  by_cases h : k = x
  ·have eb : (k == x) = true := by simp [h]
   refine ⟨fun hn => absurd (by simp [h]) hn, fun _ => ⟨i, ?_⟩⟩
   simp only [entsI, List.map_cons, findA, e, eb]
  ·have eb : (k == x) = false := by simpa using h
   refine ⟨fun hn => ?_, fun hm => ?_⟩
   ·simp only [entsI, List.map_cons, findA, e, eb]
    exact h1 (fun c => hn (List.mem_cons_of_mem _ c))
   ·obtain ⟨j, hj⟩ := h2 ((List.mem_cons.1 hm).resolve_left h)
    exact ⟨j, by simp only [entsI, List.map_cons, findA, e, eb]; exact hj⟩
theorem lookI {k : Int} {l : List Int} {b : Nat} {st : St} (hst : st.get b = some (.map 3 4 (entsI l))) : lookTy (En pr) st 70 false (.map b) (.int .i64 k) = some (.bool (decide (k ∈ l))) := by
 have e : lookTy (En pr) st 70 false (.map b) (.int .i64 k) = (match st.get b with
   | some (.map kt' et' es) =>
    if kt' = 3 /\ et' = 4 then
     match findA (eqA (En pr) 20 3) (.int .i64 k) es 0 with
     | some (some (_, v)) => some v
     | some none => some (.bool false)
     | none => none
    else none
   | _ => none) := rfl
 rw [e, hst]
 dsimp only
 rw [if_pos ⟨rfl, rfl⟩]
 obtain ⟨h1, h2⟩ := findI (pr := pr) (k := k) l 0
 by_cases h : k ∈ l
 ·obtain ⟨j, hj⟩ := h2 h
  rw [hj, decide_eq_true h]
 ·rw [h1 h, decide_eq_false h]
theorem putI {k : Int} {l : List Int} {b : Nat} {st : St} (hs : k ∉ l) (hst : st.get b = some (.map 3 4 (entsI l))) : mapPutA (En pr) st ty3 3 4 b (.int .i64 k) (.bool true) = some (st.put b (.map 3 4 (entsI (l ++ [k])))) := by
 unfold mapPutA
 rw [hst]
 dsimp only
 rw [if_pos ⟨rfl, rfl, rfl, rfl, rfl⟩, (findI (pr := pr) (k := k) l 0).1 hs]
 simp [entsI]
end
attribute [local irreducible] WS QS OS OD Abs.Sub SubO SubK CW GSl.av accA growA
section
variable {pr : Prims}
theorem run17 (h1 : pr 17 = none) (h50 : Has pr 50 Rel50) (h51 : Has pr 51 Rel51) (n : GNet) (hn : FitsN n) (st : St) : CW (En pr) 17 [netAV n] st fun r _ => AV.free r = true /\ AV.plain r = resAV n (foldN n) := by
 have u50 := use50 h50 hn
 rcases (Bool.eq_false_or_eq_true (validM n)).symm with hV | hV
 ·rw [res_no hV] at u50
  refine CW.start (N := 18) h1 rfl rfl ?_
  repeat' (first | (refine OS.do rfl ?_; first | refine OD.box rfl rfl rfl rfl (net_ok _) rfl (fun b1 => ?_) | refine OD.auto rfl rfl ?_ | refine OD.loadP 1 rfl rfl rfl rfl rfl rfl ?_ | refine OD.alloc rfl rfl rfl rfl (fun _ => ?_) | refine OD.storeW 0 rfl rfl rfl rfl (by first | rfl | exact net_ok _) rfl rfl rfl ?_ | refine OD.storeW 1 rfl rfl rfl rfl (by first | rfl | exact net_ok _) rfl rfl rfl ?_ | refine OD.call rfl rfl rfl h50.eq u50 (fun _ => rfl) ?_) | refine OS.nil ?_ | refine WS.seq ?_ | refine QS.seqN ?_ | refine WS.region ?_ | refine WS.condT rfl ?_ | refine WS.ret ?_ | refine QS.seqR ?_)
  refine QS.retO (ResO.cell 0 (by rfl) (by rfl) (by rfl) (by rfl) (by rfl) (.tmp (by rfl) .nil)) fun st hs => ⟨rfl, ?_⟩
  rw [res_no hV]; rfl
 ·rw [res_yes hV] at u50
  have hv2 := share_valid hV
  have u51 := use51 h51 (share_fits hV hn)
  rw [res_yes hv2] at u51
  have z : ∀ (m : GNet) (st : St), freezeA st (.tup [netAV m, .int .i64 0]) = some (.tup [netAV m, .int .i64 0], st) := fun m st => freeze_free (by simp [AV.free, AV.freeL, net_free])
  refine CW.start (N := 18) h1 rfl rfl ?_
  repeat' (first | (refine OS.do rfl ?_; first | refine OD.box rfl rfl rfl rfl (net_ok _) rfl (fun b1 => ?_) | refine OD.auto rfl rfl ?_ | refine OD.loadP 1 rfl rfl rfl rfl rfl rfl ?_ | refine OD.alloc rfl rfl rfl rfl (fun _ => ?_) | refine OD.storeW 0 rfl rfl rfl rfl (by first | rfl | exact net_ok _) rfl rfl rfl ?_ | refine OD.storeW 1 rfl rfl rfl rfl (by first | rfl | exact net_ok _) rfl rfl rfl ?_ | refine OD.call rfl rfl rfl h50.eq u50 (z _) ?_ | refine OD.call rfl rfl rfl h51.eq u51 (z _) ?_) | refine OS.nil ?_ | refine WS.seq ?_ | refine QS.seqN ?_ | refine WS.region ?_ | refine WS.condF rfl ?_ | refine WS.skip ?_ | refine WS.ret ?_)
  refine QS.retO (ResO.cell 0 (by rfl) (by rfl) (by rfl) (by rfl) (by rfl) (.tmp (by rfl) .nil)) fun st hs => ?_
  rw [res_yes hV]
  exact ⟨by show AV.free (.tup [netAV (cleanN (shareN n)), .int .i64 0]) = true; simp [AV.free, AV.freeL, net_free], by show AV.plain (.tup [netAV (cleanN (shareN n)), .int .i64 0]) = _; simp only [AV.plain, AV.plainL, net_plain]; rfl⟩
theorem con17 (h1 : pr 17 = none) (h50 : Has pr 50 Rel50) (h51 : Has pr 51 Rel51) : Con2 (En pr) 17 Rel17 := con_of (fun d => by simp [AV.freeL, net_free]) fun d hd st => run17 h1 h50 h51 d hd st
theorem use17 (h : Has pr 17 Rel17) {n : GNet} (hn : FitsN n) (st : St) : primOf Rel17 [netAV n] st = some (resAV n (foldN n), st) := h.use ⟨n, hn, by simp [AV.plainL, net_plain], rfl⟩ st
set_option maxHeartbeats 1000000 in
theorem run21 (h1 : pr 21 = none) (a b : GNet) (hs : SameC a b) (hn : FitsN a) (st : St) : CW (En pr) 21 [netAV a, netAV b] st fun r _ => r = .bool true := by
 obtain ⟨e1, e2, e3, e4⟩ := hs
 obtain ⟨f1, f2, f3, f4, _, _, _, _, _, _⟩ := hn
 have l1 : b.ins.xs.length = a.ins.xs.length := by rw [e1]
 have l2 : b.regs.xs.length = a.regs.xs.length := by rw [e2]
 have l3 : b.gates.xs.length = a.gates.xs.length := by rw [e3]
 have l4 : b.outs.xs.length = a.outs.xs.length := by rw [e4]
 refine CW.start (N := 115) h1 rfl rfl ?_
 repeat' (first | (refine OS.do rfl ?_; first | refine OD.box rfl rfl rfl rfl (net_ok _) rfl (fun b1 => ?_) | refine OD.loadP 0 rfl rfl rfl rfl rfl rfl ?_ | refine OD.auto rfl rfl ?_ | refine OD.loadP 1 rfl rfl rfl rfl rfl rfl ?_ | refine OD.len rfl rfl (fun _ => lenTy_av rfl rfl) ?_) | refine OS.nil ?_ | refine OS.skip rfl rfl rfl ?_ | refine WS.seq ?_ | refine QS.seqN ?_ | refine WS.region ?_ | refine WS.condT rfl ?_ | refine WS.skip ?_ | refine WS.block ?_ | refine WS.ret ?_ | refine QS.seqR ?_ | refine WS.condNe rfl (fun _ => ?_) (fun _ => ?_) | ((fail_if_success (refine OS.do rfl ?_)); first | refine OS.splitNe rfl rfl rfl (fun _ => ?_) (fun _ => ?_)))
 all_goals try (exfalso; omega)
 rename_i b1' _ _ _ _
 refine WS.rangeX (A := Unit) (n := a.ins.xs.length) ⟨46, _, fun _ => [], fun _ => [(b1, .row ty27.size [netAV b]), (b1', .row ty27.size [netAV a])], fun _ => [], fun _ _ => True⟩ (()) [2, 3, 45] (trivial) ?_ ?_
 ·rintro i _ hi _
  have hib : i < b.ins.xs.length := by omega
  have hxy : a.ins.xs[i] = b.ins.xs[i] := List.getElem_of_eq e1 hi
  dsimp only [RSt.at, List.cons_append, List.nil_append]
  repeat' (first | (refine OS.do rfl ?_; first | refine OD.bin rfl rfl rfl (neqS hxy) ?_ | refine OD.loadP 0 rfl rfl rfl rfl rfl rfl ?_ | refine OD.auto rfl rfl ?_ | refine OD.loadP 1 rfl rfl rfl rfl rfl rfl ?_ | refine OD.indexAddr rfl rfl rfl (indexAddrA_nat rfl rfl rfl rfl (by first | assumption | exact List.getElem?_eq_getElem (by omega))) ?_) | refine OS.nil ?_ | refine WS.seq ?_ | refine QS.seqN ?_ | refine WS.region ?_ | refine WS.condF rfl ?_ | refine WS.skip ?_ | refine WS.draw rfl rfl ?_)
  exact QS.rangeX (()) (by (try dsimp only) <;> exact (trivial)) (hL := by (try dsimp only); exact SubO.refl _)
 rintro _ _
 dsimp only [RSt.at, List.cons_append, List.nil_append]
 repeat' (first | (refine OS.do rfl ?_; first | refine OD.auto rfl rfl ?_ | refine OD.loadP 1 rfl rfl rfl rfl rfl rfl ?_ | refine OD.len rfl rfl (fun _ => lenTy_av rfl rfl) ?_) | refine OS.nil ?_ | refine WS.seq ?_ | refine QS.seqN ?_ | refine WS.region ?_ | refine WS.block ?_)
 refine WS.rangeX (A := Unit) (n := a.regs.xs.length) ⟨64, _, fun _ => [], fun _ => [(b1, .row ty27.size [netAV b]), (b1', .row ty27.size [netAV a])], fun _ => [], fun _ _ => True⟩ (()) [2, 3, 63] (trivial) ?_ ?_
 ·rintro i _ hi _
  have hib : i < b.regs.xs.length := by omega
  have hxy : a.regs.xs[i] = b.regs.xs[i] := List.getElem_of_eq e2 hi
  dsimp only [RSt.at, List.cons_append, List.nil_append]
  repeat' (first | (refine OS.do rfl ?_; first | refine OD.bin rfl rfl rfl (neqR hxy) ?_ | refine OD.loadP 0 rfl rfl rfl rfl rfl rfl ?_ | refine OD.auto rfl rfl ?_ | refine OD.loadP 1 rfl rfl rfl rfl rfl rfl ?_ | refine OD.indexAddr rfl rfl rfl (indexAddrA_nat rfl rfl rfl rfl (by first | assumption | exact List.getElem?_eq_getElem (by omega))) ?_) | refine OS.nil ?_ | refine WS.seq ?_ | refine QS.seqN ?_ | refine WS.region ?_ | refine WS.condF rfl ?_ | refine WS.skip ?_ | refine WS.draw rfl rfl ?_)
  exact QS.rangeX (()) (by (try dsimp only) <;> exact (trivial)) (hL := by (try dsimp only); exact SubO.refl _)
 rintro _ _
 dsimp only [RSt.at, List.cons_append, List.nil_append]
 repeat' (first | (refine OS.do rfl ?_; first | refine OD.auto rfl rfl ?_ | refine OD.loadP 1 rfl rfl rfl rfl rfl rfl ?_ | refine OD.len rfl rfl (fun _ => lenTy_av rfl rfl) ?_) | refine OS.nil ?_ | refine WS.seq ?_ | refine QS.seqN ?_ | refine WS.region ?_ | refine WS.block ?_)
 refine WS.rangeX (A := Unit) (n := a.gates.xs.length) ⟨82, _, fun _ => [], fun _ => [(b1, .row ty27.size [netAV b]), (b1', .row ty27.size [netAV a])], fun _ => [], fun _ _ => True⟩ (()) [2, 3, 81] (trivial) ?_ ?_
 ·rintro i _ hi _
  have hib : i < b.gates.xs.length := by omega
  have hxy : a.gates.xs[i] = b.gates.xs[i] := List.getElem_of_eq e3 hi
  dsimp only [RSt.at, List.cons_append, List.nil_append]
  repeat' (first | (refine OS.do rfl ?_; first | refine OD.bin rfl rfl rfl (neqG hxy) ?_ | refine OD.loadP 0 rfl rfl rfl rfl rfl rfl ?_ | refine OD.auto rfl rfl ?_ | refine OD.loadP 1 rfl rfl rfl rfl rfl rfl ?_ | refine OD.indexAddr rfl rfl rfl (indexAddrA_nat rfl rfl rfl rfl (by first | assumption | exact List.getElem?_eq_getElem (by omega))) ?_) | refine OS.nil ?_ | refine WS.seq ?_ | refine QS.seqN ?_ | refine WS.region ?_ | refine WS.condF rfl ?_ | refine WS.skip ?_ | refine WS.draw rfl rfl ?_)
  exact QS.rangeX (()) (by (try dsimp only) <;> exact (trivial)) (hL := by (try dsimp only); exact SubO.refl _)
 rintro _ _
 dsimp only [RSt.at, List.cons_append, List.nil_append]
 repeat' (first | (refine OS.do rfl ?_; first | refine OD.auto rfl rfl ?_ | refine OD.loadP 1 rfl rfl rfl rfl rfl rfl ?_ | refine OD.len rfl rfl (fun _ => lenTy_av rfl rfl) ?_) | refine OS.nil ?_ | refine WS.seq ?_ | refine QS.seqN ?_ | refine WS.region ?_ | refine WS.block ?_)
 refine WS.rangeX (A := Unit) (n := a.outs.xs.length) ⟨100, _, fun _ => [], fun _ => [(b1, .row ty27.size [netAV b]), (b1', .row ty27.size [netAV a])], fun _ => [], fun _ _ => True⟩ (()) [2, 3, 99] (trivial) ?_ ?_
 ·rintro i _ hi _
  have hib : i < b.outs.xs.length := by omega
  have hxy : a.outs.xs[i] = b.outs.xs[i] := List.getElem_of_eq e4 hi
  dsimp only [RSt.at, List.cons_append, List.nil_append]
  repeat' (first | (refine OS.do rfl ?_; first | refine OD.bin rfl rfl rfl (neqP hxy) ?_ | refine OD.loadP 0 rfl rfl rfl rfl rfl rfl ?_ | refine OD.auto rfl rfl ?_ | refine OD.loadP 1 rfl rfl rfl rfl rfl rfl ?_ | refine OD.indexAddr rfl rfl rfl (indexAddrA_nat rfl rfl rfl rfl (by first | assumption | exact List.getElem?_eq_getElem (by omega))) ?_) | refine OS.nil ?_ | refine WS.seq ?_ | refine QS.seqN ?_ | refine WS.region ?_ | refine WS.condF rfl ?_ | refine WS.skip ?_ | refine WS.draw rfl rfl ?_)
  exact QS.rangeX (()) (by (try dsimp only) <;> exact (trivial)) (hL := by (try dsimp only); exact SubO.refl _)
 rintro _ _
 dsimp only [RSt.at, List.cons_append, List.nil_append]
 repeat' (first | (refine OS.do rfl ?_; first | refine OD.auto rfl rfl ?_) | refine OS.nil ?_ | refine WS.seq ?_ | refine QS.seqN ?_ | refine WS.region ?_ | refine WS.ret ?_)
 exact QS.retRS (by rfl) fun _ _ => rfl
theorem con21 (h1 : pr 21 = none) : Con2 (En pr) 21 Rel21 := con_eq (fun d => by simp [AV.freeL, net_free]) (fun _ => ⟨rfl, rfl⟩) fun d hd st => run21 h1 d.1 d.2 hd.1 hd.2 st
theorem use21 (h : Has pr 21 Rel21) {a b : GNet} (hs : SameC a b) (hn : FitsN a) (st : St) : primOf Rel21 [netAV a, netAV b] st = some (.bool true, st) := h.use ⟨(a, b), ⟨hs, hn⟩, by simp [AV.plainL, net_plain], rfl⟩ st
end
end Go.OptEnv
namespace Go.NetM
inductive Nd (k0 k : Nat) (gs : List (Int × Int)) (nexts outs : List Int) : Nat -> Prop
 | out {l : Int} (h : l ∈ outs) : Nd k0 k gs nexts outs (l / 2).toNat
 | g1 {i : Nat} (h : i < gs.length) (p : Nd k0 k gs nexts outs (k + i)) : Nd k0 k gs nexts outs (gs[i].1 / 2).toNat
 | g2 {i : Nat} (h : i < gs.length) (p : Nd k0 k gs nexts outs (k + i)) : Nd k0 k gs nexts outs (gs[i].2 / 2).toNat
 | reg {i : Nat} (h : i < nexts.length) (p : Nd k0 k gs nexts outs (k0 + i)) : Nd k0 k gs nexts outs (nexts[i] / 2).toNat
open Classical in
noncomputable def needL (k0 k : Nat) (gs : List (Int × Int)) (nexts outs : List Int) : List Bool := (List.range (k + gs.length)).map fun j => decide (Nd k0 k gs nexts outs j)
theorem needL_get {k0 k : Nat} {gs : List (Int × Int)} {nexts outs : List Int} {j : Nat} (h : j < k + gs.length) : (needL k0 k gs nexts outs).getD j false = true ↔ Nd k0 k gs nexts outs j := by
 unfold needL
 rw [List.getD_eq_getElem?_getD, List.getElem?_eq_getElem (by simpa using h)]
 simp
theorem Nd.least {k0 k : Nat} {gs : List (Int × Int)} {nexts outs : List Int} {S : Nat -> Prop} (h1 : ∀ l ∈ outs, S (l / 2).toNat) (h2 : ∀ (i : Nat) (h : i < gs.length), S (k + i) -> S (gs[i].1 / 2).toNat /\ S (gs[i].2 / 2).toNat) (h3 : ∀ (i : Nat) (h : i < nexts.length), S (k0 + i) -> S (nexts[i] / 2).toNat) {j : Nat} (hj : Nd k0 k gs nexts outs j) : S j := by
 induction hj with
 | out h => exact h1 _ h
 | g1 h _ ih => exact (h2 _ h ih).1
 | g2 h _ ih => exact (h2 _ h ih).2
 | reg h _ ih => exact h3 _ h ih
theorem set_getB {v : List Bool} {i j : Nat} : (v.set i true).getD j false = true ↔ (v.getD j false = true \/ (i = j /\ j < v.length)) := by
 simp only [List.getD_eq_getElem?_getD, List.getElem?_set]
 by_cases h : i = j
 ·subst h
  rw [if_pos rfl]
  by_cases hl : i < v.length
  ·rw [if_pos hl]; simp [hl]
  ·rw [if_neg hl, List.getElem?_eq_none (by omega)]; simp [hl]
 ·rw [if_neg h]; simp [h]
def selR (k0 : Nat) (keep : List Bool) (s : List Int × Nat) : List Int × Nat :=
 if keep.getD s.1.length false = true then (s.1 ++ [2 * ((k0 + s.2 : Nat) : Int)], s.2 + 1) else (s.1 ++ [0], s.2)
def selRM (k0 : Nat) (keep : List Bool) : Nat -> List Int × Nat
 | 0 => (idL k0, 0)
 | i + 1 => selR k0 keep (selRM k0 keep i)
theorem selRM_len {k0 : Nat} {keep : List Bool} : ∀ i, (selRM k0 keep i).1.length = k0 + i
 | 0 => idL_len k0
 | i + 1 => by
  have := selRM_len (k0 := k0) (keep := keep) i
  show (selR k0 keep (selRM k0 keep i)).1.length = _
  unfold selR
  split <;> simp [this] <;> omega
theorem selRM_cnt {k0 : Nat} {keep : List Bool} : ∀ i, (selRM k0 keep i).2 <= i
 | 0 => Nat.le_refl _
 | i + 1 => by
  have := selRM_cnt (k0 := k0) (keep := keep) i
  show (selR k0 keep (selRM k0 keep i)).2 <= _
  unfold selR
  split
  ·show _ + 1 <= _; omega
  ·omega
def selM (k0 nregs : Nat) (keep : List Bool) (gs : List (Int × Int)) : List Int × List (Int × Int) :=
 gs.foldl (keepS (k0 + (selRM k0 keep nregs).2) keep) ((selRM k0 keep nregs).1, [])
theorem selM_succ {k0 nregs : Nat} {keep : List Bool} {gs : List (Int × Int)} {i : Nat} (h : i < gs.length) : selM k0 nregs keep (gs.take (i + 1)) = keepS (k0 + (selRM k0 keep nregs).2) keep (selM k0 nregs keep (gs.take i)) gs[i] := by
 unfold selM
 rw [List.take_succ_eq_append_getElem h, List.foldl_append]; rfl
def pickL {α : Type} (k0 : Nat) (keep : List Bool) (l : List α) (i : Nat) : List α := ((l.take i).zipIdx).filterMap fun p => if keep.getD (k0 + p.2) false = true then some p.1 else none
theorem pickL_succ {α : Type} {k0 : Nat} {keep : List Bool} {l : List α} {i : Nat} (h : i < l.length) : pickL k0 keep l (i + 1) = if keep.getD (k0 + i) false = true then pickL k0 keep l i ++ [l[i]] else pickL k0 keep l i := by
 unfold pickL
 rw [List.take_succ_eq_append_getElem h, List.zipIdx_append, List.filterMap_append]
 have : (l.take i).length = i := by rw [List.length_take]; omega
 simp only [this, Nat.zero_add, List.zipIdx_singleton, List.filterMap_cons, List.filterMap_nil]
 by_cases hk : keep.getD (k0 + i) false = true
 ·rw [if_pos hk, if_pos hk]
 ·rw [if_neg hk, if_neg hk, List.append_nil]
theorem pickL_len {α : Type} {k0 : Nat} {keep : List Bool} {l : List α} : ∀ i, i <= l.length -> (pickL k0 keep l i).length = (selRM k0 keep i).2
 | 0, _ => by simp [pickL, selRM]
 | i + 1, h => by
  have ih := pickL_len (k0 := k0) (keep := keep) (l := l) i (by omega)
  rw [pickL_succ (by omega)]
  show _ = (selR k0 keep (selRM k0 keep i)).2
  unfold selR
  rw [selRM_len]
  split
  ·simp [ih]
  ·exact ih
end Go.NetM
namespace Go.NetM
structure Open (k0 k : Nat) (gs : List (Int × Int)) (nexts outs : List Int) (met : List Int) (op : List Int) : Prop where
 sound : ∀ m ∈ met, 0 <= m /\ Nd k0 k gs nexts outs m.toNat
 openS : ∀ l ∈ op, Nd k0 k gs nexts outs (l / 2).toNat
 openR : ∀ l ∈ op, 0 <= l /\ l < 2 * ((k + gs.length : Nat) : Int)
 outs : ∀ l ∈ outs, l / 2 ∈ met \/ ∃ x ∈ op, x / 2 = l / 2
 g : ∀ (i : Nat) (h : i < gs.length), ((k + i : Nat) : Int) ∈ met -> (gs[i].1 / 2 ∈ met \/ ∃ x ∈ op, x / 2 = gs[i].1 / 2) /\ (gs[i].2 / 2 ∈ met \/ ∃ x ∈ op, x / 2 = gs[i].2 / 2)
 r : ∀ (i : Nat) (h : i < nexts.length), ((k0 + i : Nat) : Int) ∈ met -> (nexts[i] / 2 ∈ met \/ ∃ x ∈ op, x / 2 = nexts[i] / 2)
 nodup : met.Nodup
 range : ∀ m ∈ met, 0 <= m /\ m < ((k + gs.length : Nat) : Int)
theorem Open.skip {k0 k : Nat} {gs : List (Int × Int)} {nexts outs met op : List Int} {l : Int} (h : Open k0 k gs nexts outs met (op ++ [l])) (hm : l / 2 ∈ met) : Open k0 k gs nexts outs met op := by
 have key : ∀ x : Int, (x ∈ met \/ ∃ y ∈ op ++ [l], y / 2 = x) -> (x ∈ met \/ ∃ y ∈ op, y / 2 = x) := fun x hx => by
  rcases hx with hx | ⟨y, hy, e⟩
  ·exact .inl hx
  ·rcases List.mem_append.1 hy with hy | hy
   ·exact .inr ⟨y, hy, e⟩
   ·rw [List.mem_singleton.1 hy] at e; exact .inl (by rw [<- e]; exact hm)
 exact ⟨h.sound, fun x hx => h.openS x (List.mem_append_left _ hx), fun x hx => h.openR x (List.mem_append_left _ hx), fun x hx => key _ (h.outs x hx), fun i hi c => ⟨key _ (h.g i hi c).1, key _ (h.g i hi c).2⟩, fun i hi c => key _ (h.r i hi c), h.nodup, h.range⟩
theorem Open.meet {k0 k : Nat} {gs : List (Int × Int)} {nexts outs met op kids : List Int} {l : Int} (h : Open k0 k gs nexts outs met (op ++ [l])) (hm : l / 2 ∉ met)
  (hk : ∀ x ∈ kids, Nd k0 k gs nexts outs (x / 2).toNat /\ 0 <= x /\ x < 2 * ((k + gs.length : Nat) : Int))
  (hg : ∀ (i : Nat) (h : i < gs.length), ((k + i : Nat) : Int) = l / 2 -> gs[i].1 ∈ kids /\ gs[i].2 ∈ kids)
  (hr : ∀ (i : Nat) (h : i < nexts.length), ((k0 + i : Nat) : Int) = l / 2 -> nexts[i] ∈ kids) : Open k0 k gs nexts outs (met ++ [l / 2]) (op ++ kids) := by
 have key : ∀ x : Int, (x ∈ met \/ ∃ y ∈ op ++ [l], y / 2 = x) -> (x ∈ met ++ [l / 2] \/ ∃ y ∈ op ++ kids, y / 2 = x) := fun x hx => by
  rcases hx with hx | ⟨y, hy, e⟩
  ·exact .inl (List.mem_append_left _ hx)
  ·rcases List.mem_append.1 hy with hy | hy
   ·exact .inr ⟨y, List.mem_append_left _ hy, e⟩
   ·rw [List.mem_singleton.1 hy] at e; exact .inl (by rw [<- e]; simp)
 have hl := h.openR l (by simp)
 have hlS := h.openS l (by simp)
 refine ⟨fun m hmm => ?_, fun x hx => ?_, fun x hx => ?_, fun x hx => key _ (h.outs x hx), fun i hi c => ?_, fun i hi c => ?_, ?_, fun m hmm => ?_⟩
 ·rcases List.mem_append.1 hmm with hmm | hmm
  ·exact h.sound m hmm
  ·rw [List.mem_singleton.1 hmm]; exact ⟨by omega, hlS⟩
 ·rcases List.mem_append.1 hx with hx | hx
  ·exact h.openS x (List.mem_append_left _ hx)
  ·exact (hk x hx).1
 ·rcases List.mem_append.1 hx with hx | hx
  ·exact h.openR x (List.mem_append_left _ hx)
  ·exact (hk x hx).2
 ·rcases List.mem_append.1 c with c | c
  ·exact ⟨key _ (h.g i hi c).1, key _ (h.g i hi c).2⟩
  ·obtain ⟨q1, q2⟩ := hg i hi (List.mem_singleton.1 c)
   exact ⟨.inr ⟨_, List.mem_append_right _ q1, rfl⟩, .inr ⟨_, List.mem_append_right _ q2, rfl⟩⟩
 ·rcases List.mem_append.1 c with c | c
  ·exact key _ (h.r i hi c)
  ·exact .inr ⟨_, List.mem_append_right _ (hr i hi (List.mem_singleton.1 c)), rfl⟩
 ·rw [List.nodup_append]
  refine ⟨h.nodup, by simp, fun a ha b hb => ?_⟩
  rw [List.mem_singleton.1 hb]
  rintro rfl
  exact hm ha
 ·rcases List.mem_append.1 hmm with hmm | hmm
  ·exact h.range m hmm
  ·rw [List.mem_singleton.1 hmm]; omega
theorem Open.done {k0 k : Nat} {gs : List (Int × Int)} {nexts outs met : List Int} (h : Open k0 k gs nexts outs met []) (ho : ∀ l ∈ outs, 0 <= l) (hg : ∀ g ∈ gs, 0 <= g.1 /\ 0 <= g.2) (hr : ∀ l ∈ nexts, 0 <= l) (j : Nat) : ((j : Nat) : Int) ∈ met ↔ Nd k0 k gs nexts outs j := by
 constructor
 ·intro hj
  have := (h.sound _ hj).2
  simpa using this
 ·intro hj
  have key : ∀ x : Int, (x ∈ met \/ ∃ y ∈ ([] : List Int), y / 2 = x) -> x ∈ met := fun x hx => by
   rcases hx with hx | ⟨y, hy, _⟩
   ·exact hx
   ·cases hy
  refine Nd.least (S := fun j => ((j : Nat) : Int) ∈ met) (fun l hl => ?_) (fun i hi c => ?_) (fun i hi c => ?_) hj
  ·have := ho l hl
   rw [show (((l / 2).toNat : Nat) : Int) = l / 2 by omega]
   exact key _ (h.outs l hl)
  ·obtain ⟨q1, q2⟩ := hg _ (List.getElem_mem hi)
   obtain ⟨a, b⟩ := h.g i hi c
   refine ⟨?_, ?_⟩
   ·rw [show (((gs[i].1 / 2).toNat : Nat) : Int) = gs[i].1 / 2 by omega]; exact key _ a
   ·rw [show (((gs[i].2 / 2).toNat : Nat) : Int) = gs[i].2 / 2 by omega]; exact key _ b
  ·have := hr _ (List.getElem_mem hi)
   rw [show (((nexts[i] / 2).toNat : Nat) : Int) = nexts[i] / 2 by omega]
   exact key _ (h.r i hi c)
theorem met_len : ∀ {T : Nat} {met : List Int}, met.Nodup -> (∀ m ∈ met, 0 <= m /\ m < (T : Int)) -> met.length <= T
 | 0, [], _, _ => Nat.le_refl _
 | 0, m :: _, _, h => by have := h m (by simp); omega
 | T + 1, met, hd, h => by
  have ih := met_len (T := T) (met := met.filter fun m => decide (m ≠ (T : Int))) (hd.filter _) (fun m hm => by
   obtain ⟨h1, h2⟩ := List.mem_filter.1 hm
   have h2 := of_decide_eq_true h2
   have := h m h1
   omega)
  have : met.length <= (met.filter fun m => decide (m ≠ (T : Int))).length + 1 := by
   have h1 : (met.filter fun m => decide (m ≠ (T : Int))) = met.erase (T : Int) := by
    rw [hd.erase_eq_filter]
    apply List.filter_congr
    intro m _
    by_cases hm : m = (T : Int) <;> simp [hm]
   rw [h1]
   by_cases hm : (T : Int) ∈ met
   ·have := List.length_erase_of_mem hm; omega
   ·rw [List.erase_of_not_mem hm]; omega
  omega
end Go.NetM
namespace Go.Abs
open Go.RowKit
theorem SubO.swap {L : List (Nat × AObj)} {p q : Nat × AObj} : SubO (p :: q :: L) (q :: p :: L) := by
 refine ⟨fun k => match k with | 0 => 1 | 1 => 0 | k => k, fun k x hk => ?_, fun k k' h1 h2 h => ?_⟩
 ·match k with
  | 0 => exact hk
  | 1 => exact hk
  | k + 2 => exact hk
 ·match k, k' with
  | 0, 0 => rfl
  | 0, 1 => simp at h
  | 0, k + 2 => simp at h
  | 1, 0 => simp at h
  | 1, 1 => rfl
  | 1, k + 2 => simp at h
  | k + 2, 0 => simp at h
  | k + 2, 1 => simp at h
  | k + 2, k' + 2 => simpa using h
section
variable {E : Env} {fid N : Nat} {l : List (Nat × AV)} {L X : List (Nat × AObj)} {K Y : List (Nat × Bool)} {Q : AExit -> TM -> St -> Prop}
variable {pol : Nat -> Nat} {ops : Array Oper} {o : Oper} {r : List Oper} {i : Nat} {d : Nat} {ty : TypeId} {pos : String} {after : Array Edge} {guard : Option (Nat × Bool)}
variable {k : List (Nat × AV) -> List (Nat × AObj) -> List (Nat × Bool) -> Prop}
theorem SegY.storeB (kk : Nat) {t : TypeId} {x z : Operand} {y : Ty} {b sz j : Nat} {xs : List AV} {m v : Bool} (hw : wantS ops l { dst := none, op := .store t x z, type := ty, pos := pos, after := after, guard := guard } = some true) (hx : evL l x = some (.ptr b j 0)) (hz : evL l z = some (.bool v)) (ht : E.ty t = some y) (h1 : y.size = 1) (hX : X[kk]? = some (b, .row sz xs)) (hj : xs[j]? = some (.bool m))
  (h : SegY E ops N L K pol r (i + 1) l (X.set kk (b, .row sz (xs.set j (.bool v)))) Y k) : SegY E ops N L K pol ({ dst := none, op := .store t x z, type := ty, pos := pos, after := after, guard := guard } :: r) i l X Y k := by
 intro tm s0 pre hF hp
 have hlt : kk < X.length := by
  rcases Nat.lt_or_ge kk X.length with c | c
  ·exact c
  ·rw [List.getElem?_eq_none c] at hX; cases hX
 have hX' : (X ++ L)[kk]? = some (b, .row sz xs) := by rw [List.getElem?_append_left hlt]; exact hX
 have hF1 := hF.set hX' (.row sz (xs.set j (.bool v)))
 rw [List.set_append_left _ _ hlt] at hF1
 have q1 : Abs.loud E noCall (pol i) tm s0 { dst := none, op := .store t x z, type := ty, pos := pos, after := after, guard := guard } = some (.junk, s0.put b (.row sz (xs.set j (.bool v)))) := by
  have : Abs.loud E noCall (pol i) tm s0 { dst := none, op := .store t x z, type := ty, pos := pos, after := after, guard := guard } = (match E.ty t with | some ty => if (evalO tm z).cells.length = ty.size then (storeA s0 (evalO tm x) (evalO tm z)).map fun s => (.junk, s) else none | none => none) := rfl
  rw [this, ht, hF.ev hx, hF.ev hz]
  dsimp only
  rw [if_pos (by rw [h1]; rfl)]
  simp [storeA, (hF.obj kk b _ hX').1, hj, AV.ok, AV.cellOk, AV.cells]
 obtain ⟨n, tr, tm', s1, l', X', Y', h1, h2, h3, h4⟩ := h tm (s0.put b (.row sz (xs.set j (.bool v)))) pre hF1 hp
 refine ⟨n, ⟨tm, s0, s0.put b (.row sz (xs.set j (.bool v))), .junk, true⟩ :: tr, tm', s1, l', X', Y', ?_, h2, h3, fun k t o' ht ho => ?_⟩
 ·have hs' : stepPre E (callF E n) pre (pol i) i tm s0 { dst := none, op := .store t x z, type := ty, pos := pos, after := after, guard := guard } = some (.junk, s0.put b (.row sz (xs.set j (.bool v)))) := stepPre_loud (fun b hb => ⟨hp b hb, fun _ h => by cases h⟩) rfl rfl q1
  simp only [runOpsT]
  rw [hF.want hw]
  dsimp only
  rw [hs']
  dsimp only [putO]
  rw [h1]
 ·cases k with
  | zero =>
   simp only [List.getElem?_cons_zero, Option.some.injEq] at ht ho
   subst ht; subst ho
   exact ⟨hF.baseY.s, hF1.baseY.s, fun _ h => by cases h⟩
  | succ k =>
   simp only [List.getElem?_cons_succ] at ht ho
   exact h4 k t o' ht ho
theorem WS.drawX (m : Nat) (X : List (Nat × AObj)) (Y : List (Nat × Bool)) {id : Nat} {ops : Array Oper} {dy : List (Nat × Nat)} (hd : E.dyn fid id = dy) (ho : hasAlloc ops = false) (hm : Nat.ble m ops.toList.length = true)
  (hc : (dy.all fun p => Nat.blt p.1 m && Nat.blt p.2 m && (match ops.toList[p.2]? with | some o => !isLoud o.op | none => false)) = true)
  (h : SegY E ops N L K (E.pol fid id) (ops.toList.take m) 0 l X Y fun l1 X Y => OS E false (E.pol fid id) ops (ops.toList.drop m) m N l1 (X ++ L) (Y ++ K) Q) (hk : E.mks fid id = false := by rfl) : WS E fid N (.region id ops true) l (X ++ L) (Y ++ K) Q := by
 intro tm st hF
 have hm2 := Nat.le_of_ble_eq_true hm
 have hlA : (ops.toList.take m).length = m := by rw [List.length_take]; omega
 have hF0 := hF.at (m := st.next + ops.size) (by omega)
 generalize hs0 : st.at (st.next + ops.size) = s0 at hF0
 obtain ⟨n1, tr1, tm1, s1, l1, X1, Y1, a1, a2, a3, a4⟩ := h tm s0 (some (st.next, false)) hF0 (fun b hb => by cases hb; rfl)
 obtain ⟨n5, tr4, tm4, st4, c1, _, c3⟩ := a3 (some (st.next, false)) tm1 _ a2 (fun b hb => ⟨ho, by cases hb; rfl⟩)
 have a1 := runOpsT_mono (callF_mono n1 (max n1 n5) (by omega)) _ _ _ _ a1
 have c1 := runOpsT_mono (callF_mono n5 (max n1 n5) (by omega)) _ _ _ _ c1
 have hl1 := runOpsT_len a1
 have hops : ops.toList = ops.toList.take m ++ ops.toList.drop m := (List.take_append_drop m _).symm
 have hrun : runOpsT E (callF E (max n1 n5)) (some (st.next, false)) (E.pol fid id) ops ops.toList 0 tm s0 = some (tr1 ++ tr4, tm4, st4) := by
  have := runOpsT_append _ _ _ _ _ a1 (by rw [Nat.zero_add, hlA]; exact c1)
  rw [<- hops] at this
  exact this
 refine ⟨max n1 n5 + 1, .normal, tm4, st4, ?_, c3⟩
 have hpre : preObjs E st.next ops.toList 0 st.objs = some st.objs := preObjs_none _ _ _ ho
 have h1' := runOpsT_mono (callF_mono (max n1 n5) (max n1 n5 + 1) (by omega)) _ _ _ _ hrun
 rw [<- hs0] at h1'
 unfold St.at at h1'
 simp only [exec, execReg, if_true, hpre, hd, hk]
 have hdyn := dyn_stays (tr4 := tr4) hlA hl1 hc a4
 cases dy with
 | nil =>
  dsimp only
  rw [(runOps_of_T _ _ _ _ h1').1]
 | cons p0 ps =>
  dsimp only
  rw [h1']
  dsimp only
  rw [if_pos hdyn]
end
end Go.Abs
namespace Go.OptEnv
open Go Go.Proofs Go.Abs Go.RowKit Go.NetM
set_option maxRecDepth 10000
def GNet.k0 (n : GNet) : Nat := 1 + n.ins.xs.length
def GNet.olits (n : GNet) : List Int := n.outs.xs.map (·.lit)
def GNet.Need (n : GNet) (j : Nat) : Prop := Nd n.k0 n.kN n.gates.xs n.nexts n.olits j
noncomputable def needN (n : GNet) : List Bool := needL n.k0 n.kN n.gates.xs n.nexts n.olits
attribute [local irreducible] WS QS OS OD Abs.Sub SubO SubK CW GSl.av accA growA
section
variable {pr : Prims}
end
end Go.OptEnv
namespace Go.NetM
theorem selR_range {k0 : Nat} {keep : List Bool} {s : List Int × Nat} {j : Nat} (hk : 0 < k0) (ih : 0 <= s.1.getD j 0 /\ s.1.getD j 0 < 2 * ((k0 + s.2 : Nat) : Int)) : 0 <= (selR k0 keep s).1.getD j 0 /\ (selR k0 keep s).1.getD j 0 < 2 * ((k0 + (selR k0 keep s).2 : Nat) : Int) := by
 unfold selR
 split
 ·simp only [getD_snocI]
  split
  ·omega
  ·split <;> omega
 ·simp only [getD_snocI]
  split
  ·omega
  ·split <;> omega
theorem selRM_range {k0 : Nat} (hk : 0 < k0) {keep : List Bool} : ∀ i j, 0 <= (selRM k0 keep i).1.getD j 0 /\ (selRM k0 keep i).1.getD j 0 < 2 * ((k0 + (selRM k0 keep i).2 : Nat) : Int)
 | 0, j => idL_range hk j
 | i + 1, j => selR_range hk (selRM_range hk i j)
theorem sel_ok {k0 nregs : Nat} (hk : 0 < k0) {keep : List Bool} (gs : List (Int × Int)) : ∀ i, i <= gs.length -> ShOk (k0 + (selRM k0 keep nregs).2) (k0 + nregs + i) i (selM k0 nregs keep (gs.take i))
 | 0, _ => by
  have := ShOk.zero (k := k0 + (selRM k0 keep nregs).2) (all0 := (selRM k0 keep nregs).1) (selRM_range hk nregs)
  rw [selRM_len] at this
  exact this
 | i + 1, h => by
  rw [selM_succ (by omega)]
  exact (sel_ok hk gs i (by omega)).keepS (by omega) _
theorem selRM_yes {k0 : Nat} {keep : List Bool} {i c : Nat} {lits : List Int} (h : (lits, c) = selRM k0 keep i) (hk : keep.getD (k0 + i) false = true) : selRM k0 keep (i + 1) = (lits ++ [2 * ((k0 + c : Nat) : Int)], c + 1) := by
 have hl := selRM_len (k0 := k0) (keep := keep) i
 show selR k0 keep (selRM k0 keep i) = _
 rw [<- h] at hl ⊢
 unfold selR
 rw [if_pos (by dsimp only at hl ⊢; rw [hl]; exact hk)]
theorem selRM_no {k0 : Nat} {keep : List Bool} {i c : Nat} {lits : List Int} (h : (lits, c) = selRM k0 keep i) (hk : keep.getD (k0 + i) false = false) : selRM k0 keep (i + 1) = (lits ++ [0], c) := by
 have hl := selRM_len (k0 := k0) (keep := keep) i
 show selR k0 keep (selRM k0 keep i) = _
 rw [<- h] at hl ⊢
 unfold selR
 rw [if_neg (by dsimp only at hl ⊢; rw [hl, hk]; simp)]
theorem selM_yes {k0 nregs : Nat} {keep : List Bool} {gs G : List (Int × Int)} {i : Nat} {lits : List Int} (hi : i < gs.length) (h : (lits, G) = selM k0 nregs keep (gs.take i)) (hl : lits.length = k0 + nregs + i) (hk : keep.getD (k0 + nregs + i) false = true) : selM k0 nregs keep (gs.take (i + 1)) = (lits ++ [2 * ((k0 + (selRM k0 keep nregs).2 + G.length : Nat) : Int)], G ++ [(atL lits gs[i].1, atL lits gs[i].2)]) := by
 rw [selM_succ hi, <- h]
 unfold keepS
 rw [if_pos (by dsimp only; rw [hl]; exact hk)]
theorem selM_no {k0 nregs : Nat} {keep : List Bool} {gs G : List (Int × Int)} {i : Nat} {lits : List Int} (hi : i < gs.length) (h : (lits, G) = selM k0 nregs keep (gs.take i)) (hl : lits.length = k0 + nregs + i) (hk : keep.getD (k0 + nregs + i) false = false) : selM k0 nregs keep (gs.take (i + 1)) = (lits ++ [0], G) := by
 rw [selM_succ hi, <- h]
 unfold keepS
 rw [if_neg (by dsimp only; rw [hl, hk]; simp)]
theorem pickL_mem {α : Type} {k0 : Nat} {keep : List Bool} {l : List α} {i : Nat} {x : α} (h : x ∈ pickL k0 keep l i) : x ∈ l := by
 unfold pickL at h
 obtain ⟨⟨y, j⟩, hy, he⟩ := List.mem_filterMap.1 h
 split at he
 ·cases he
  exact List.mem_of_mem_take (List.fst_mem_of_mem_zipIdx hy)
 ·cases he
end Go.NetM
namespace Go.OptEnv
open Go Go.Proofs Go.Abs Go.RowKit Go.NetM
set_option maxRecDepth 10000
def keptO (i r g o : AV) : AObj := .row 4 [.agg [i, r, g, o]]
theorem st_gK {i r g o : AV} {t sz : Nat} {xs : List AV} : AObj.row 4 ([AV.agg [i, r, g, o]].set 0 (.agg ([i, r, g, o].take 2 ++ (accA t sz xs).cells ++ [i, r, g, o].drop (2 + (accA t sz xs).cells.length)))) = keptO i r (accA t sz xs) o := by
 rw [acc_cells]; rfl
theorem st_oK {i r g o : AV} {t sz : Nat} {xs : List AV} : AObj.row 4 ([AV.agg [i, r, g, o]].set 0 (.agg ([i, r, g, o].take 3 ++ (accA t sz xs).cells ++ [i, r, g, o].drop (3 + (accA t sz xs).cells.length)))) = keptO i r g (accA t sz xs) := by
 rw [acc_cells]; rfl
def keptRegs (n : GNet) (keep : List Bool) : List GReg := pickL n.k0 keep n.regs.xs n.regs.xs.length
def keptS (n : GNet) (keep : List Bool) : List Int × List (Int × Int) := selM n.k0 n.regs.xs.length keep n.gates.xs
def keptN (n : GNet) (keep : List Bool) : GNet := ⟨GSl.some n.ins.xs, GSl.of ((keptRegs n keep).map (withNext (keptS n keep).1)), GSl.of (keptS n keep).2, GSl.of (n.outs.xs.map (withLit (keptS n keep).1))⟩
theorem gof_some {α : Type} {sz : Nat} {f : α -> AV} {xs : List α} (h : xs ≠ []) : (GSl.of xs).av sz f = .vs sz .any (xs.map f) := by
 cases xs with
 | nil => exact absurd rfl h
 | cons x xs => rfl
attribute [local irreducible] WS QS OS OD Abs.Sub SubO SubK CW GSl.av accA growA
section
variable {pr : Prims}
theorem kept_fits {n : GNet} {keep : List Bool} (hV : validM n = true) (hn : FitsN n) : FitsN (keptN n keep) := by
 obtain ⟨f1, f2, f3, f4⟩ := valid_len hV
 have hk01 : 0 < n.k0 := by unfold GNet.k0; omega
 have hk0 : n.k0 <= 1001 := by unfold GNet.k0; omega
 have hs := sel_ok (nregs := n.regs.xs.length) hk01 (keep := keep) n.gates.xs n.gates.xs.length (Nat.le_refl _)
 rw [List.take_of_length_le (Nat.le_refl _)] at hs
 have hs : ShOk (n.k0 + (selRM n.k0 keep n.regs.xs.length).2) (n.k0 + n.regs.xs.length + n.gates.xs.length) n.gates.xs.length (keptS n keep) := hs
 have hc := selRM_cnt (k0 := n.k0) (keep := keep) n.regs.xs.length
 have hg := hs.gates
 have hat : ∀ l, Fit64 (atL (keptS n keep).1 l) := fun l => by
  have := hs.at_ l
  unfold Fit64
  omega
 have hin : ∀ r ∈ keptRegs n keep, r ∈ n.regs.xs := fun r hr => pickL_mem hr
 have hrl : (keptRegs n keep).length <= n.regs.xs.length := by
  unfold keptRegs; rw [pickL_len _ (Nat.le_refl _)]; exact hc
 obtain ⟨m1, m2, m3, m4, m5, m6, m7, m8, m9, m10⟩ := hn
 unfold keptN
 refine ⟨m1, by rw [gof_xs, List.length_map]; omega, by rw [gof_xs]; omega, by rw [gof_xs, List.length_map]; omega, m5, fun r hr => ?_, fun r hr => ?_, fun g hg' => ?_, fun r hr => ?_, fun r hr => ?_⟩
 ·rw [gof_xs] at hr
  obtain ⟨r', h', rfl⟩ := List.mem_map.1 hr
  exact m6 r' (hin r' h')
 ·rw [gof_xs] at hr
  obtain ⟨r', h', rfl⟩ := List.mem_map.1 hr
  exact m7 r' h'
 ·rw [gof_xs] at hg'
  obtain ⟨i, hi, rfl⟩ := List.getElem_of_mem hg'
  obtain ⟨⟨a1, a2⟩, a3, a4⟩ := hs.ok i hi
  unfold Fit64
  omega
 ·rw [gof_xs] at hr
  obtain ⟨r', h', rfl⟩ := List.mem_map.1 hr
  exact hat _
 ·rw [gof_xs] at hr
  obtain ⟨r', h', rfl⟩ := List.mem_map.1 hr
  exact hat _
end
end Go.OptEnv
namespace Go.NetM
def selZ (z : Int) (k0 : Nat) (keep : List Bool) : Nat -> List Int × Nat
 | 0 => (idL k0, 0)
 | i + 1 => if keep.getD i false = true then ((selZ z k0 keep i).1 ++ [2 * ((k0 + (selZ z k0 keep i).2 : Nat) : Int)], (selZ z k0 keep i).2 + 1) else ((selZ z k0 keep i).1 ++ [z], (selZ z k0 keep i).2)
theorem selZ_len {z : Int} {k0 : Nat} {keep : List Bool} : ∀ i, (selZ z k0 keep i).1.length = k0 + i
 | 0 => idL_len k0
 | i + 1 => by
  have := selZ_len (z := z) (k0 := k0) (keep := keep) i
  unfold selZ
  split <;> (simp only [List.length_append, List.length_singleton, this]; omega)
theorem selZ_le {z : Int} {k0 : Nat} {keep : List Bool} : ∀ i, (selZ z k0 keep i).2 <= i
 | 0 => Nat.le_refl _
 | i + 1 => by
  have := selZ_le (z := z) (k0 := k0) (keep := keep) i
  unfold selZ
  split
  ·show _ + 1 <= _; omega
  ·show _ <= _; omega
def Stays (k0 : Nat) (keep : List Bool) (j : Nat) : Prop := j < k0 \/ keep.getD (j - k0) false = true
theorem selZ_range {z : Int} {k0 : Nat} (hk : 0 < k0) {keep : List Bool} : ∀ i j, Stays k0 keep j -> 0 <= (selZ z k0 keep i).1.getD j 0 /\ (selZ z k0 keep i).1.getD j 0 < 2 * ((k0 + (selZ z k0 keep i).2 : Nat) : Int)
 | 0, j, _ => idL_range hk j
 | i + 1, j, h => by
  have ih := selZ_range (z := z) hk (keep := keep) i j h
  have h1 := selZ_len (z := z) (k0 := k0) (keep := keep) i
  unfold selZ
  split
  ·simp only [getD_snocI, h1]
   split
   ·omega
   ·split <;> omega
  ·rename_i hkk
   simp only [getD_snocI, h1]
   split
   ·omega
   ·split
    ·exfalso
     rcases h with h | h
     ·omega
     ·rw [show j - k0 = i by omega] at h; exact hkk h
    ·omega
theorem selZ_yes {z : Int} {k0 : Nat} {keep : List Bool} {i : Nat} {s : List Int × Nat} (h : s = selZ z k0 keep i) (hk : keep.getD i false = true) : selZ z k0 keep (i + 1) = (s.1 ++ [2 * ((k0 + s.2 : Nat) : Int)], s.2 + 1) := by
 subst h
 show (if _ then _ else _) = _
 rw [if_pos hk]
theorem selZ_no {z : Int} {k0 : Nat} {keep : List Bool} {i : Nat} {s : List Int × Nat} (h : s = selZ z k0 keep i) (hk : keep.getD i false = false) : selZ z k0 keep (i + 1) = (s.1 ++ [z], s.2) := by
 subst h
 show (if _ then _ else _) = _
 rw [if_neg (by rw [hk]; simp)]
theorem selZ_zero {z : Int} {k0 : Nat} (hk : 0 < k0) {keep : List Bool} : ∀ i, (selZ z k0 keep i).1.getD 0 0 = 0
 | 0 => by
  show (idL k0).getD 0 0 = 0
  rw [idL_get, if_pos hk]; rfl
 | i + 1 => by
  have ih := selZ_zero (z := z) hk (keep := keep) i
  have h1 := selZ_len (z := z) (k0 := k0) (keep := keep) i
  unfold selZ
  split
  ·show (_ ++ [_]).getD 0 0 = 0
   rw [getD_snocI, if_pos (by omega)]; exact ih
  ·show (_ ++ [_]).getD 0 0 = 0
   rw [getD_snocI, if_pos (by omega)]; exact ih
theorem atL_const {A : List Int} (h : A.getD 0 0 = 0) {l : Int} (h0 : 0 <= l) (h1 : l <= 1) : atL A l = l := by
 have : l = 0 \/ l = 1 := by omega
 rcases this with rfl | rfl
 ·unfold atL flipL; rw [show ((0 : Int) / 2).toNat = 0 from rfl, h]; rfl
 ·unfold atL flipL; rw [show ((1 : Int) / 2).toNat = 0 from rfl, h]; rfl
def Stand (k0 n : Nat) (keep : List Bool) (lits : List Int) : Prop := ∀ i, i < n -> keep.getD i false = false -> 0 <= lits.getD i 0 /\ lits.getD i 0 < 2 * ((k0 + n : Nat) : Int) /\ Stays k0 keep (lits.getD i 0 / 2).toNat
def fillZ (z : Int) (k0 n : Nat) (keep : List Bool) (lits : List Int) : Nat -> List Int
 | 0 => (selZ z k0 keep n).1
 | i + 1 => if keep.getD i false = true then fillZ z k0 n keep lits i else (fillZ z k0 n keep lits i).set (k0 + i) (atL (selZ z k0 keep n).1 (lits.getD i 0))
theorem fillZ_len {z : Int} {k0 n : Nat} {keep : List Bool} {lits : List Int} : ∀ i, (fillZ z k0 n keep lits i).length = k0 + n
 | 0 => selZ_len n
 | i + 1 => by
  have := fillZ_len (z := z) (k0 := k0) (n := n) (keep := keep) (lits := lits) i
  unfold fillZ
  split
  ·exact this
  ·rw [List.length_set]; exact this
theorem getD_setI {l : List Int} {i j : Nat} {x : Int} : (l.set i x).getD j 0 = if i = j /\ i < l.length then x else l.getD j 0 := by
 simp only [List.getD_eq_getElem?_getD, List.getElem?_set]
 by_cases h : i = j
 ·subst h
  by_cases hl : i < l.length
  ·simp [hl]
  ·simp [hl]
 ·simp [h]
theorem fillZ_stays {z : Int} {k0 n : Nat} {keep : List Bool} {lits : List Int} {j : Nat} (h : Stays k0 keep j) : ∀ i, (fillZ z k0 n keep lits i).getD j 0 = (selZ z k0 keep n).1.getD j 0
 | 0 => rfl
 | i + 1 => by
  have ih := fillZ_stays (z := z) (n := n) (lits := lits) h i
  unfold fillZ
  split
  ·exact ih
  ·rename_i hk
   rw [getD_setI, if_neg, ih]
   rintro ⟨e, _⟩
   rcases h with h | h
   ·omega
   ·rw [show j - k0 = i by omega] at h; exact hk h
theorem fillZ_gone {z : Int} {k0 n : Nat} {keep : List Bool} {lits : List Int} {g : Nat} (hg : keep.getD g false = false) (hn : g < n) : ∀ i, g < i -> (fillZ z k0 n keep lits i).getD (k0 + g) 0 = atL (selZ z k0 keep n).1 (lits.getD g 0)
 | i + 1, hi => by
  have hl := fillZ_len (z := z) (k0 := k0) (n := n) (keep := keep) (lits := lits) i
  unfold fillZ
  by_cases e : g = i
  ·subst e
   rw [if_neg (by rw [hg]; simp), getD_setI, if_pos ⟨rfl, by omega⟩]
  ·have ih := fillZ_gone (z := z) (k0 := k0) (lits := lits) hg hn i (by omega)
   split
   ·exact ih
   ·rw [getD_setI, if_neg (by omega), ih]
theorem atL_congr {a b : List Int} {l : Int} (h : a.getD (l / 2).toNat 0 = b.getD (l / 2).toNat 0) : atL a l = atL b l := by unfold atL; rw [h]
theorem stays_dec {k0 : Nat} {keep : List Bool} (j : Nat) : Stays k0 keep j \/ (k0 <= j /\ keep.getD (j - k0) false = false) := by
 unfold Stays
 by_cases h : j < k0
 ·exact .inl (.inl h)
 ·cases hk : keep.getD (j - k0) false with
  | true => exact .inl (.inr rfl)
  | false => exact .inr ⟨by omega, rfl⟩
theorem fill_range {z : Int} {k0 n : Nat} (hk : 0 < k0) {keep : List Bool} {lits : List Int} (hs : Stand k0 n keep lits) (j : Nat) (hj : j < k0 + n) : 0 <= (fillZ z k0 n keep lits n).getD j 0 /\ (fillZ z k0 n keep lits n).getD j 0 < 2 * ((k0 + (selZ z k0 keep n).2 : Nat) : Int) := by
 rcases stays_dec (k0 := k0) (keep := keep) j with h | ⟨h1, h2⟩
 ·rw [fillZ_stays h]; exact selZ_range hk n j h
 ·have e : j = k0 + (j - k0) := by omega
  rw [e, fillZ_gone h2 (by omega) n (by omega)]
  exact flip_range (selZ_range hk n _ (hs _ (by omega) h2).2.2)
theorem fill_rangeA {z : Int} {k0 n : Nat} (hk : 0 < k0) {keep : List Bool} {lits : List Int} (hs : Stand k0 n keep lits) (j : Nat) : 0 <= (fillZ z k0 n keep lits n).getD j 0 /\ (fillZ z k0 n keep lits n).getD j 0 < 2 * ((k0 + (selZ z k0 keep n).2 : Nat) : Int) := by
 by_cases hj : j < k0 + n
 ·exact fill_range hk hs j hj
 ·rw [List.getD_eq_getElem?_getD, List.getElem?_eq_none (by rw [fillZ_len]; omega)]
  exact ⟨Int.le_refl _, by show (0 : Int) < _; omega⟩
theorem fillZ_yes {z : Int} {k0 n : Nat} {keep : List Bool} {lits : List Int} {i : Nat} (h : keep.getD i false = true) : fillZ z k0 n keep lits (i + 1) = fillZ z k0 n keep lits i := by
 show (if _ then _ else _) = _
 rw [if_pos h]
theorem fillZ_no {z : Int} {k0 n : Nat} {keep : List Bool} {lits : List Int} (hs : Stand k0 n keep lits) {i : Nat} (hi : i < n) (h : keep.getD i false = false) : fillZ z k0 n keep lits (i + 1) = (fillZ z k0 n keep lits i).set (k0 + i) (atL (fillZ z k0 n keep lits i) (lits.getD i 0)) := by
 show (if _ then _ else _) = _
 rw [if_neg (by rw [h]; simp), atL_congr (a := fillZ z k0 n keep lits i) (b := (selZ z k0 keep n).1) (fillZ_stays (hs i hi h).2.2 i)]
end Go.NetM
namespace Go.OptEnv
open Go Go.Proofs Go.Abs Go.RowKit Go.NetM
set_option maxRecDepth 10000
def keptL (n : GNet) (keep : List Bool) : List GReg := pickL 0 keep n.regs.xs n.regs.xs.length
def GNet.kk (n : GNet) (keep : List Bool) : Nat := n.k0 + (keptL n keep).length
def againL (n : GNet) (keep : List Bool) (lits : List Int) : List Int := fillZ 0 n.k0 n.regs.xs.length keep lits n.regs.xs.length
def againS (n : GNet) (keep : List Bool) (lits : List Int) : List Int × List (Int × Int) := shareM (n.kk keep) (againL n keep lits) n.gates.xs
def netOf (ins : GSl ByteArray) (n : GNet) (keep : List Bool) (s : List Int × List (Int × Int)) : GNet := ⟨ins, GSl.of ((keptL n keep).map (withNext s.1)), GSl.of s.2, GSl.of (n.outs.xs.map (withLit s.1))⟩
def againM (n : GNet) (keep : List Bool) (lits : List Int) : GNet := netOf (cloneG n.ins) n keep (againS n keep lits)
def againN (n : GNet) (keep : List Bool) (lits : List Int) : GNet := cleanN (againM n keep lits)
theorem pick_sub {α : Type} {k0 : Nat} {keep : List Bool} {l : List α} : ∀ i, i <= l.length -> (pickL k0 keep l i).Sublist (l.take i)
 | 0, _ => by simp [pickL]
 | i + 1, h => by
  have ih := pick_sub (k0 := k0) (keep := keep) (l := l) i (by omega)
  rw [pickL_succ (by omega), List.take_succ_eq_append_getElem (by omega)]
  split
  ·exact List.Sublist.append ih (List.Sublist.refl _)
  ·exact ih.trans (List.sublist_append_left _ _)
theorem keptL_sub (n : GNet) (keep : List Bool) : (keptL n keep).Sublist n.regs.xs := by
 have := pick_sub (k0 := 0) (keep := keep) (l := n.regs.xs) n.regs.xs.length (Nat.le_refl _)
 rwa [List.take_of_length_le (Nat.le_refl _)] at this
theorem pick_cnt {α : Type} {z : Int} {k0 : Nat} {keep : List Bool} {l : List α} : ∀ i, i <= l.length -> (pickL 0 keep l i).length = (selZ z k0 keep i).2
 | 0, _ => by simp [pickL, selZ]
 | i + 1, h => by
  have ih := pick_cnt (z := z) (k0 := k0) (keep := keep) (l := l) i (by omega)
  rw [pickL_succ (by omega), Nat.zero_add]
  unfold selZ
  split
  ·simp [ih]
  ·exact ih
theorem kk_sel {z : Int} (n : GNet) (keep : List Bool) : n.kk keep = n.k0 + (selZ z n.k0 keep n.regs.xs.length).2 := by
 unfold GNet.kk keptL
 rw [pick_cnt (z := z) (k0 := n.k0) n.regs.xs.length (Nat.le_refl _)]
theorem names_sub {l l' : List ByteArray} (h : l'.Sublist l) (hl : namesM l = true) : namesM l' = true := by
 simp only [namesM, Bool.and_eq_true, decide_eq_true_eq, List.all_eq_true] at hl ⊢
 obtain ⟨⟨a, b⟩, c⟩ := hl
 exact ⟨⟨Nat.le_trans h.length_le a, fun x hx => b x (h.subset hx)⟩, c.sublist h⟩
theorem k0_pos (n : GNet) : 0 < n.k0 := by unfold GNet.k0; omega
theorem kk_pos (n : GNet) (keep : List Bool) : 0 < n.kk keep := by unfold GNet.kk; have := k0_pos n; omega
theorem againL_len (n : GNet) (keep : List Bool) (lits : List Int) : (againL n keep lits).length = n.kN := by
 unfold againL; rw [fillZ_len]; rfl
theorem againL_range {n : GNet} {keep : List Bool} {lits : List Int} (hs : Stand n.k0 n.regs.xs.length keep lits) (j : Nat) : 0 <= (againL n keep lits).getD j 0 /\ (againL n keep lits).getD j 0 < 2 * (n.kk keep : Int) := by
 rw [kk_sel (z := 0)]
 exact fill_rangeA (k0_pos n) hs j
theorem again_sh {n : GNet} {keep : List Bool} {lits : List Int} (hs : Stand n.k0 n.regs.xs.length keep lits) {i : Nat} (hi : i <= n.gates.xs.length) : ShOk (n.kk keep) (n.kN + i) i (shareM (n.kk keep) (againL n keep lits) (n.gates.xs.take i)) := by
 have := ShOk.share (kk_pos n keep) (againL_range hs) n.gates.xs i hi
 rwa [againL_len] at this
theorem againS_sh {n : GNet} {keep : List Bool} {lits : List Int} (hs : Stand n.k0 n.regs.xs.length keep lits) : ShOk (n.kk keep) (n.kN + n.gates.xs.length) n.gates.xs.length (againS n keep lits) := by
 have := again_sh hs (Nat.le_refl n.gates.xs.length)
 rwa [List.take_length] at this
theorem netOf_kN {ins : GSl ByteArray} {n : GNet} {keep : List Bool} {s : List Int × List (Int × Int)} (hi : ins.xs = n.ins.xs) : (netOf ins n keep s).kN = n.kk keep := by
 unfold GNet.kN GNet.kk GNet.k0 netOf
 rw [gof_xs, List.length_map, hi]
theorem netOf_valid {ins : GSl ByteArray} {n : GNet} (hi : ins.xs = n.ins.xs) (hv : validM n = true) {keep : List Bool} {s : List Int × List (Int × Int)} {N : Nat} (hs : ShOk (n.kk keep) N n.gates.xs.length s) : validM (netOf ins n keep s) = true := by
 have v := validM_iff.1 hv
 have hm := v.gatesN
 have hkN := netOf_kN (keep := keep) (s := s) hi
 have hf : (netOf ins n keep s).first = (n.kk keep : Int) := by rw [<- hkN]; unfold GNet.first GNet.kN; omega
 have e3 : (netOf ins n keep s).gates.xs = s.2 := gof_xs _
 have e2 : (netOf ins n keep s).regs.xs = (keptL n keep).map (withNext s.1) := gof_xs _
 have e4 : (netOf ins n keep s).outs.xs = n.outs.xs.map (withLit s.1) := gof_xs _
 have hnd : (netOf ins n keep s).nodes = ((n.kk keep + s.2.length : Nat) : Int) := by unfold GNet.nodes; rw [hf, e3]; omega
 have hg := hs.gates
 have hsub := keptL_sub n keep
 refine validM_iff.2 ⟨by rw [e3]; omega, by show namesM ins.xs = true; rw [hi]; exact v.ins, ?_, ?_, by rw [hf, e3]; exact gatesOk_all hs.ok, ?_, ?_, ?_⟩
 ·rw [e2, List.map_map]; exact names_sub (hsub.map _) v.regs
 ·rw [e4, List.map_map]; exact v.outs
 ·rw [e2, List.all_map, List.all_eq_true]
  intro r hr
  exact List.all_eq_true.1 v.inits r (hsub.subset hr)
 ·rw [e2, hnd, List.all_map, List.all_eq_true]
  intro r _
  have := hs.at_ r.next
  exact decide_eq_true this
 ·rw [e4, hnd, List.all_map, List.all_eq_true]
  intro r _
  have := hs.at_ r.lit
  exact decide_eq_true this
theorem netOf_fits {ins : GSl ByteArray} {n : GNet} (hi : ins.xs = n.ins.xs) (hv : validM n = true) (hn : FitsN n) {keep : List Bool} {s : List Int × List (Int × Int)} {N : Nat} (hs : ShOk (n.kk keep) N n.gates.xs.length s) : FitsN (netOf ins n keep s) := by
 obtain ⟨f1, f2, f3, f4⟩ := valid_len hv
 have hsub := keptL_sub n keep
 have hg := hs.gates
 have hkl : (keptL n keep).length <= n.regs.xs.length := hsub.length_le
 have hkk : n.kk keep <= 3000 := by unfold GNet.kk GNet.k0; omega
 have ha : ∀ l, Fit64 (atL s.1 l) := fun l => by
  have := hs.at_ l
  exact ⟨by omega, by omega⟩
 obtain ⟨m1, m2, m3, m4, m5, m6, m7, m8, m9, m10⟩ := hn
 unfold netOf
 refine ⟨by rw [hi]; exact m1, by rw [gof_xs, List.length_map]; omega, by rw [gof_xs]; omega, by rw [gof_xs, List.length_map]; omega, by rw [hi]; exact m5, fun r hr => ?_, fun r hr => ?_, fun a hg' => ?_, fun r hr => ?_, fun r hr => ?_⟩
 ·rw [gof_xs] at hr
  obtain ⟨r', h', rfl⟩ := List.mem_map.1 hr
  exact m6 r' (hsub.subset h')
 ·rw [gof_xs] at hr
  obtain ⟨r', h', rfl⟩ := List.mem_map.1 hr
  exact m7 r' h'
 ·rw [gof_xs] at hg'
  obtain ⟨i, hi, rfl⟩ := List.getElem_of_mem hg'
  obtain ⟨⟨a1, a2⟩, a3, a4⟩ := hs.ok i hi
  exact ⟨⟨by omega, by omega⟩, by omega, by omega⟩
 ·rw [gof_xs] at hr
  obtain ⟨r', h', rfl⟩ := List.mem_map.1 hr
  exact ha _
 ·rw [gof_xs] at hr
  obtain ⟨r', h', rfl⟩ := List.mem_map.1 hr
  exact ha _
theorem SameC.cleaned {a b : GNet} (h : SameC a b) : SameC (cleanN a) (cleanN b) := by
 unfold cleanN
 rw [h.clean]
 exact h.lay _
theorem again_valid {n : GNet} (hv : validM n = true) {keep : List Bool} {lits : List Int} (hs : Stand n.k0 n.regs.xs.length keep lits) : validM (againM n keep lits) = true := netOf_valid (clone_xs _) hv (againS_sh hs)
theorem again_fits {n : GNet} (hv : validM n = true) (hn : FitsN n) {keep : List Bool} {lits : List Int} (hs : Stand n.k0 n.regs.xs.length keep lits) : FitsN (againM n keep lits) := netOf_fits (clone_xs _) hv hn (againS_sh hs)
end Go.OptEnv
namespace Go.OptEnv
open Go Go.Proofs Go.Abs Go.RowKit Go.NetM
set_option maxRecDepth 10000
def Rel16 : Rel := fun a x => a = [] /\ x = .bool true
attribute [local irreducible] WS QS OS OD Abs.Sub SubO SubK CW GSl.av accA
section
variable {pr : Prims}
def fewM (n : GNet) : Bool := decide (n.ins.xs.length + n.regs.xs.length + n.outs.xs.length <= 120) && decide (n.gates.xs.length <= 300)
theorem run15 (h1 : pr 15 = none) (n : GNet) (hn : FitsN n) (st : St) : CW (En pr) 15 [netAV n] st fun r _ => r = .bool (fewM n) := by
 obtain ⟨f1, f2, f3, f4, _, _, _, _, _, _⟩ := hn
 have w2 : IntKind.i64.wrap (IntKind.i64.wrap ((n.ins.xs.length : Int) + (n.regs.xs.length : Int)) + (n.outs.xs.length : Int)) = (n.ins.xs.length : Int) + (n.regs.xs.length : Int) + (n.outs.xs.length : Int) := by
  rw [wrap64 (n := (n.ins.xs.length : Int) + (n.regs.xs.length : Int)) (by omega) (by omega)]
  exact wrap64 (by omega) (by omega)
 refine CW.start (N := 21) h1 rfl rfl ?_
 repeat' (first | (refine OS.do rfl ?_; first | refine OD.box rfl rfl rfl rfl (net_ok _) rfl (fun b1 => ?_) | refine OD.loadP 0 rfl rfl rfl rfl rfl rfl ?_ | refine OD.auto rfl rfl ?_ | refine OD.len rfl rfl (fun _ => lenTy_av rfl rfl) ?_) | refine OS.nil ?_ | refine OS.skip rfl rfl rfl ?_ | refine WS.seq ?_ | refine QS.seqN ?_ | refine WS.region ?_ | refine WS.ret ?_ | ((fail_if_success (refine OS.do rfl ?_)); first | refine OS.splitD rfl rfl rfl (fun _ => ?_) (fun _ => ?_)))
 all_goals (refine QS.retR (by rfl) fun _ => ?_; show AV.bool _ = _; congr 1; unfold fewM; rw [Bool.eq_iff_iff]; simp only [Bool.and_eq_true, decide_eq_true_eq, false_iff, reduceCtorEq, not_and]; omega)
def Rel15 : Rel := RelF (fun n : GNet => FitsN n) (fun n => [netAV n]) fun n => .bool (fewM n)
theorem con15 (h1 : pr 15 = none) : Con2 (En pr) 15 Rel15 := con_eq (fun d => by simp [AV.freeL, net_free]) (fun _ => ⟨rfl, rfl⟩) fun d hd st => run15 h1 d hd st
theorem use16 (h : Has pr 16 Rel16) (st : St) : primOf Rel16 [] st = some (.bool true, st) := h.use ⟨rfl, rfl⟩ st
theorem use15 (h : Has pr 15 Rel15) {n : GNet} (hn : FitsN n) (st : St) : primOf Rel15 [netAV n] st = some (.bool (fewM n), st) := h.use ⟨n, hn, by simp [AV.plainL, net_plain], rfl⟩ st
end
end Go.OptEnv
namespace Go.OptEnv
open Go Go.Proofs Go.Abs Go.RowKit Go.NetM
set_option maxRecDepth 10000
attribute [local irreducible] WS QS OS OD Abs.Sub SubO SubK CW GSl.av accA growA
section
variable {pr : Prims}
end
end Go.OptEnv
