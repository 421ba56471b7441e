/- Own text of this claim: part 12 of an interpreter that is proved sound against the model, and of what it shows of the law. -/
import Derived.Test.YthomnnnhkfjbdaaGreatAbs10
import Derived.Test.YthomnnnhkfjbdaaGreatAbs9
import Derived.Test.YthomnnnhkfjbdaaGreatAbs11
namespace Go.Abs
section
variable {E : Env} {N : Nat} {l : List (Nat × AV)} {L X : List (Nat × AObj)} {K Y : List (Nat × Bool)} {pol : Nat → Nat} {ops : Array Oper} {r : List Oper} {i : Nat} {d : Nat} {ty : TypeId} {pos : String} {after : Array Edge} {guard : Option (Nat × Bool)}
variable {k : List (Nat × AV) → List (Nat × AObj) → List (Nat × Bool) → Prop}
theorem SegY.nilCheckP {x : Operand} {b j off : Nat} (hw : wantS ops l { dst := some d, op := .nilCheck x, type := ty, pos := pos, after := after, guard := guard } = some true) (hn : Nat.blt d N = true) (hx : evL l x = some (.ptr b j off)) (h : SegY E ops N L K pol r (i + 1) ((d, .ptr b j off) :: l) X Y k) : SegY E ops N L K pol ({ dst := some d, op := .nilCheck x, type := ty, pos := pos, after := after, guard := guard } :: r) i l X Y k :=
  .quiet hw rfl hn rfl (fun tm st hF => by
    have : Abs.quiet E tm st { dst := some d, op := .nilCheck x, type := ty, pos := pos, after := after, guard := guard } = (match evalO tm x with | .ptr b i off => some (.ptr b i off) | .ip cs => some (.ip cs) | .gptr g => some (.gptr g) | .fn f [] cap => some (.fn f [] cap) | _ => none) := rfl
    rw [this, hF.ev hx]) h
theorem SegY.len {x : Operand} {t : TypeId} {a v : AV} (hw : wantS ops l { dst := some d, op := .call { callee := .builtin .len, args := #[x], argTypes := #[t] }, type := ty, pos := pos, after := after, guard := guard } = some true) (hn : Nat.blt d N = true) (hx : evL l x = some a) (h : ∀ st, lenTy E st t a = some v) (k1 : SegY E ops N L K pol r (i + 1) ((d, v) :: l) X Y k) :
    SegY E ops N L K pol ({ dst := some d, op := .call { callee := .builtin .len, args := #[x], argTypes := #[t] }, type := ty, pos := pos, after := after, guard := guard } :: r) i l X Y k :=
  .quiet hw rfl hn rfl (fun tm st hF => by
    show lenTy E st t (evalO tm x) = some v
    rw [hF.ev hx]; exact h st) k1
end
theorem SFa.mem {L : List (Nat × AObj)} {K : List (Nat × Bool)} {st : St} (h : SFa L K st) {p : Nat × AObj} (hp : p ∈ L) : st.get p.1 = some p.2 := by
  obtain ⟨i, hi, e⟩ := List.mem_iff_getElem.1 hp
  exact (h.obj i p.1 p.2 (by rw [List.getElem?_eq_getElem hi, e])).1
end Go.Abs
namespace Go.OptEnv
open Go Go.Proofs Go.Abs Go.RowKit Go.NetM
set_option maxRecDepth 10000
structure MkR where
  a : AV
  r : AV
  o : AV
def MkR.av (m : MkR) (tg : Nat) (G : List (Int × Int)) : AV := .agg [m.a, m.r, accA tg 2 (G.map gateAV), m.o]
def MkR.obj (m : MkR) (tg : Nat) (G : List (Int × Int)) : AObj := .row 4 [m.av tg G]
def First (pr : Prims) (m : MkR) (k : Nat) (q : List (Nat × AObj)) : Prop :=
  ∀ (tg : Nat) (G : List (Int × Int)), okG k G → G.length ≤ 20000 → ∀ (L : List (Nat × AObj)) (K : List (Nat × Bool)) (st : St), SFa L K st → (∀ p ∈ q, p ∈ L) → primOf Rel73 [m.av tg G] st = some (.int .i64 (k : Int), st)
theorem eq_pairB {pr : Prims} {xo yo : Operand} (p q : Int × Int) : binA (En pr) .eql 53 xo yo (gateAV p) (gateAV q) = some (.bool (decide (p = q))) := by
  have e : binA (En pr) .eql 53 xo yo (gateAV p) (gateAV q) = (eqA (En pr) 20 53 (gateAV p) (gateAV q)).map fun b => .bool b := rfl
  rw [e, eq_pair]; rfl
theorem findG_at {p : Int × Int} : ∀ {G : List (Int × Int)} {i m : Nat}, G[i]? = some p → p ∉ G.take i → findG p G m = some (m + i)
  | g :: G, 0, m, h, _ => by
    simp only [List.getElem?_cons_zero, Option.some.injEq] at h
    unfold findG; rw [if_pos h]; rfl
  | g :: G, i + 1, m, h, hn => by
    simp only [List.getElem?_cons_succ] at h
    simp only [List.take_succ_cons, List.mem_cons, not_or] at hn
    unfold findG
    rw [if_neg (fun e => hn.1 e.symm), findG_at h hn.2]
    congr 1; omega
theorem findG_no {p : Int × Int} : ∀ {G : List (Int × Int)} {m : Nat}, p ∉ G → findG p G m = none
  | [], _, _ => rfl
  | g :: G, m, h => by
    simp only [List.mem_cons, not_or] at h
    unfold findG
    rw [if_neg (fun e => h.1 e.symm), findG_no h.2]
theorem st_gR {m : MkR} {tg t' : Nat} {G G' : List (Int × Int)} : AObj.row 4 ([m.av tg G].set 0 (.agg ([m.a, m.r, accA tg 2 (G.map gateAV), m.o].take 2 ++ (accA t' 2 (G'.map gateAV)).cells ++ [m.a, m.r, accA tg 2 (G.map gateAV), m.o].drop (2 + (accA t' 2 (G'.map gateAV)).cells.length)))) = m.obj t' G' := by
  rw [acc_cells]; rfl
theorem q_up {q L : List (Nat × AObj)} {x : Nat × AObj} (h : ∀ p ∈ q, p ∈ L) : ∀ p ∈ q, p ∈ x :: L := fun p hp => List.mem_cons_of_mem _ (h p hp)
theorem q_set {q L : List (Nat × AObj)} {km : Nat} {z : Nat × AObj} (h : ∀ p ∈ q, ∃ j, j ≠ km ∧ L[j]? = some p) : ∀ p ∈ q, p ∈ L.set km z := fun p hp => by
  obtain ⟨j, hj, e⟩ := h p hp
  exact List.mem_of_getElem? (i := j) (by rw [List.getElem?_set, if_neg (fun c => hj c.symm)]; exact e)
theorem q_mem {q L : List (Nat × AObj)} {km : Nat} (h : ∀ p ∈ q, ∃ j, j ≠ km ∧ L[j]? = some p) : ∀ p ∈ q, p ∈ L := fun p hp => by
  obtain ⟨j, _, e⟩ := h p hp
  exact List.mem_of_getElem? e
attribute [local irreducible] WS QS OS OD Abs.Sub SubO SubK CW GSl.av accA growA
section
variable {pr : Prims} {L : List (Nat × AObj)} {K : List (Nat × Bool)} {st : St}
set_option maxHeartbeats 1000000 in
theorem run126 (h1 : pr 126 = none) (h72 : Has pr 72 Rel72) (h73 : Has pr 73 Rel73) (km : Nat) {mb tg : Nat} {m : MkR} {G : List (Int × Int)} {k : Nat} {q : List (Nat × AObj)} (hm : L[km]? = some (mb, m.obj tg G)) (hf : First pr m k q) (hq : ∀ p ∈ q, p ∈ L) (hk : k ≤ 3000) (hG : G.length ≤ 20000) (hok : okG k G) {a b : Int}
    (ha : 0 ≤ a ∧ a < 2 * ((k + G.length : Nat) : Int)) (hb : 0 ≤ b ∧ b < 2 * ((k + G.length : Nat) : Int)) (hS : SFa L K st) :
    CW (En pr) 126 [.ptr mb 0 0, .vs 1 .full ([a, b].map intAV)] st fun r st' => r = .bool true ∧ SFa L K st' := by
  have eg : AV.vs 1 .full ([a, b].map intAV) = growA false 0 1 ([a, b].map intAV) := by unfold growA; rfl
  rw [eg]
  have hw : IntKind.i64.wrap ((k : Int) + (G.length : Int)) = ((k + G.length : Nat) : Int) := by rw [wrap64 (by omega) (by omega)]; omega
  refine CW.startS (N := 29) h1 rfl rfl hS ?_
  repeat' (first | (refine OS.do rfl ?_; first | refine OD.auto rfl rfl ?_ | refine OD.len rfl rfl (fun _ => lenTy_grow rfl rfl) ?_) | refine OS.nil ?_ | refine WS.seq ?_ | refine QS.seqN ?_ | refine WS.region ?_ | refine WS.block ?_)
  refine WS.rangeX (A := Unit) (n := 2) ⟨9, _, fun _ => [], fun _ => L, fun _ => K, fun _ _ => True⟩ (()) [0, 7, 8] (trivial) ?_ ?_
  · rintro i _ hi _
    obtain ⟨x, hx, hx0, hx1⟩ : ∃ x : Int, [a, b][(i : Int).toNat]? = some x ∧ 0 ≤ x ∧ x < 2 * ((k + G.length : Nat) : Int) := by
      rcases (show i = 0 ∨ i = 1 by omega) with rfl | rfl
      · exact ⟨a, rfl, ha⟩
      · exact ⟨b, rfl, hb⟩
    have u72 := use72 h72 (l := x) (k := ((k + G.length : Nat) : Int)) ⟨by omega, by omega⟩
    rw [litOk_yes ⟨hx0, by omega⟩] at u72
    dsimp only [RSt.at, List.cons_append, List.nil_append]
    repeat' (first | (refine OS.do rfl ?_; first | refine OD.auto rfl rfl ?_ | refine OD.indexAddr rfl rfl rfl (indexAddrA_grow rfl rfl rfl rfl (by omega) hx) ?_) | refine OS.nil ?_ | refine WS.seq ?_ | refine QS.seqN ?_ | refine WS.region ?_)
    refine WS.drawY 12 [] (K := K) rfl rfl rfl rfl ?_; (repeat' (first | refine SegY.nil ?_ | refine SegY.loadP km rfl rfl rfl hm rfl rfl rfl ?_ | refine SegY.nilCheckP rfl rfl rfl ?_ | refine SegY.len rfl rfl rfl (fun _ => lenTy_accm rfl rfl) ?_ | refine SegY.auto rfl rfl rfl rfl ?_ | refine SegY.loadP 0 rfl rfl rfl rfl rfl rfl rfl ?_ | refine SegY.loadP 1 rfl rfl rfl rfl rfl rfl rfl ?_ | refine SegY.loadP 2 rfl rfl rfl rfl rfl rfl rfl ?_ | refine SegY.indexAddr rfl rfl rfl rfl rfl ?_ | refine SegY.callW (D := Unit) (fun _ => True) (fun _ => .int .i64 (k : Int)) (fun _ => _) (fun _ => _) rfl rfl rfl rfl (fun st hS => CW.prim h73.eq (hf tg G hok hG _ _ st hS hq) ⟨(), st, trivial, rfl, hS⟩) (fun _ _ => ?_)))
    dsimp only [RSt.at, List.cons_append, List.nil_append]
    repeat' (first | (refine OS.do rfl ?_; first | refine OD.auto rfl rfl ?_ | (rw [hw]; refine OD.call rfl rfl rfl h72.eq u72 (fun _ => rfl) ?_)) | refine OS.nil ?_ | refine QS.seqN ?_ | refine WS.condF rfl ?_ | refine WS.skip ?_)
    exact QS.rangeX (()) (by (try dsimp only) <;> exact (trivial))
  · rintro _ _
    dsimp only [RSt.at, List.cons_append, List.nil_append]
    repeat' (first | (refine OS.do rfl ?_; first | refine OD.auto rfl rfl ?_) | refine OS.nil ?_ | refine WS.seq ?_ | refine QS.seqN ?_ | refine WS.region ?_ | refine WS.ret ?_)
    exact QS.retRS (by rfl) fun st hs => ⟨rfl, hs⟩
set_option maxHeartbeats 2000000 in
theorem run98 (h1 : pr 98 = none) (h126 : pr 126 = none) (h72 : Has pr 72 Rel72) (h73 : Has pr 73 Rel73) (km kg : Nat) {mb tg : Nat} {m : MkR} {G : List (Int × Int)} {k : Nat} {q : List (Nat × AObj)} (hm : L[km]? = some (mb, m.obj tg G)) (hg : K[kg]? = some (tg, !G.isEmpty)) (hf : First pr m k q) (hq : ∀ p ∈ q, ∃ j, j ≠ km ∧ L[j]? = some p) (hk : 0 < k ∧ k ≤ 3000) (hG : G.length < 20000) (hok : okG k G) {a b : Int}
    (ha : 0 ≤ a ∧ a < 2 * ((k + G.length : Nat) : Int)) (hb : 0 ≤ b ∧ b < 2 * ((k + G.length : Nat) : Int)) (hS : SFa L K st) :
    CW (En pr) 98 [.ptr mb 0 0, .int .i64 a, .int .i64 b] st fun r st' => ∃ tg' : Nat, True ∧ r = .tup [.int .i64 (andG k G a b).1, .int .i64 0] ∧ SFa (L.set km (mb, m.obj tg' (andG k G a b).2)) (K.set kg (tg', !(andG k G a b).2.isEmpty)) st' := by
  have c126 : ∀ st, SFa L K st → CW (En pr) 126 [.ptr mb 0 0, .vs 1 .full ([a, b].map intAV)] st fun r st' => r = .bool true ∧ SFa L K st' := fun st hs => run126 h126 h72 h73 km hm hf (q_mem hq) hk.2 (by omega) hok ha hb hs
  have same : ∀ st' : St, SFa L K st' → SFa (L.set km (mb, m.obj tg G)) (K.set kg (tg, !G.isEmpty)) st' := fun st' hs => by
    rw [set_same hm, set_same hg]; exact hs
  rw [← andR_eq ha.1 hb.1]
  have fin : ∀ (v : Int) (st' : St), andR k G a b = (v, G) → SFa L K st' → ∃ tg' : Nat, True ∧ AV.tup [.int .i64 v, .int .i64 0] = .tup [.int .i64 (andR k G a b).1, .int .i64 0] ∧ SFa (L.set km (mb, m.obj tg' (andR k G a b).2)) (K.set kg (tg', !(andR k G a b).2.isEmpty)) st' := fun v st' e hs => ⟨tg, trivial, by rw [e], by rw [e]; exact same st' hs⟩
  have hta : IntKind.i64.wrap (a.tdiv 2) = a / 2 := by rw [Int.tdiv_eq_ediv_of_nonneg ha.1]; exact wrap64 (by omega) (by omega)
  have htb : IntKind.i64.wrap (b.tdiv 2) = b / 2 := by rw [Int.tdiv_eq_ediv_of_nonneg hb.1]; exact wrap64 (by omega) (by omega)
  refine CW.startS (N := 112) h1 rfl rfl hS ?_
  repeat' (first | (refine OS.do rfl ?_; first | refine OD.loadP (km + 1) rfl rfl hm rfl rfl rfl ?_ | refine OD.minI rfl rfl rfl ?_ | refine OD.maxI rfl rfl rfl ?_ | refine OD.auto rfl rfl ?_ | refine OD.len rfl rfl (fun _ => lenTy_accm rfl rfl) ?_ | refine OD.alloc rfl rfl rfl rfl (fun _ => ?_) | refine OD.storeW 0 rfl rfl rfl rfl (by first | rfl | exact net_ok _) rfl rfl rfl ?_ | (refine OD.callP (fun r => r = .bool true) rfl rfl rfl c126 (by rintro v st rfl; rfl) ?_; rintro v rfl) | refine OD.nilCheckP rfl rfl ?_) | refine OS.nil ?_ | refine OS.skip rfl rfl rfl ?_ | refine WS.seq ?_ | refine QS.seqN ?_ | refine WS.region ?_ | refine WS.condT rfl ?_ | refine WS.condF rfl ?_ | refine WS.condE rfl (fun _ => ?_) (fun _ => ?_) | refine WS.skip ?_ | refine WS.block ?_ | refine WS.ret ?_ | refine QS.seqR ?_ | refine QS.blockR ?_ | refine QS.blockN ?_ | refine WS.condNe rfl (fun _ => ?_) (fun _ => ?_) | ((fail_if_success (refine OS.do rfl ?_)); first | refine OS.splitD rfl rfl rfl (fun _ => ?_) (fun _ => ?_)))
  all_goals (simp only [hta, htb] at *)
  all_goals try (refine QS.retRS (by rfl) fun st hs => fin _ st ?_ hs; unfold andR; (repeat' split) <;> first | rfl | (exfalso; omega))
  · exfalso; omega
  rename_i n1 n2 n3 n4 n5 b8 n6
  have hR : andR k G a b = match findG (min a b, max a b) G 0 with | some i => (2 * ((k + i : Nat) : Int), G) | none => (2 * ((k + G.length : Nat) : Int), G ++ [(min a b, max a b)]) := by
    unfold andR
    rw [if_neg (by omega), if_neg (by omega), if_neg (by omega)]
    cases findG (min a b, max a b) G 0 <;> rfl
  have hx : 0 ≤ min a b ∧ min a b < 2 * ((k + G.length : Nat) : Int) := by omega
  have hy : 0 ≤ max a b ∧ max a b < 2 * ((k + G.length : Nat) : Int) := by omega
  refine WS.rangeX (A := Unit) (n := G.length) ⟨62, _, fun _ => [], fun _ => (b8, .row ty53.size [gateAV (min a b, max a b)]) :: L, fun _ => K, fun i _ => (min a b, max a b) ∉ G.take i⟩ (()) [0, 8, 60, 61] (by simp) ?_ ?_
  · rintro i _ hi hn
    try dsimp only at hn
    have hw : IntKind.i64.wrap (2 * IntKind.i64.wrap ((k : Int) + (i : Int))) = 2 * ((k + i : Nat) : Int) := by
      rw [wrap64 (n := (k : Int) + (i : Int)) (by omega) (by omega), wrap64 (by omega) (by omega)]; omega
    dsimp only [RSt.at, List.cons_append, List.nil_append]
    repeat' (first | (refine OS.do rfl ?_; first | refine OD.bin rfl rfl rfl (eq_pairB _ _) ?_ | refine OD.loadP (km + 2) rfl rfl hm rfl rfl rfl ?_ | refine OD.loadP 0 rfl rfl rfl rfl rfl rfl ?_ | refine OD.auto rfl rfl ?_ | refine OD.loadP 1 rfl rfl rfl rfl rfl rfl ?_ | refine OD.indexAddr rfl rfl rfl (indexAddrA_accn rfl rfl rfl rfl (by first | assumption | exact List.getElem?_eq_getElem (by omega))) ?_ | refine OD.alloc rfl rfl rfl rfl (fun _ => ?_) | refine OD.storeW 0 rfl rfl rfl rfl (by first | rfl | exact net_ok _) rfl rfl rfl ?_ | refine OD.nilCheckP rfl rfl ?_ | refine OD.callV rfl rfl rfl h73.eq (fun st hS => hf tg G hok (by omega) _ _ st hS (q_up (q_up (q_mem hq)))) (fun _ => rfl) ?_) | refine OS.nil ?_ | refine WS.seq ?_ | refine QS.seqN ?_ | refine WS.region ?_ | refine WS.condD rfl (fun _ => ?_) (fun _ => ?_) | refine WS.skip ?_ | refine WS.ret ?_ | refine QS.seqR ?_ | refine QS.rangeR ?_)
    · rename_i hc
      refine QS.retRS (by rfl) fun st hs => ?_
      have e : andR k G a b = (2 * ((k + i : Nat) : Int), G) := by
        rw [hR, findG_at (i := i) (by rw [List.getElem?_eq_getElem hi, hc]) hn, Nat.zero_add]
      obtain ⟨tg', q1, q2, q3⟩ := fin _ st e hs.tail.tail
      exact ⟨tg', q1, by rw [← q2]; show AV.tup [.int .i64 (IntKind.i64.wrap (2 * IntKind.i64.wrap ((k : Int) + (i : Int)))), .int .i64 0] = _; rw [hw], q3⟩
    · rename_i hc
      have hn' : (min a b, max a b) ∉ G.take (i + 1) := by
        rw [List.take_succ_eq_append_getElem hi, List.mem_append, List.mem_singleton]
        rintro (h | h)
        · exact hn h
        · exact hc h.symm
      exact QS.rangeX (()) (by (try dsimp only) <;> exact (hn')) (hL := by (try dsimp only); exact SubO.drop (SubO.refl _))
  · rintro _ hn
    try dsimp only at hn
    rw [List.take_of_length_le (Nat.le_refl _)] at hn
    have e : andR k G a b = (2 * ((k + G.length : Nat) : Int), G ++ [(min a b, max a b)]) := by rw [hR, findG_no hn]
    have hgm : G.map gateAV ++ [gateAV (min a b, max a b)] = (G ++ [(min a b, max a b)]).map gateAV := by rw [List.map_append]; rfl
    have hok' : okG k (G ++ [(min a b, max a b)]) := okG_snoc hok hx hy
    have hw2 : IntKind.i64.wrap (2 * IntKind.i64.wrap (IntKind.i64.wrap ((k : Int) + ((G ++ [(min a b, max a b)]).length : Int)) - 1)) = 2 * ((k + G.length : Nat) : Int) := by
      rw [List.length_append, List.length_singleton, wrap64 (n := (k : Int) + ((G.length + 1 : Nat) : Int)) (by omega) (by omega), wrap64 (n := (k : Int) + ((G.length + 1 : Nat) : Int) - 1) (by omega) (by omega), wrap64 (by omega) (by omega)]; omega
    dsimp only [RSt.at, List.cons_append, List.nil_append]
    repeat' (first | (refine OS.do rfl ?_; first | refine OD.loadP (km + 1) rfl rfl hm rfl rfl rfl ?_ | refine OD.auto rfl rfl ?_ | refine OD.len rfl rfl (fun _ => lenTy_accm rfl rfl) ?_ | refine OD.nilCheckP rfl rfl ?_) | refine OS.nil ?_ | refine WS.seq ?_ | refine QS.seqN ?_ | refine WS.region ?_ | refine WS.condD rfl (fun _ => ?_) (fun _ => ?_) | refine WS.skip ?_ | refine WS.ret ?_ | refine QS.seqR ?_)
    · exfalso; omega
    refine WS.draw rfl rfl ?_
    repeat' (first | (refine OS.do rfl ?_; first | refine OD.loadP (km + 1) rfl rfl hm rfl rfl rfl ?_ | refine OD.loadP 0 rfl rfl rfl rfl rfl rfl ?_ | refine OD.auto rfl rfl ?_ | refine OD.nilCheckP rfl rfl ?_ | (refine OD.append kg (xs := G.map gateAV) (ys := [gateAV (min a b, max a b)]) rfl rfl rfl rfl (by rw [List.isEmpty_map]; exact hg) rfl rfl rfl rfl rfl rfl (.inr ⟨⟨_, rfl⟩, rfl⟩) (fun _ => rfl) rfl rfl (roomB rfl (by simp only [List.length_map, List.length_singleton]; omega)) (fun t' => ?_); rw [hgm]) | (refine OD.storeG (km + 1) rfl rfl rfl hm rfl acc_ok1 (by rw [acc_cells]; rfl) (by rw [acc_cells]; rfl) ?_; rw [st_gR])) | refine OS.nil ?_ | refine WS.seq ?_ | refine QS.seqN ?_)
    have hm2 : (((b8, AObj.row ty53.size [gateAV (min a b, max a b)]) :: L).set (km + 1) (mb, m.obj t' (G ++ [(min a b, max a b)])))[km + 1]? = some (mb, m.obj t' (G ++ [(min a b, max a b)])) := by
      rw [List.getElem?_set, if_pos rfl, if_pos (by have := (List.getElem?_eq_some_iff.1 hm).1; simp; omega)]
    have hq2 : ∀ p ∈ q, p ∈ ((b8, AObj.row ty53.size [gateAV (min a b, max a b)]) :: L).set (km + 1) (mb, m.obj t' (G ++ [(min a b, max a b)])) := q_up (q_set hq)
    refine WS.drawY 11 [] (K := K.set kg (t', !((G ++ [(min a b, max a b)]).map gateAV).isEmpty)) rfl rfl rfl rfl ?_; (repeat' (first | refine SegY.nil ?_ | refine SegY.loadP (km + 1) rfl rfl rfl hm2 rfl rfl rfl ?_ | refine SegY.nilCheckP rfl rfl rfl ?_ | refine SegY.len rfl rfl rfl (fun _ => lenTy_accm rfl rfl) ?_ | refine SegY.auto rfl rfl rfl rfl ?_ | refine SegY.loadP 0 rfl rfl rfl rfl rfl rfl rfl ?_ | refine SegY.loadP 1 rfl rfl rfl rfl rfl rfl rfl ?_ | refine SegY.loadP 2 rfl rfl rfl rfl rfl rfl rfl ?_ | refine SegY.indexAddr rfl rfl rfl rfl rfl ?_ | refine SegY.callW (D := Unit) (fun _ => True) (fun _ => .int .i64 (k : Int)) (fun _ => _) (fun _ => _) rfl rfl rfl rfl (fun st hS => CW.prim h73.eq (hf t' _ hok' (by simp; omega) _ _ st hS hq2) ⟨(), st, trivial, rfl, hS⟩) (fun _ _ => ?_)))
    dsimp only [RSt.at, List.cons_append, List.nil_append]
    repeat' (first | (refine OS.do rfl ?_; first | refine OD.auto rfl rfl ?_) | refine OS.nil ?_ | refine QS.seqN ?_ | refine WS.ret ?_)
    refine QS.retRS (by rfl) fun st hs => ⟨t', trivial, ?_, ?_⟩
    · rw [e]; show AV.tup [.int .i64 (IntKind.i64.wrap (2 * IntKind.i64.wrap (IntKind.i64.wrap ((k : Int) + ((G ++ [(min a b, max a b)]).length : Int)) - 1))), .int .i64 0] = _; rw [hw2]
    · rw [e]; rw [List.isEmpty_map] at hs; exact SFa.tail (p := (b8, AObj.row ty53.size [gateAV (min a b, max a b)])) hs
end
end Go.OptEnv

namespace Go.Abs
theorem WS.objs {E : Env} {fid N : Nat} {c : Code} {l : List (Nat × AV)} {L L' : List (Nat × AObj)} {K : List (Nat × Bool)} {Q : AExit → TM → St → Prop} (h2 : SubO L L') (h : WS E fid N c l L' K Q) : WS E fid N c l L K Q := fun tm st hF => h tm st (hF.sub (fun _ _ h => h) h2 (.refl _))
end Go.Abs
namespace Go.OptEnv
open Go Go.Proofs Go.Abs Go.RowKit Go.NetM
set_option maxRecDepth 10000
def ownA (n : GNet) (g : (Bool × Nat) × (Bool × Nat)) (rb ob : Nat) : AV := .agg [growA g.1.1 g.1.2 1 (n.ins.xs.map strAV), .sl 3 rb 0 n.regs.xs.length, growA g.2.1 g.2.2 2 (n.gates.xs.map gateAV), .sl 2 ob 0 n.outs.xs.length]
theorem grow_cell {b : Bool} {t sz : Nat} {xs : List AV} : (growA b t sz xs).cellOk = true := rfl
theorem ownA_ok (n : GNet) (g : (Bool × Nat) × (Bool × Nat)) (rb ob : Nat) : (ownA n g rb ob).ok = true := ok4 grow_cell rfl grow_cell rfl
theorem bld130 {pr : Prims} {a b c d : AV} (ha : a.cellOk = true) (hb : b.cellOk = true) (hc : c.cellOk = true) (hd : d.cellOk = true) : buildA (En pr) 130 [(0, .agg [a, b, c, d])] = some (.agg [a, b, c, d]) := by
  have e : buildA (En pr) 130 [(0, .agg [a, b, c, d])] = (fillA (fieldPlaces (En pr) [(27, 0)]) [.nilsl, .nilsl, .nilsl, .nilsl] [(0, .agg [a, b, c, d])]).map .agg := rfl
  have p0 : fieldPlaces (En pr) [(27, 0)] 0 = some (0, 4) := rfl
  rw [e]
  simp [fillA, p0, AV.ok, AV.cells, ha, hb, hc, hd]
theorem view_r {st : St} {i g o : AV} {rb nr : Nat} {R : List GReg} (hi : AV.free i = true) (hg : AV.free g = true) (ho : AV.free o = true) (hn : nr = R.length) (hS : st.get rb = some (.row 3 (R.map regAV))) :
    mapO (viewA st 9) [.agg [i, .sl 3 rb 0 nr, g, o]] = some [.agg [AV.plain i, (GSl.some R).av 3 regAV, AV.plain g, AV.plain o]] := by
  subst hn
  have hf : AV.free (.agg [i, .sl 3 rb 0 R.length, g, o]) = false := by simp [AV.free, AV.freeL]
  have hf2 : AV.free (.sl 3 rb 0 R.length) = false := rfl
  have e1 : viewA st 8 (.sl 3 rb 0 R.length) = some ((GSl.some R).av 3 regAV) := by
    simp only [viewA, hf2, hS, Bool.false_eq_true, if_false]
    rw [if_pos ⟨trivial, by simp⟩, List.drop_zero, List.take_of_length_le (by simp)]
    have : mapO (viewA st 7) (R.map regAV) = some (R.map regAV) := by
      have h := mapO_free (st := st) 6 (xs := R.map regAV) (freeL_map reg_free R)
      rw [plainL_map reg_plain] at h
      exact h
    simp only [viewA] at this
    rw [this]; rfl
  have e0 : viewA st 9 (.agg [i, .sl 3 rb 0 R.length, g, o]) = (mapO (viewA st 8) [i, .sl 3 rb 0 R.length, g, o]).map .agg := by
    show (if AV.free _ then _ else _) = _
    rw [hf]; rfl
  simp only [mapO, e0, e1, viewA_free 7 hi, viewA_free 7 hg, viewA_free 7 ho]
  rfl
theorem freeze_r {L : List (Nat × AObj)} {st : St} {i g o : AV} {kr rb nr : Nat} {R : List GReg} (hi : AV.free i = true) (hg : AV.free g = true) (ho : AV.free o = true) (hn : nr = R.length) (hS : SFa L [] st) (hr : L[kr]? = some (rb, .row 3 (R.map regAV))) :
    ∃ t st2, freezeA st (.tup [.agg [i, .sl 3 rb 0 nr, g, o], .int .i64 0]) = some (.tup [.agg [i, .vs 3 (.tok t) (R.map regAV), g, o], .int .i64 0], st2) := by
  subst hn
  have hgt := (hS.obj kr rb _ hr).1
  have e : freezeC st (.sl 3 rb 0 R.length) = some (.vs 3 (.tok st.next) (R.map regAV), (st.drop rb).newTok) := by
    simp only [freezeC, hgt]
    rw [if_pos ⟨trivial, by simp⟩, if_pos (by simp), List.drop_zero, List.take_of_length_le (by simp)]
  refine ⟨st.next, (st.drop rb).newTok, ?_⟩
  simp only [freezeA, freezeM, freezeB, freezeL, freezeC_free hi, e, freezeC_free hg, freezeC_free ho]
  rfl
structure SameC (a b : GNet) : Prop where
  ins : a.ins.xs = b.ins.xs
  regs : a.regs.xs = b.regs.xs
  gates : a.gates.xs = b.gates.xs
  outs : a.outs.xs = b.outs.xs
theorem SameC.valid {a b : GNet} (h : SameC a b) : validM a = validM b := by
  obtain ⟨h1, h2, h3, h4⟩ := h
  unfold validM GNet.nodes GNet.first
  rw [h1, h2, h3, h4]
theorem SameC.fits {a b : GNet} (h : SameC a b) (hb : FitsN b) : FitsN a := by
  obtain ⟨h1, h2, h3, h4⟩ := h
  obtain ⟨f1, f2, f3, f4, m1, m2, m3, g1, g2, g3⟩ := hb
  exact ⟨by rw [h1]; exact f1, by rw [h2]; exact f2, by rw [h3]; exact f3, by rw [h4]; exact f4, by rw [h1]; exact m1, by rw [h2]; exact m2, by rw [h4]; exact m3, by rw [h3]; exact g1, by rw [h2]; exact g2, by rw [h4]; exact g3⟩
theorem SameC.k {a b : GNet} (h : SameC a b) : a.kN = b.kN := by unfold GNet.kN; rw [h.ins, h.regs]
theorem SameC.share {a b : GNet} (h : SameC a b) : shareS a = shareS b := by unfold shareS; rw [h.k, h.gates]
theorem SameC.lay {a b : GNet} (h : SameC a b) (s : List Int × List (Int × Int)) : SameC (layN a s) (layN b s) := by
  obtain ⟨a1, a2, a3, a4⟩ := lay_xs (n := a) (s := s)
  obtain ⟨b1, b2, b3, b4⟩ := lay_xs (n := b) (s := s)
  exact ⟨by rw [a1, b1, h.ins], by rw [a2, b2, h.regs], by rw [a3, b3], by rw [a4, b4, h.outs]⟩
def layR (n : GNet) (s : List Int × List (Int × Int)) : GNet := ⟨GSl.some n.ins.xs, GSl.some (n.regs.xs.map (withNext s.1)), GSl.of s.2, GSl.of (n.outs.xs.map (withLit s.1))⟩
theorem layR_same (n : GNet) (s : List Int × List (Int × Int)) : SameC (layR n s) (layN n s) := by
  obtain ⟨b1, b2, b3, b4⟩ := lay_xs (n := n) (s := s)
  exact ⟨b1.symm, b2.symm, by rw [b3]; exact gof_xs _, by rw [b4]; exact gof_xs _⟩
def regP (lits : List Int) (R : List GReg) (i : Nat) : List GReg := (R.take i).map (withNext lits) ++ R.drop i
theorem regP_len {lits : List Int} {P : List GReg} {i : Nat} (h : i ≤ P.length) : (regP lits P i).length = P.length := by
  simp only [regP, List.length_append, List.length_map, List.length_take, List.length_drop]; omega
theorem regP_get {lits : List Int} {P : List GReg} {i : Nat} (h : i < P.length) : (regP lits P i)[i]? = some P[i] := by
  unfold regP
  rw [List.getElem?_append_right (by simp only [List.length_map, List.length_take]; omega)]
  rw [show i - ((P.take i).map (withNext lits)).length = 0 by simp only [List.length_map, List.length_take]; omega, List.drop_eq_getElem_cons h]; rfl
theorem regP_succ {lits : List Int} {P : List GReg} {i : Nat} (h : i < P.length) : regP lits P (i + 1) = (regP lits P i).set i (withNext lits P[i]) := by
  unfold regP
  rw [map_take_succ h, List.set_append_right _ _ (by simp only [List.length_map, List.length_take]; omega)]
  rw [show i - ((P.take i).map (withNext lits)).length = 0 by simp only [List.length_map, List.length_take]; omega, List.drop_eq_getElem_cons h]
  simp only [List.append_assoc, List.cons_append, List.nil_append, List.set_cons_zero]
theorem regP_zero {lits : List Int} {P : List GReg} : regP lits P 0 = P := by simp [regP]
theorem regP_all {lits : List Int} {P : List GReg} : regP lits P P.length = P.map (withNext lits) := by simp [regP]
def mkW (n : GNet) (g : Bool × Nat) (rb to_ : Nat) (P : List GPin) : MkR := ⟨growA g.1 g.2 1 (n.ins.xs.map strAV), .sl 3 rb 0 n.regs.xs.length, accA to_ 2 (P.map pinAV)⟩
theorem mkW_first {pr : Prims} (h73 : Has pr 73 Rel73) {n : GNet} (hn : FitsN n) (hl : n.ins.xs.length ≤ 1000 ∧ n.regs.xs.length ≤ 1000) (g : Bool × Nat) (rb : Nat) : First pr (mkW n g rb 0 []) n.kN [(rb, .row 3 (n.regs.xs.map regAV))] := fun tg G hok hG L K st hS hq => by
  have hg := hS.mem (hq _ (List.mem_singleton.2 rfl))
  have hv := view_r (st := st) (i := growA g.1 g.2 1 (n.ins.xs.map strAV)) (g := accA tg 2 (G.map gateAV)) (o := accA 0 2 (([] : List GPin).map pinAV)) (nr := n.regs.xs.length) (R := n.regs.xs) (free_grow str_free) (free_acc gate_free) (free_acc pin_free) rfl hg
  rw [plain_grow str_plain, plain_acc gate_plain, plain_acc pin_plain] at hv
  obtain ⟨f1, f2, f3, f4, m1, m2, m3, g1, g2, g3⟩ := hn
  have hk : n.kN ≤ 3000 := by unfold GNet.kN; omega
  refine h73.view (r := .int .i64 (n.kN : Int)) hv ⟨⟨GSl.some n.ins.xs, GSl.some n.regs.xs, GSl.of G, GSl.of []⟩, ⟨f1, f2, by rw [gof_xs]; omega, by rw [gof_xs]; simp, m1, m2, by rw [gof_xs]; simp, ?_, g2, by rw [gof_xs]; simp⟩, rfl, ?_⟩ rfl
  · rw [gof_xs]; intro x hx
    obtain ⟨i, hi, rfl⟩ := List.mem_iff_getElem.1 hx
    obtain ⟨a, b⟩ := hok i hi
    exact ⟨⟨by omega, by omega⟩, by omega, by omega⟩
  · show AV.int .i64 (n.kN : Int) = .int .i64 (1 + (n.ins.xs.length : Int) + (n.regs.xs.length : Int))
    congr 1
theorem st_oW {m : MkR} {t' tg : Nat} {P' : List GPin} {G : List (Int × Int)} : AObj.row 4 ([m.av tg G].set 0 (.agg ([m.a, m.r, accA tg 2 (G.map gateAV), m.o].take 3 ++ (accA t' 2 (P'.map pinAV)).cells ++ [m.a, m.r, accA tg 2 (G.map gateAV), m.o].drop (3 + (accA t' 2 (P'.map pinAV)).cells.length)))) = MkR.obj ⟨m.a, m.r, accA t' 2 (P'.map pinAV)⟩ tg G := by
  rw [acc_cells]; rfl
def Rel52 : Rel := RelF FitsN (fun n => [netAV n]) fun n => resAV n (layR n (shareS n))
attribute [local irreducible] WS QS OS OD Abs.Sub SubO SubK CW GSl.av accA growA
section
variable {pr : Prims} {L : List (Nat × AObj)} {K : List (Nat × Bool)} {st : St}
set_option maxHeartbeats 1000000 in
theorem run46n (h1 : pr 46 = none) (n : GNet) (f1 : n.ins.xs.length ≤ 1000000) (f2 : n.regs.xs.length ≤ 1000000) (f3 : n.gates.xs.length ≤ 1000000) (f4 : n.outs.xs.length ≤ 1000000) (hS : SFa L [] st) : CW (En pr) 46 [netAV n] st fun r st' => ∃ d : ((Bool × Nat) × (Bool × Nat)) × Nat × Nat, True ∧ r = ownA n d.1 d.2.1 d.2.2 ∧ SFa ((d.2.2, .row 2 (n.outs.xs.map pinAV)) :: (d.2.1, .row 3 (n.regs.xs.map regAV)) :: L) [] st' := by
  refine CW.startS (N := 20) h1 rfl rfl hS ?_
  repeat' (first | (refine OS.do rfl ?_; first | refine OD.box rfl rfl rfl rfl (net_ok _) rfl (fun b1 => ?_) | refine OD.alloc rfl rfl rfl rfl (fun _ => ?_)) | refine OS.nil ?_ | refine WS.seq ?_ | refine QS.seqN ?_ | refine WS.region ?_)
  refine WS.drawT 16 rfl rfl rfl rfl ?_; (repeat' (first | refine SegT.nil ?_ | refine SegT.auto rfl rfl rfl rfl ?_ | refine SegT.loadP 0 rfl rfl rfl rfl rfl rfl rfl ?_ | refine SegT.loadP 1 rfl rfl rfl rfl rfl rfl rfl ?_ | refine SegT.loadP 2 rfl rfl rfl rfl rfl rfl rfl ?_ | refine SegT.len rfl rfl rfl (fun _ => lenTy_av rfl rfl) ?_ | refine SegT.len rfl rfl rfl (fun _ => rfl) ?_ | refine SegT.indexAddr rfl rfl rfl rfl rfl ?_ | refine SegT.skip rfl rfl rfl ?_ | refine SegT.appendG rfl rfl rfl rfl rfl rfl rfl rfl rfl rfl rfl (.inr ⟨⟨_, rfl⟩, isStr_gsl⟩) (fun st => elemsA_gsl st) (okElems_map (f := strAV) (n := 1) rfl (fun _ => ⟨rfl, rfl⟩) _) szOf_ok (roomB rfl (by have := f1; simp only [List.length_nil, List.length_map]; omega)) (fun gb1 gt1 => ?_) | refine SegT.appendO rfl rfl rfl rfl rfl rfl rfl rfl rfl rfl rfl (.inr ⟨⟨_, rfl⟩, isStr_gsl⟩) (fun st => elemsA_gsl st) (okElems_map (f := regAV) (n := 3) rfl (fun _ => ⟨rfl, rfl⟩) _) szOf_ok (roomB rfl (by have := f2; simp only [List.length_nil, List.length_map]; omega)) (fun b => ?_) | refine SegT.appendG rfl rfl rfl rfl rfl rfl rfl rfl rfl rfl rfl (.inr ⟨⟨_, rfl⟩, isStr_gsl⟩) (fun st => elemsA_gsl st) (okElems_map (f := gateAV) (n := 2) rfl (fun _ => ⟨rfl, rfl⟩) _) szOf_ok (roomB rfl (by have := f3; simp only [List.length_nil, List.length_map]; omega)) (fun gb2 gt2 => ?_) | refine SegT.appendO rfl rfl rfl rfl rfl rfl rfl rfl rfl rfl rfl (.inr ⟨⟨_, rfl⟩, isStr_gsl⟩) (fun st => elemsA_gsl st) (okElems_map (f := pinAV) (n := 2) rfl (fun _ => ⟨rfl, rfl⟩) _) szOf_ok (roomB rfl (by have := f4; simp only [List.length_nil, List.length_map]; omega)) (fun ob => ?_)))
  dsimp only [RSt.at, List.cons_append, List.nil_append]
  repeat' (first | (refine OS.do rfl ?_; first | refine OD.build rfl rfl (bld4 grow_cell rfl grow_cell rfl) ?_ | refine OD.storeW 2 rfl rfl rfl rfl (ok4 grow_cell rfl grow_cell rfl) rfl rfl rfl ?_) | refine OS.nil ?_ | refine QS.seqN ?_ | refine WS.ret ?_)
  refine QS.retO (ResO.cell 2 (by rfl) (by rfl) (by rfl) (by rfl) (by rfl) .nil) fun st hs => ⟨(((gb1, gt1), (gb2, gt2)), b, ob), trivial, ?_, ?_⟩
  · unfold ownA
    have e : (n.regs.xs.map regAV).length = n.regs.xs.length := List.length_map _
    have e2 : (n.outs.xs.map pinAV).length = n.outs.xs.length := List.length_map _
    dsimp only
    rw [← e, ← e2]; rfl
  · exact hs.subO (.keep (.keep (.drop (.drop (.refl _)))))
theorem use99a (h : Has pr 99 Rel99) {k : Int} {t : Nat} {v : List Int} (hk : 0 ≤ k ∧ k < 4611686018427387904 ∧ k / 2 < v.length) (hv : 0 ≤ v.getD (k / 2).toNat 0 ∧ v.getD (k / 2).toNat 0 < 4611686018427387904) (st : St) : primOf Rel99 [accA t 1 (v.map intAV), .int .i64 k] st = some (.int .i64 (atL v k), st) :=
  h.use (r := .int .i64 (atL v k)) ⟨(GSl.of v, k), by dsimp only; rw [gof_xs]; exact ⟨hk, hv⟩, by simp [AV.plainL, plain_acc int_plain, AV.plain], by dsimp only; rw [gof_xs]⟩ st
set_option maxHeartbeats 4000000 in
theorem run52 (h1 : pr 52 = none) (h31 : Has pr 31 Rel31) (h46 : pr 46 = none) (h99 : Has pr 99 Rel99) (h98 : pr 98 = none) (h126 : pr 126 = none) (h72 : Has pr 72 Rel72) (h73 : Has pr 73 Rel73) (n : GNet) (hn : FitsN n) (st : St) :
    CW (En pr) 52 [netAV n] st fun r st' => ∃ r' st2, freezeA st' r = some (r', st2) ∧ AV.plain r' = resAV n (layR n (shareS n)) ∧ AV.free r' = true := by
  have u31 := use31 h31 hn
  rcases (Bool.eq_false_or_eq_true (validM n)).symm with hV | hV
  · rw [hV] at u31
    refine CW.start (N := 119) h1 rfl rfl ?_
    repeat' (first | (refine OS.do rfl ?_; first | refine OD.box rfl rfl rfl rfl (net_ok _) rfl (fun b1 => ?_) | refine OD.auto rfl rfl ?_ | refine OD.loadP 1 rfl rfl rfl rfl rfl rfl ?_ | refine OD.alloc rfl rfl rfl rfl (fun _ => ?_) | refine OD.storeW 0 rfl rfl rfl rfl (by first | rfl | exact net_ok _) rfl rfl rfl ?_ | refine OD.call rfl rfl rfl h31.eq u31 (fun _ => rfl) ?_) | refine OS.nil ?_ | refine WS.seq ?_ | refine QS.seqN ?_ | refine WS.region ?_ | refine WS.condT rfl ?_ | refine WS.ret ?_ | refine QS.seqR ?_)
    refine QS.retO (ResO.cell 0 (by rfl) (by rfl) (by rfl) (by rfl) (by rfl) (.tmp (by rfl) .nil)) fun st hs => ⟨_, st, freeze_free rfl, ?_, rfl⟩
    rw [res_no hV]; rfl
  rw [hV] at u31
  obtain ⟨f1, f2, f3, f4⟩ := valid_len hV
  obtain ⟨hgo, hrn, hol⟩ := valid_lits hV
  have hk1 : 1 ≤ n.kN ∧ n.kN ≤ 2001 := by unfold GNet.kN; omega
  have hfst : n.first = (n.kN : Int) := by unfold GNet.first GNet.kN; omega
  have u73 := use73 h73 hn
  rw [hfst] at u73
  refine CW.start (N := 119) h1 rfl rfl ?_
  repeat' (first | (refine OS.do rfl ?_; first | refine OD.box rfl rfl rfl rfl (net_ok _) rfl (fun b1 => ?_) | refine OD.box rfl rfl rfl rfl (ownA_ok n g rb ob) rfl (fun mb => ?_) | refine OD.auto rfl rfl ?_ | refine OD.loadP 1 rfl rfl rfl rfl rfl rfl ?_ | refine OD.alloc rfl rfl rfl rfl (fun _ => ?_) | refine OD.call rfl rfl rfl h31.eq u31 (fun _ => rfl) ?_ | (refine OD.callR (D := ((Bool × Nat) × (Bool × Nat)) × Nat × Nat) (fun _ => True) (fun d => ownA n d.1 d.2.1 d.2.2) (fun d => (d.2.2, .row 2 (n.outs.xs.map pinAV)) :: (d.2.1, .row 3 (n.regs.xs.map regAV)) :: _) (fun _ => []) rfl rfl rfl rfl (fun st hS => run46n h46 n (by omega) (by omega) (by omega) (by omega) hS) ?_; rintro ⟨g, rb, ob⟩ _) | refine OD.build rfl rfl (bld130 grow_cell rfl grow_cell rfl) ?_ | refine OD.nilCheckP rfl rfl ?_ | refine OD.storeG 0 rfl rfl rfl rfl rfl rfl rfl rfl ?_) | refine OS.nil ?_ | refine WS.seq ?_ | refine QS.seqN ?_ | refine WS.region ?_ | refine WS.condF rfl ?_ | refine WS.skip ?_ | refine WS.block ?_)
  rename_i b2 _
  dsimp only [List.set_cons_zero]
  have hmo : AObj.row ty130.size [AV.agg [growA g.1.1 g.1.2 1 (n.ins.xs.map strAV), .sl 3 rb 0 n.regs.xs.length, .nilsl, .nilsl]] = (mkW n g.1 rb 0 []).obj 0 [] := by
    unfold MkR.obj MkR.av mkW
    rw [List.map_nil, List.map_nil, acc_nil]; rfl
  refine WS.newK (WS.newK (WS.newK ?_))
  refine WS.objs (L' := [(mb, (mkW n g.1 rb 0 []).obj 0 []), (ob, .row 2 (n.outs.xs.map pinAV)), (rb, .row 3 (n.regs.xs.map regAV)), (b2, .row ty27.size [ty27.zeroV]), (b1, .row ty27.size [netAV n])]) (by rw [← hmo]; exact SubO.refl _) ?_
  refine WS.loopX (D := Nat × Nat) [1, 2, 4] (fun d => [(5, accA d.1 1 ((idL d.2).map intAV)), (6, .int .i64 (d.2 : Int))]) (fun _ => [(mb, (mkW n g.1 rb 0 []).obj 0 []), (ob, .row 2 (n.outs.xs.map pinAV)), (rb, .row 3 (n.regs.xs.map regAV)), (b2, .row ty27.size [ty27.zeroV]), (b1, .row ty27.size [netAV n])]) (fun d => [(d.1, !(idL d.2).isEmpty), (0, false), (0, false)]) (fun d => d.2 ≤ n.kN) (fun d => n.kN - d.2) ((0, 0)) (Nat.zero_le _) ?_ (hm := by (try dsimp only); repeat' (first | exact Sub.nil _ | refine Sub.cons (congrArg some (accA_nil2 _ _).symm) ?_ | refine Sub.cons (congrArg (fun z => some (AV.int .i64 z)) (wrap_succ (by omega))) ?_ | refine Sub.cons rfl ?_))
  rintro ⟨t, j⟩ hj
  try dsimp only at hj
  have hw : IntKind.i64.wrap (2 * (j : Int)) = 2 * (j : Int) := wrap64 (by omega) (by omega)
  have hgm : (idL j).map intAV ++ [.int .i64 (2 * (j : Int))] = (idL (j + 1)).map intAV := by rw [idL_succ, List.map_append]; rfl
  dsimp only [RSt.at, List.cons_append, List.nil_append]
  repeat' (first | (refine OS.do rfl ?_; first | refine OD.auto rfl rfl ?_ | refine OD.len rfl rfl (fun _ => lenTy_av rfl rfl) ?_ | refine OD.loadP 4 rfl rfl rfl rfl rfl rfl ?_ | refine OD.call rfl rfl rfl h73.eq u73 (fun _ => rfl) ?_ | (rw [hw]; refine OD.append 0 (xs := (idL j).map intAV) (ys := [.int .i64 (2 * (j : Int))]) rfl rfl rfl rfl (by rw [List.isEmpty_map]; rfl) rfl rfl rfl rfl rfl rfl (.inr ⟨⟨_, rfl⟩, rfl⟩) (fun _ => rfl) rfl rfl (roomB rfl (by simp only [List.length_map, List.length_singleton, idL_len]; omega)) (fun t' => ?_))) | refine OS.nil ?_ | refine WS.seq ?_ | refine QS.seqN ?_ | refine WS.region ?_ | refine WS.condD rfl (fun _ => ?_) (fun _ => ?_) | refine WS.skip ?_ | refine WS.block ?_ | refine QS.blockN ?_ | refine WS.exit ?_ | refine QS.seqE ?_ | refine QS.blockH ?_ | refine QS.loopE ?_)
  · rename_i hc
    rw [hgm, List.isEmpty_map]
    exact QS.loopX ((t', j + 1)) (by exact (by dsimp only; omega)) (by exact (by dsimp only; omega))
  rename_i hc
  have hjk : j = n.kN := by omega
  subst hjk
  refine WS.rangeX (A := (Nat × List Int) × Nat × List (Int × Int)) (n := n.gates.xs.length) ⟨44, _, fun a => [(5, accA a.1.1 1 (a.1.2.map intAV))], fun a => [(mb, (mkW n g.1 rb 0 []).obj a.2.1 a.2.2), (ob, .row 2 (n.outs.xs.map pinAV)), (rb, .row 3 (n.regs.xs.map regAV)), (b2, .row ty27.size [ty27.zeroV]), (b1, .row ty27.size [netAV n])], fun a => [(a.1.1, !a.1.2.isEmpty), (a.2.1, !a.2.2.isEmpty), (0, false)], fun i a => (a.1.2, a.2.2) = shareM n.kN (idL n.kN) (n.gates.xs.take i)⟩ (((t, idL n.kN), 0, [])) [1, 2, 4, 42, 43] (rfl) ?_ ?_
  · rintro i ⟨⟨t, R⟩, tg, G⟩ hi hA
    try dsimp only at hA
    have hs := share_sh n (Nat.le_of_lt hi)
    rw [← hA] at hs
    have hRl := hs.len
    have hGl := hs.gates
    try dsimp only at hRl hGl
    obtain ⟨⟨g1, g2⟩, g3, g4⟩ := hgo i hi
    have r1 := hs.range (n.gates.xs[i].1 / 2).toNat
    have r2 := hs.range (n.gates.xs[i].2 / 2).toNat
    have a1 := hs.at_ n.gates.xs[i].1
    have a2 := hs.at_ n.gates.xs[i].2
    try dsimp only at r1 r2 a1 a2
    have u1 := use99a h99 (t := t) (v := R) (k := n.gates.xs[i].1) (by omega) (by omega)
    have u2 := use99a h99 (t := t) (v := R) (k := n.gates.xs[i].2) (by omega) (by omega)
    have c98 := fun {L' : List (Nat × AObj)} {K : List (Nat × Bool)} (km kg : Nat) (hm : L'[km]? = some (mb, (mkW n g.1 rb 0 []).obj tg G)) (hg : K[kg]? = some (tg, !G.isEmpty)) (hq : ∀ p ∈ [(rb, AObj.row 3 (n.regs.xs.map regAV))], ∃ j, j ≠ km ∧ L'[j]? = some p) (st : St) (hS : SFa L' K st) => run98 h98 h126 h72 h73 km kg hm hg (mkW_first h73 hn ⟨f1, f2⟩ g.1 rb) hq ⟨by omega, by omega⟩ (by omega) hs.ok a1 a2 hS
    obtain ⟨⟨lit, G'⟩, hAnd⟩ : ∃ res, res = andG n.kN G (atL R n.gates.xs[i].1) (atL R n.gates.xs[i].2) := ⟨_, rfl⟩
    simp only [← hAnd] at c98
    have hstep : (R ++ [lit], G') = stepM n.kN (R, G) n.gates.xs[i] := by unfold stepM; rw [← hAnd]
    have hgm : R.map intAV ++ [.int .i64 lit] = (R ++ [lit]).map intAV := by rw [List.map_append]; rfl
    dsimp only [RSt.at, List.cons_append, List.nil_append]
    repeat' (first | (refine OS.do rfl ?_; first | refine OD.auto rfl rfl ?_ | refine OD.indexAddr rfl rfl rfl (indexAddrA_nat rfl rfl rfl rfl (by first | assumption | exact List.getElem?_eq_getElem (by omega))) ?_ | refine OD.alloc rfl rfl rfl rfl (fun _ => ?_) | refine OD.storeW 0 rfl rfl rfl rfl (by first | rfl | exact net_ok _) rfl rfl rfl ?_) | refine OS.nil ?_ | refine WS.seq ?_ | refine QS.seqN ?_ | refine WS.region ?_)
    refine WS.drawY 8 [] (K := [(t, !R.isEmpty), (tg, !G.isEmpty), (0, false)]) rfl rfl rfl rfl ?_; (repeat' (first | refine SegY.nil ?_ | refine SegY.auto rfl rfl rfl rfl ?_ | refine SegY.loadP 0 rfl rfl rfl rfl rfl rfl rfl ?_ | refine SegY.loadP 1 rfl rfl rfl rfl rfl rfl rfl ?_ | refine SegY.loadP 2 rfl rfl rfl rfl rfl rfl rfl ?_ | refine SegY.indexAddr rfl rfl rfl rfl rfl ?_ | refine SegY.call rfl rfl rfl rfl h99.eq u1 (fun _ => rfl) ?_))
    dsimp only [RSt.at, List.cons_append, List.nil_append]
    repeat' (first | (refine OS.do rfl ?_; first | refine OD.auto rfl rfl ?_ | refine OD.call rfl rfl rfl h99.eq u2 (fun _ => rfl) ?_ | (refine OD.callM (D := Nat) (fun _ => True) (fun _ => .tup [.int .i64 lit, .int .i64 0]) _ _ rfl rfl rfl (c98 1 1 rfl rfl (fun p hp => ⟨3, by decide, by rw [List.mem_singleton.1 hp]; rfl⟩)) (fun _ _ _ => rfl) ?_; rintro tg' _) | refine OD.append 0 (xs := R.map intAV) (ys := [.int .i64 lit]) rfl rfl rfl rfl (by rw [List.isEmpty_map]; rfl) rfl rfl rfl rfl rfl rfl (.inr ⟨⟨_, rfl⟩, rfl⟩) (fun _ => rfl) rfl rfl (roomB rfl (by simp only [List.length_map, List.length_singleton]; omega)) (fun t' => ?_)) | refine OS.nil ?_ | refine QS.seqN ?_ | refine WS.region ?_)
    rw [hgm, List.isEmpty_map]
    exact QS.rangeX (((t', R ++ [lit]), tg', G')) (by (try dsimp only) <;> exact (by rw [hstep, hA, shareM_succ hi])) (hL := by (try dsimp only); exact SubO.drop (SubO.refl _))
  rintro ⟨⟨t, R⟩, tg, G⟩ hA
  try dsimp only at hA
  rw [List.take_of_length_le (Nat.le_refl _)] at hA
  have hs := share_sh n (Nat.le_refl n.gates.xs.length)
  rw [List.take_length, ← hA] at hs
  have hRl := hs.len
  try dsimp only at hRl
  have hGl := hs.gates
  try dsimp only at hGl
  dsimp only [RSt.at, List.cons_append, List.nil_append]
  repeat' (first | (refine OS.do rfl ?_; first | refine OD.auto rfl rfl ?_ | refine OD.len rfl rfl (fun _ => lenTy_av rfl rfl) ?_ | refine OD.loadP 4 rfl rfl rfl rfl rfl rfl ?_) | refine OS.nil ?_ | refine WS.seq ?_ | refine QS.seqN ?_ | refine WS.region ?_ | refine WS.block ?_)
  refine WS.rangeX (A := List GReg) (n := n.regs.xs.length) ⟨69, _, fun _ => [], fun Q => [(mb, (mkW n g.1 rb 0 []).obj tg G), (ob, .row 2 (n.outs.xs.map pinAV)), (rb, .row 3 (Q.map regAV)), (b2, .row ty27.size [ty27.zeroV]), (b1, .row ty27.size [netAV n])], fun _ => [(t, !R.isEmpty), (tg, !G.isEmpty), (0, false)], fun i Q => Q = regP R n.regs.xs i⟩ (n.regs.xs) [1, 2, 4, 5, 68] (regP_zero.symm) ?_ ?_
  · rintro i Q hi hQ
    try dsimp only at hQ
    have hrn' := hrn _ (List.getElem_mem hi)
    have r1 := hs.range (n.regs.xs[i].next / 2).toNat
    try dsimp only at r1
    have u1 := use99a h99 (t := t) (v := R) (k := n.regs.xs[i].next) (by omega) (by omega)
    have hbr : (Q.map regAV)[i]? = some (regAV n.regs.xs[i]) := by rw [List.getElem?_map, hQ, regP_get hi]; rfl
    have hmr : (Q.map regAV).set i (.agg [.str n.regs.xs[i].name, .int .u8 n.regs.xs[i].init.toNat, .int .i64 (atL R n.regs.xs[i].next)]) = (Q.set i (withNext R n.regs.xs[i])).map regAV := by rw [List.map_set]; rfl
    dsimp only [RSt.at, List.cons_append, List.nil_append]
    repeat' (first | (refine OS.do rfl ?_; first | refine OD.auto rfl rfl ?_) | refine OS.nil ?_ | refine WS.seq ?_ | refine QS.seqN ?_ | refine WS.region ?_)
    refine WS.drawY 14 [] (K := [(t, !R.isEmpty), (tg, !G.isEmpty), (0, false)]) rfl rfl rfl rfl ?_; (repeat' (first | refine SegY.nil ?_ | refine SegY.nilCheckP rfl rfl rfl ?_ | refine SegY.loadP 4 rfl rfl rfl rfl rfl rfl rfl ?_ | refine SegY.indexAddr rfl rfl rfl rfl (indexAddrA_nat rfl rfl rfl rfl (List.getElem?_eq_getElem hi)) ?_ | refine SegY.auto rfl rfl rfl rfl ?_ | refine SegY.loadP 0 rfl rfl rfl rfl rfl rfl rfl ?_ | refine SegY.loadP 1 rfl rfl rfl rfl rfl rfl rfl ?_ | refine SegY.loadP 2 rfl rfl rfl rfl rfl rfl rfl ?_ | refine SegY.indexAddr rfl rfl rfl rfl rfl ?_ | refine SegY.call rfl rfl rfl rfl h99.eq u1 (fun _ => rfl) ?_))
    dsimp only [RSt.at, List.cons_append, List.nil_append]
    repeat' (first | (refine OS.do rfl ?_; first | refine OD.auto rfl rfl ?_ | refine OD.indexAddr rfl rfl rfl (indexAddrA_sl rfl rfl rfl rfl (by omega)) ?_ | refine OD.storeG 2 rfl rfl rfl rfl hbr rfl rfl rfl ?_) | refine OS.nil ?_)
    exact QS.rangeX (Q.set i (withNext R n.regs.xs[i])) (by (try dsimp only) <;> exact (by rw [regP_succ hi, hQ])) (hL := by (try dsimp only); rw [← hmr]; exact SubO.refl _)
  rintro Q hQ
  try dsimp only at hQ
  rw [regP_all] at hQ
  dsimp only [RSt.at, List.cons_append, List.nil_append]
  repeat' (first | (refine OS.do rfl ?_; first | refine OD.auto rfl rfl ?_ | refine OD.len rfl rfl (fun _ => lenTy_av rfl rfl) ?_ | refine OD.loadP 4 rfl rfl rfl rfl rfl rfl ?_) | refine OS.nil ?_ | refine WS.seq ?_ | refine QS.seqN ?_ | refine WS.region ?_ | refine WS.block ?_)
  refine WS.rangeX (A := Nat × List GPin) (n := n.outs.xs.length) ⟨92, _, fun _ => [], fun a => [(mb, (mkW n g.1 rb a.1 a.2).obj tg G), (ob, .row 2 (n.outs.xs.map pinAV)), (rb, .row 3 (Q.map regAV)), (b2, .row ty27.size [ty27.zeroV]), (b1, .row ty27.size [netAV n])], fun a => [(a.1, !a.2.isEmpty)], fun i a => a.2 = (n.outs.xs.take i).map (withLit R)⟩ ((0, [])) [2, 4, 5, 90, 91] (rfl) ?_ ?_
  · rintro i ⟨to_, P⟩ hi hP
    try dsimp only at hP
    have hPl : P.length = i := by rw [hP, List.length_map, List.length_take]; omega
    have hol' := hol _ (List.getElem_mem hi)
    have r1 := hs.range (n.outs.xs[i].lit / 2).toNat
    try dsimp only at r1
    have u1 := use99a h99 (t := t) (v := R) (k := n.outs.xs[i].lit) (by omega) (by omega)
    have hgm : P.map pinAV ++ [pinAV (withLit R n.outs.xs[i])] = (P ++ [withLit R n.outs.xs[i]]).map pinAV := by rw [List.map_append]; rfl
    dsimp only [RSt.at, List.cons_append, List.nil_append]
    repeat' (first | (refine OS.do rfl ?_; first | refine OD.auto rfl rfl ?_ | refine OD.indexAddr rfl rfl rfl (indexAddrA_nat rfl rfl rfl rfl (by first | assumption | exact List.getElem?_eq_getElem (by omega))) ?_ | refine OD.alloc rfl rfl rfl rfl (fun _ => ?_) | refine OD.storeW 0 rfl rfl rfl rfl (by first | rfl | exact net_ok _) rfl rfl rfl ?_) | refine OS.nil ?_ | refine WS.seq ?_ | refine QS.seqN ?_ | refine WS.region ?_)
    refine WS.drawY 12 [] (K := [(to_, !P.isEmpty)]) rfl rfl rfl rfl ?_; (repeat' (first | refine SegY.nil ?_ | refine SegY.nilCheckP rfl rfl rfl ?_ | refine SegY.auto rfl rfl rfl rfl ?_ | refine SegY.loadP 0 rfl rfl rfl rfl rfl rfl rfl ?_ | refine SegY.loadP 1 rfl rfl rfl rfl rfl rfl rfl ?_ | refine SegY.loadP 2 rfl rfl rfl rfl rfl rfl rfl ?_ | refine SegY.indexAddr rfl rfl rfl rfl rfl ?_ | refine SegY.call rfl rfl rfl rfl h99.eq u1 (fun _ => rfl) ?_))
    dsimp only [RSt.at, List.cons_append, List.nil_append]
    repeat' (first | (refine OS.do rfl ?_; first | refine OD.auto rfl rfl ?_ | refine OD.nilCheckP rfl rfl ?_ | (refine OD.append 0 (xs := P.map pinAV) (ys := [pinAV (withLit R n.outs.xs[i])]) rfl rfl rfl rfl (by rw [List.isEmpty_map]; rfl) rfl rfl rfl rfl rfl rfl (.inr ⟨⟨_, rfl⟩, rfl⟩) (fun _ => rfl) rfl rfl (roomB rfl (by simp only [List.length_map, List.length_singleton]; omega)) (fun t' => ?_); rw [hgm]) | (refine OD.storeG 1 rfl rfl rfl rfl rfl acc_ok1 (by rw [acc_cells]; rfl) (by rw [acc_cells]; rfl) ?_; rw [st_oW])) | refine OS.nil ?_)
    rw [List.isEmpty_map]
    exact QS.rangeX ((t', P ++ [withLit R n.outs.xs[i]])) (by (try dsimp only) <;> exact (by rw [map_take_succ hi, ← hP])) (hL := by (try dsimp only); exact SubO.drop (SubO.refl _))
  rintro ⟨to_, P⟩ hP
  try dsimp only at hP
  rw [List.take_of_length_le (Nat.le_refl _)] at hP
  dsimp only [RSt.at, List.cons_append, List.nil_append]
  repeat' (first | (refine OS.do rfl ?_; first | refine OD.storeW 3 rfl rfl rfl rfl (ok4 grow_cell rfl acc_cell acc_cell) rfl rfl rfl ?_ | refine OD.loadP 0 rfl rfl rfl rfl rfl rfl ?_ | refine OD.auto rfl rfl ?_ | refine OD.nilCheckP rfl rfl ?_) | refine OS.nil ?_ | refine WS.seq ?_ | refine QS.seqN ?_ | refine WS.region ?_ | refine WS.ret ?_)
  refine QS.retO (ResO.cell 3 (by rfl) (by rfl) (by rfl) (by rfl) (by rfl) (.tmp (by rfl) .nil)) fun st hs => ?_
  have hQl : n.regs.xs.length = Q.length := by rw [hQ, List.length_map]
  obtain ⟨tk, st2, hz⟩ := freeze_r (i := growA g.1.1 g.1.2 1 (n.ins.xs.map strAV)) (g := accA tg 2 (G.map gateAV)) (o := accA to_ 2 (P.map pinAV)) (R := Q) (free_grow str_free) (free_acc gate_free) (free_acc pin_free) hQl hs.noK (kr := 2) rfl
  refine ⟨_, st2, hz, ?_, ?_⟩
  · rw [res_yes hV]
    have e : shareS n = (R, G) := hA.symm
    simp only [AV.plain, AV.plainL, plain_grow str_plain, plain_acc gate_plain, plain_acc pin_plain, plainL_map reg_plain]
    have hp : AV.vs 3 (Own.tok tk).plain (Q.map regAV) = (GSl.some Q).av 3 regAV := by unfold GSl.av; rfl
    rw [hp, e, hQ, hP]; rfl
  · simp only [AV.free, AV.freeL, free_grow str_free, free_acc gate_free, free_acc pin_free, Bool.and_true, Bool.true_and]
    exact freeL_map reg_free Q
theorem con52 (h1 : pr 52 = none) (h31 : Has pr 31 Rel31) (h46 : pr 46 = none) (h99 : Has pr 99 Rel99) (h98 : pr 98 = none) (h126 : pr 126 = none) (h72 : Has pr 72 Rel72) (h73 : Has pr 73 Rel73) : Con2 (En pr) 52 Rel52 :=
  con_ofz (fun d => by simp [AV.freeL, net_free]) fun d hd st => run52 h1 h31 h46 h99 h98 h126 h72 h73 d hd st
theorem use52 (h : Has pr 52 Rel52) {n : GNet} (hn : FitsN n) (st : St) : primOf Rel52 [netAV n] st = some (resAV n (layR n (shareS n)), st) := h.use ⟨n, hn, by simp [AV.plainL, net_plain], rfl⟩ st
end
end Go.OptEnv

namespace Go.OptEnv
open Go Go.Proofs Go.Abs Go.RowKit Go.NetM
set_option maxRecDepth 10000
attribute [local irreducible] WS QS OS OD Abs.Sub SubO SubK CW GSl.av accA growA
section
variable {pr : Prims} {L : List (Nat × AObj)} {K : List (Nat × Bool)} {st : St}
set_option maxHeartbeats 1000000 in
theorem run100 (h1 : pr 100 = none) (h73 : Has pr 73 Rel73) (n : GNet) (hn : FitsN n) (ls : GSl Int) (f1 : n.ins.xs.length ≤ 1000) (f2 : n.regs.xs.length ≤ 1000) (f3 : n.gates.xs.length ≤ 20000) (f4 : ls.xs.length ≤ 100000) (hg : okG n.kN n.gates.xs) (hl : ∀ l ∈ ls.xs, 0 ≤ l ∧ l < 2 * ((n.kN + n.gates.xs.length : Nat) : Int)) (st : St) :
    CW (En pr) 100 [netAV n, ls.av 1 intAV] st fun r st' => ∃ r' st2, freezeA st' r = some (r', st2) ∧ AV.plain r' = (GSl.some (coneN n ls.xs)).av 1 boolAV ∧ AV.free r' = true := by
  have hk : (n.kN : Int) = 1 + n.ins.xs.length + n.regs.xs.length := by unfold GNet.kN; omega
  have hfst : n.first = (n.kN : Int) := by unfold GNet.first; omega
  have u73 := use73 h73 hn
  rw [hfst] at u73
  have hw : IntKind.i64.wrap ((n.kN : Int) + (n.gates.xs.length : Int)) = ((n.kN + n.gates.xs.length : Nat) : Int) := by rw [wrap64 (by omega) (by omega)]; omega
  refine CW.start (N := 61) h1 rfl rfl ?_
  repeat' (first | (refine OS.do rfl ?_; first | refine OD.box rfl rfl rfl rfl (net_ok _) rfl (fun b1 => ?_) | refine OD.auto rfl rfl ?_) | refine OS.nil ?_ | refine WS.seq ?_ | refine QS.seqN ?_ | refine WS.region ?_)
  refine WS.drawY 5 [] (K := []) rfl rfl rfl rfl ?_; (repeat' (first | refine SegY.nil ?_ | refine SegY.len rfl rfl rfl (fun _ => lenTy_av rfl rfl) ?_ | refine SegY.auto rfl rfl rfl rfl ?_ | refine SegY.loadP 0 rfl rfl rfl rfl rfl rfl rfl ?_ | refine SegY.loadP 1 rfl rfl rfl rfl rfl rfl rfl ?_ | refine SegY.loadP 2 rfl rfl rfl rfl rfl rfl rfl ?_ | refine SegY.indexAddr rfl rfl rfl rfl rfl ?_ | refine SegY.call rfl rfl rfl rfl h73.eq u73 (fun _ => rfl) ?_))
  dsimp only [RSt.at, List.cons_append, List.nil_append]
  repeat' (first | (refine OS.do rfl ?_; first | refine OD.auto rfl rfl ?_ | refine OD.len rfl rfl (fun _ => lenTy_av rfl rfl) ?_ | refine OD.makeSlice (n := n.kN + n.gates.xs.length) rfl (congrArg (fun z => some (AV.int .i64 z)) hw) (congrArg (fun z => some (AV.int .i64 z)) hw) rfl rfl rfl rfl rfl (roomB rfl (by unfold GNet.kN; omega)) (fun ob => ?_)) | refine OS.nil ?_ | refine WS.seq ?_ | refine QS.seqN ?_ | refine WS.region ?_ | refine WS.block ?_)
  rw [show List.replicate (n.kN + n.gates.xs.length) ty4.zeroV = (List.replicate (n.kN + n.gates.xs.length) false).map boolAV from rep_bool _]
  have half : ∀ l : Int, 0 ≤ l ∧ l < 2 * ((n.kN + n.gates.xs.length : Nat) : Int) → indexAddrA (En pr) 69 (.sl ty4.size ob 0 (n.kN + n.gates.xs.length)) (.int .i64 (IntKind.i64.wrap (l.tdiv 2))) = some (.ptr ob (l / 2).toNat 0) := fun l h => by
    have : IntKind.i64.wrap (l.tdiv 2) = (((l / 2).toNat : Nat) : Int) := by
      rw [Int.tdiv_eq_ediv_of_nonneg h.1, wrap64 (by omega) (by omega)]; omega
    rw [this]
    exact indexAddrA_sl rfl rfl rfl rfl (by omega)
  have hbr : ∀ {v : List Bool} {j : Nat}, j < v.length → (v.map boolAV)[j]? = some (.bool (v.getD j false)) := fun {v j} h => by
    rw [List.getElem?_map, List.getD_eq_getElem?_getD, List.getElem?_eq_getElem h]; rfl
  have hst : ∀ {v : List Bool} {j : Nat}, (v.map boolAV).set j (.bool true) = (v.set j true).map boolAV := fun {v j} => by rw [List.map_set]; rfl
  refine WS.rangeX (A := List Bool) (n := ls.xs.length) ⟨18, _, fun _ => [], fun v => [(ob, .row ty4.size (v.map boolAV)), (b1, .row ty27.size [netAV n])], fun _ => [], fun i v => v = markM (List.replicate (n.kN + n.gates.xs.length) false) (ls.xs.take i)⟩ (List.replicate (n.kN + n.gates.xs.length) false) [2, 5, 16, 17] (rfl) ?_ ?_
  · rintro i v hi hv
    try dsimp only at hv
    have hlm := hl _ (List.getElem_mem hi)
    have hvl : v.length = n.kN + n.gates.xs.length := by rw [hv, markM_len, List.length_replicate]
    have hb := hbr (v := v) (j := (ls.xs[i] / 2).toNat) (by omega)
    dsimp only [RSt.at, List.cons_append, List.nil_append]
    repeat' (first | (refine OS.do rfl ?_; first | refine OD.indexAddr rfl rfl rfl (half _ hlm) ?_ | refine OD.auto rfl rfl ?_ | refine OD.indexAddr rfl rfl rfl (indexAddrA_nat rfl rfl rfl rfl (by first | assumption | exact List.getElem?_eq_getElem (by omega))) ?_ | refine OD.storeB 0 rfl rfl rfl rfl rfl hb ?_) | refine OS.nil ?_ | refine WS.seq ?_ | refine QS.seqN ?_ | refine WS.region ?_)
    exact QS.rangeX (v.set (ls.xs[i] / 2).toNat true) (by (try dsimp only) <;> exact (by rw [markM_succ hi, ← hv])) (hL := by (try dsimp only); rw [← hst]; exact SubO.refl _)
  rintro v0 hv0
  try dsimp only at hv0
  rw [List.take_of_length_le (Nat.le_refl _)] at hv0
  have hv0l : v0.length = n.kN + n.gates.xs.length := by rw [hv0, markM_len, List.length_replicate]
  have hw9 : IntKind.i64.wrap ((n.gates.xs.length : Int) - 1) = (n.gates.xs.length : Int) - 1 := wrap64 (by omega) (by omega)
  dsimp only [RSt.at, List.cons_append, List.nil_append]
  repeat' (first | (refine OS.do rfl ?_; first | refine OD.auto rfl rfl ?_ | refine OD.loadP 1 rfl rfl rfl rfl rfl rfl ?_ | refine OD.len rfl rfl (fun _ => lenTy_av rfl rfl) ?_) | refine OS.nil ?_ | refine WS.seq ?_ | refine QS.seqN ?_ | refine WS.region ?_ | refine WS.block ?_)
  refine WS.loopX (D := List Bool × Nat) [2, 5] (fun d => [(8, .int .i64 ((d.2 : Int) - 1))]) (fun d => [(ob, .row ty4.size (d.1.map boolAV)), (b1, .row ty27.size [netAV n])]) (fun _ => []) (fun d => d.2 ≤ n.gates.xs.length ∧ d.1.length = n.kN + n.gates.xs.length ∧ coneD n.kN n.gates.xs d.2 d.1 = coneN n ls.xs) (fun d => d.2) ((v0, n.gates.xs.length)) (⟨Nat.le_refl _, hv0l, by rw [hv0]; rfl⟩) ?_ (hm := by (try dsimp only); repeat' (first | exact Sub.nil _ | refine Sub.cons (congrArg (fun z => some (AV.int .i64 z)) hw9) ?_ | refine Sub.cons (congrArg (fun z => some (AV.int .i64 z)) (wrap_succ (by omega))) ?_ | refine Sub.cons rfl ?_))
  rintro ⟨v, j⟩ ⟨hj, hvl, hc⟩
  try dsimp only at hj hvl hc
  rcases j with _ | i
  · dsimp only [RSt.at, List.cons_append, List.nil_append]
    repeat' (first | (refine OS.do rfl ?_; first | refine OD.auto rfl rfl ?_) | refine OS.nil ?_ | refine WS.seq ?_ | refine QS.seqN ?_ | refine WS.region ?_ | refine WS.condF rfl ?_ | refine WS.ret ?_ | refine WS.exit ?_ | refine QS.seqE ?_ | refine QS.blockH ?_ | refine QS.loopE ?_)
    refine QS.retRS (by rfl) fun st hs => ?_
    obtain ⟨z1, z2⟩ := freeze_sl (n := n.kN + n.gates.xs.length) (by rw [List.length_map, hvl]) hs
    refine ⟨_, _, z1, ?_, ?_⟩
    · rw [plain_some bool_plain, ← hc]; rfl
    · simp only [AV.free]; exact freeL_map bool_free v
  · have e9 : ((i + 1 : Nat) : Int) - 1 = (i : Int) := by omega
    have hw9' : IntKind.i64.wrap ((i : Int) - 1) = (i : Int) - 1 := wrap64 (by omega) (by omega)
    have hki : indexAddrA (En pr) 69 (.sl ty4.size ob 0 (n.kN + n.gates.xs.length)) (.int .i64 (IntKind.i64.wrap ((n.kN : Int) + (i : Int)))) = some (.ptr ob (n.kN + i) 0) := by
      rw [show IntKind.i64.wrap ((n.kN : Int) + (i : Int)) = ((n.kN + i : Nat) : Int) by rw [wrap64 (by omega) (by omega)]; omega]
      exact indexAddrA_sl rfl rfl rfl rfl (by omega)
    obtain ⟨g1, g2⟩ := hg i (by omega)
    have b0 := hbr (v := v) (j := n.kN + i) (by omega)
    have b1' := hbr (v := v) (j := (n.gates.xs[i].1 / 2).toNat) (by omega)
    have b2 := hbr (v := v.set (n.gates.xs[i].1 / 2).toNat true) (j := (n.gates.xs[i].2 / 2).toNat) (by rw [List.length_set]; omega)
    rw [← hst] at b2
    dsimp only [RSt.at, List.cons_append, List.nil_append]
    rw [e9]
    repeat' (first | (refine OS.do rfl ?_; first | refine OD.indexAddr rfl rfl rfl hki ?_ | refine OD.loadP 0 rfl rfl rfl b0 rfl rfl ?_ | refine OD.indexAddr rfl rfl rfl (half _ (by omega)) ?_ | refine OD.auto rfl rfl ?_ | refine OD.loadP 1 rfl rfl rfl rfl rfl rfl ?_ | refine OD.indexAddr rfl rfl rfl (indexAddrA_nat rfl rfl rfl rfl (by first | assumption | exact List.getElem?_eq_getElem (by omega))) ?_ | refine OD.indexAddr rfl rfl rfl rfl ?_ | refine OD.call rfl rfl rfl h73.eq u73 (fun _ => rfl) ?_ | refine OD.storeB 0 rfl rfl rfl rfl rfl b1' ?_ | refine OD.storeB 0 rfl rfl rfl rfl rfl b2 ?_) | refine OS.nil ?_ | refine WS.seq ?_ | refine QS.seqN ?_ | refine WS.region ?_ | refine WS.condT rfl ?_ | refine WS.skip ?_ | refine WS.block ?_ | refine QS.blockN ?_ | refine WS.draw rfl rfl ?_ | refine WS.condB rfl (fun _ => ?_) (fun _ => ?_))
    all_goals (have eg : n.gates.xs.getD i (0, 0) = n.gates.xs[i] := by rw [List.getD_eq_getElem?_getD, List.getElem?_eq_getElem (by omega)]; rfl)
    · rename_i hm
      have ec : coneD n.kN n.gates.xs (i + 1) v = coneD n.kN n.gates.xs i ((v.set (n.gates.xs[i].1 / 2).toNat true).set (n.gates.xs[i].2 / 2).toNat true) := by
        show coneD n.kN n.gates.xs i (markG n.kN n.gates.xs v i) = _
        unfold markG; rw [if_pos hm, eg]
      dsimp only [List.set_cons_zero]
      rw [hst, hst]
      exact QS.loopX (((v.set (n.gates.xs[i].1 / 2).toNat true).set (n.gates.xs[i].2 / 2).toNat true, i)) (by exact (⟨by dsimp only; omega, by simp only [List.length_set]; exact hvl, by rw [← ec]; exact hc⟩)) (by exact (by dsimp only; omega)) (hl := by (try dsimp only [List.cons_append, List.nil_append]); repeat' (first | exact Sub.nil _ | refine Sub.cons (congrArg (fun z => some (AV.int .i64 z)) hw9') ?_ | refine Sub.cons (congrArg (fun z => some (AV.int .i64 z)) (wrap_succ (by omega))) ?_ | refine Sub.cons rfl ?_))
    · rename_i hm
      have ec : coneD n.kN n.gates.xs (i + 1) v = coneD n.kN n.gates.xs i v := by
        show coneD n.kN n.gates.xs i (markG n.kN n.gates.xs v i) = _
        unfold markG; rw [if_neg (by rw [hm]; simp)]
      exact QS.loopX ((v, i)) (by exact (⟨by dsimp only; omega, hvl, by rw [← ec]; exact hc⟩)) (by exact (by dsimp only; omega)) (hl := by (try dsimp only [List.cons_append, List.nil_append]); repeat' (first | exact Sub.nil _ | refine Sub.cons (congrArg (fun z => some (AV.int .i64 z)) hw9') ?_ | refine Sub.cons (congrArg (fun z => some (AV.int .i64 z)) (wrap_succ (by omega))) ?_ | refine Sub.cons rfl ?_))
def Rel100 : Rel := RelF (fun p : GNet × GSl Int => FitsN p.1 ∧ (p.1.ins.xs.length ≤ 1000 ∧ p.1.regs.xs.length ≤ 1000 ∧ p.1.gates.xs.length ≤ 20000 ∧ p.2.xs.length ≤ 100000) ∧ okG p.1.kN p.1.gates.xs ∧ ∀ l ∈ p.2.xs, 0 ≤ l ∧ l < 2 * ((p.1.kN + p.1.gates.xs.length : Nat) : Int)) (fun p => [netAV p.1, p.2.av 1 intAV]) fun p => (GSl.some (coneN p.1 p.2.xs)).av 1 boolAV
theorem con100 (h1 : pr 100 = none) (h73 : Has pr 73 Rel73) : Con2 (En pr) 100 Rel100 := con_ofz (fun d => by simp [AV.freeL, net_free, free_av int_free]) fun d hd st => run100 h1 h73 d.1 hd.1 d.2 hd.2.1.1 hd.2.1.2.1 hd.2.1.2.2.1 hd.2.1.2.2.2 hd.2.2.1 hd.2.2.2 st
theorem use100a (h : Has pr 100 Rel100) {n : GNet} (hf : FitsN n) {t : Nat} {ls : List Int} (hv : validM n = true) (hn : ls.length ≤ 100000) (hl : ∀ l ∈ ls, 0 ≤ l ∧ l < 2 * ((n.kN + n.gates.xs.length : Nat) : Int)) (st : St) : primOf Rel100 [netAV n, accA t 1 (ls.map intAV)] st = some ((GSl.some (coneN n ls)).av 1 boolAV, st) :=
  h.use (r := (GSl.some (coneN n ls)).av 1 boolAV) ⟨(n, GSl.of ls), ⟨hf, ⟨(valid_len hv).1, (valid_len hv).2.1, (valid_len hv).2.2.2, by rw [gof_xs]; exact hn⟩, (valid_lits hv).1, by rw [gof_xs]; exact hl⟩, by simp [AV.plainL, net_plain, plain_acc int_plain], by dsimp only; rw [gof_xs]⟩ st
end
end Go.OptEnv

namespace Go.OptEnv
open Go Go.Proofs Go.Abs Go.RowKit Go.NetM
set_option maxRecDepth 10000
def layQ (n : GNet) (s : List Int × List (Int × Int)) : GNet := ⟨GSl.some n.ins.xs, GSl.some (n.regs.xs.map (withNext s.1)), GSl.of s.2, GSl.some (n.outs.xs.map (withLit s.1))⟩
theorem layQ_same (n : GNet) (s : List Int × List (Int × Int)) : SameC (layQ n s) (layN n s) := by
  obtain ⟨b1, b2, b3, b4⟩ := lay_xs (n := n) (s := s)
  exact ⟨b1.symm, b2.symm, by rw [b3]; exact gof_xs _, b4.symm⟩
theorem atL_front {l : List Int} {y x : Int} {n : Nat} (h : (x / 2).toNat < l.length) : atL ((l ++ [y]) ++ List.replicate n 0) x = atL l x := by
  rw [atL_zeros]
  unfold atL
  rw [getD_snocI, if_pos h]
theorem freeze_rr {L : List (Nat × AObj)} {st : St} {i g : AV} {kr ko rb nr ob no : Nat} {R : List GReg} {P : List GPin} (hi : AV.free i = true) (hg : AV.free g = true) (hn : nr = R.length) (hm : no = P.length) (hS : SFa L [] st) (hr : L[kr]? = some (rb, .row 3 (R.map regAV))) (ho : L[ko]? = some (ob, .row 2 (P.map pinAV))) (hne : rb ≠ ob) :
    ∃ t t' st2, freezeA st (.tup [.agg [i, .sl 3 rb 0 nr, g, .sl 2 ob 0 no], .int .i64 0]) = some (.tup [.agg [i, .vs 3 (.tok t) (R.map regAV), g, .vs 2 (.tok t') (P.map pinAV)], .int .i64 0], st2) := by
  subst hn; subst hm
  have hgt := (hS.obj kr rb _ hr).1
  have hgo := (hS.obj ko ob _ ho).1
  have e : freezeC st (.sl 3 rb 0 R.length) = some (.vs 3 (.tok st.next) (R.map regAV), (st.drop rb).newTok) := by
    simp only [freezeC, hgt]
    rw [if_pos ⟨trivial, by simp⟩, if_pos (by simp), List.drop_zero, List.take_of_length_le (by simp)]
  have hgo2 : ((st.drop rb).newTok).get ob = some (.row 2 (P.map pinAV)) := by
    rw [St.get_newTok, St.get_drop, if_neg hne]; exact hgo
  have e2 : freezeC ((st.drop rb).newTok) (.sl 2 ob 0 P.length) = some (.vs 2 (.tok ((st.drop rb).newTok).next) (P.map pinAV), (((st.drop rb).newTok).drop ob).newTok) := by
    simp only [freezeC, hgo2]
    rw [if_pos ⟨trivial, by simp⟩, if_pos (by simp), List.drop_zero, List.take_of_length_le (by simp)]
  refine ⟨st.next, ((st.drop rb).newTok).next, (((st.drop rb).newTok).drop ob).newTok, ?_⟩
  simp only [freezeA, freezeM, freezeB, freezeL, freezeC_free hi, e, freezeC_free hg, e2]
  rfl
def Rel53 : Rel := RelF FitsN (fun n => [netAV n]) fun n => resAV n (layQ n (cleanS n))
def mkQ (n : GNet) (g : Bool × Nat) (rb ob : Nat) : MkR := ⟨growA g.1 g.2 1 (n.ins.xs.map strAV), .sl 3 rb 0 n.regs.xs.length, .sl 2 ob 0 n.outs.xs.length⟩
attribute [local irreducible] WS QS OS OD Abs.Sub SubO SubK CW GSl.av accA growA
section
variable {pr : Prims} {L : List (Nat × AObj)} {K : List (Nat × Bool)} {st : St}
theorem use99s (h : Has pr 99 Rel99) {kl lb N : Nat} {k : Int} {v : List Int} (hL : L[kl]? = some (lb, .row 1 (v.map intAV))) (hN : N = v.length) (hS : SFa L K st) (hk : 0 ≤ k ∧ k < 4611686018427387904 ∧ k / 2 < v.length) (hv : 0 ≤ v.getD (k / 2).toNat 0 ∧ v.getD (k / 2).toNat 0 < 4611686018427387904) : primOf Rel99 [.sl 1 lb 0 N, .int .i64 k] st = some (.int .i64 (atL v k), st) := by
  subst hN
  have hg := (hS.obj kl lb _ hL).1
  have hf2 : AV.free (.sl 1 lb 0 v.length) = false := rfl
  have e1 : viewA st 9 (.sl 1 lb 0 v.length) = some ((GSl.some v).av 1 intAV) := by
    simp only [viewA, hf2, hg, Bool.false_eq_true, if_false]
    rw [if_pos ⟨trivial, by simp⟩, List.drop_zero, List.take_of_length_le (by simp)]
    have : mapO (viewA st 8) (v.map intAV) = some (v.map intAV) := by
      have h := mapO_free (st := st) 7 (xs := v.map intAV) (freeL_map int_free v)
      rw [plainL_map int_plain] at h
      exact h
    simp only [viewA] at this
    rw [this]; unfold GSl.av; rfl
  have e2 : viewA st 9 (.int .i64 k) = some (.int .i64 k) := viewA_free 8 rfl
  exact h.view (a := [(GSl.some v).av 1 intAV, .int .i64 k]) (r := .int .i64 (atL v k)) (by simp only [mapO, e1, e2]) ⟨(GSl.some v, k), ⟨hk, hv⟩, rfl, rfl⟩ rfl
set_option maxHeartbeats 4000000 in
theorem run53 (h1 : pr 53 = none) (h31 : Has pr 31 Rel31) (h46 : pr 46 = none) (h99 : Has pr 99 Rel99) (h100 : Has pr 100 Rel100) (h73 : Has pr 73 Rel73) (n : GNet) (hn : FitsN n) (st : St) :
    CW (En pr) 53 [netAV n] st fun r st' => ∃ r' st2, freezeA st' r = some (r', st2) ∧ AV.plain r' = resAV n (layQ n (cleanS n)) ∧ AV.free r' = true := by
  have u31 := use31 h31 hn
  rcases (Bool.eq_false_or_eq_true (validM n)).symm with hV | hV
  · rw [hV] at u31
    refine CW.start (N := 151) h1 rfl rfl ?_
    repeat' (first | (refine OS.do rfl ?_; first | refine OD.box rfl rfl rfl rfl (net_ok _) rfl (fun b1 => ?_) | refine OD.auto rfl rfl ?_ | refine OD.loadP 1 rfl rfl rfl rfl rfl rfl ?_ | refine OD.alloc rfl rfl rfl rfl (fun _ => ?_) | refine OD.storeW 0 rfl rfl rfl rfl (by first | rfl | exact net_ok _) rfl rfl rfl ?_ | refine OD.call rfl rfl rfl h31.eq u31 (fun _ => rfl) ?_) | refine OS.nil ?_ | refine WS.seq ?_ | refine QS.seqN ?_ | refine WS.region ?_ | refine WS.condT rfl ?_ | refine WS.ret ?_ | refine QS.seqR ?_)
    refine QS.retO (ResO.cell 0 (by rfl) (by rfl) (by rfl) (by rfl) (by rfl) (.tmp (by rfl) .nil)) fun st hs => ⟨_, st, freeze_free rfl, ?_, rfl⟩
    rw [res_no hV]; rfl
  rw [hV] at u31
  obtain ⟨f1, f2, f3, f4⟩ := valid_len hV
  obtain ⟨hgo, hrn, hol⟩ := valid_lits hV
  have hk1 : 1 ≤ n.kN ∧ n.kN ≤ 2001 := by unfold GNet.kN; omega
  have hfst : n.first = (n.kN : Int) := by unfold GNet.first GNet.kN; omega
  have u73 := use73 h73 hn
  rw [hfst] at u73
  have hnl : n.nexts.length = n.regs.xs.length := by simp [GNet.nexts]
  refine CW.start (N := 151) h1 rfl rfl ?_
  repeat' (first | (refine OS.do rfl ?_; first | refine OD.box rfl rfl rfl rfl (net_ok _) rfl (fun b1 => ?_) | refine OD.auto rfl rfl ?_ | refine OD.loadP 1 rfl rfl rfl rfl rfl rfl ?_ | refine OD.len rfl rfl (fun _ => lenTy_av rfl rfl) ?_ | refine OD.alloc rfl rfl rfl rfl (fun _ => ?_) | refine OD.call rfl rfl rfl h31.eq u31 (fun _ => rfl) ?_) | refine OS.nil ?_ | refine WS.seq ?_ | refine QS.seqN ?_ | refine WS.region ?_ | refine WS.condF rfl ?_ | refine WS.skip ?_ | refine WS.block ?_)
  rename_i b2
  refine WS.newK ?_
  refine WS.rangeX (A := Nat × List Int) (n := n.regs.xs.length) ⟨24, _, fun a => [(4, accA a.1 1 (a.2.map intAV))], fun _ => [(b2, .row ty27.size [ty27.zeroV]), (b1, .row ty27.size [netAV n])], fun a => [(a.1, !a.2.isEmpty)], fun i a => a.2 = n.nexts.take i⟩ ((0, [])) [1, 2, 22, 23] (rfl) ?_ ?_ (hm := by (try dsimp only); repeat' (first | exact Sub.nil _ | refine Sub.cons (congrArg some (accA_nil2 _ _).symm) ?_ | refine Sub.cons (congrArg (fun z => some (AV.int .i64 z)) (wrap_succ (by omega))) ?_ | refine Sub.cons rfl ?_))
  · rintro i ⟨t, R⟩ hi hR
    try dsimp only at hR
    have hRl : R.length = i := by rw [hR, List.length_take]; omega
    have hgm : R.map intAV ++ [.int .i64 n.regs.xs[i].next] = (R ++ [n.regs.xs[i].next]).map intAV := by rw [List.map_append]; rfl
    have hnx : n.nexts.take (i + 1) = n.nexts.take i ++ [n.regs.xs[i].next] := by
      rw [List.take_succ_eq_append_getElem (by omega)]; simp [GNet.nexts]
    dsimp only [RSt.at, List.cons_append, List.nil_append]
    repeat' (first | (refine OS.do rfl ?_; first | refine OD.loadP 0 rfl rfl rfl rfl rfl rfl ?_ | refine OD.auto rfl rfl ?_ | refine OD.indexAddr rfl rfl rfl (indexAddrA_nat rfl rfl rfl rfl (by first | assumption | exact List.getElem?_eq_getElem (by omega))) ?_ | refine OD.alloc rfl rfl rfl rfl (fun _ => ?_) | refine OD.storeW 0 rfl rfl rfl rfl (by first | rfl | exact net_ok _) rfl rfl rfl ?_ | refine OD.append 0 (xs := R.map intAV) (ys := [.int .i64 n.regs.xs[i].next]) rfl rfl rfl rfl (by rw [List.isEmpty_map]; rfl) rfl rfl rfl rfl rfl rfl (.inr ⟨⟨_, rfl⟩, rfl⟩) (fun _ => rfl) rfl rfl (roomB rfl (by simp only [List.length_map, List.length_singleton]; omega)) (fun t' => ?_)) | refine OS.nil ?_ | refine WS.seq ?_ | refine QS.seqN ?_ | refine WS.region ?_)
    rw [hgm, List.isEmpty_map]
    exact QS.rangeX ((t', R ++ [n.regs.xs[i].next])) (by (try dsimp only) <;> exact (by rw [hnx, ← hR])) (hL := by (try dsimp only); exact SubO.drop (SubO.refl _))
  rintro ⟨t, R⟩ hR
  try dsimp only at hR
  rw [List.take_of_length_le (by omega)] at hR
  dsimp only [RSt.at, List.cons_append, List.nil_append]
  repeat' (first | (refine OS.do rfl ?_; first | refine OD.auto rfl rfl ?_ | refine OD.loadP 1 rfl rfl rfl rfl rfl rfl ?_ | refine OD.len rfl rfl (fun _ => lenTy_av rfl rfl) ?_) | refine OS.nil ?_ | refine WS.seq ?_ | refine QS.seqN ?_ | refine WS.region ?_ | refine WS.block ?_)
  refine WS.rangeX (A := Nat × List Int) (n := n.outs.xs.length) ⟨37, _, fun a => [(4, accA a.1 1 (a.2.map intAV))], fun _ => [(b2, .row ty27.size [ty27.zeroV]), (b1, .row ty27.size [netAV n])], fun a => [(a.1, !a.2.isEmpty)], fun i a => a.2 = n.nexts ++ (n.outs.xs.take i).map (·.lit)⟩ ((t, R)) [1, 2, 35, 36] (by simp [hR]) ?_ ?_
  · rintro i ⟨t, R⟩ hi hR
    try dsimp only at hR
    have hRl : R.length = n.regs.xs.length + i := by rw [hR, List.length_append, List.length_map, List.length_take]; omega
    have hgm : R.map intAV ++ [.int .i64 n.outs.xs[i].lit] = (R ++ [n.outs.xs[i].lit]).map intAV := by rw [List.map_append]; rfl
    dsimp only [RSt.at, List.cons_append, List.nil_append]
    repeat' (first | (refine OS.do rfl ?_; first | refine OD.loadP 0 rfl rfl rfl rfl rfl rfl ?_ | refine OD.auto rfl rfl ?_ | refine OD.indexAddr rfl rfl rfl (indexAddrA_nat rfl rfl rfl rfl (by first | assumption | exact List.getElem?_eq_getElem (by omega))) ?_ | refine OD.alloc rfl rfl rfl rfl (fun _ => ?_) | refine OD.storeW 0 rfl rfl rfl rfl (by first | rfl | exact net_ok _) rfl rfl rfl ?_ | refine OD.append 0 (xs := R.map intAV) (ys := [.int .i64 n.outs.xs[i].lit]) rfl rfl rfl rfl (by rw [List.isEmpty_map]; rfl) rfl rfl rfl rfl rfl rfl (.inr ⟨⟨_, rfl⟩, rfl⟩) (fun _ => rfl) rfl rfl (roomB rfl (by simp only [List.length_map, List.length_singleton]; omega)) (fun t' => ?_)) | refine OS.nil ?_ | refine WS.seq ?_ | refine QS.seqN ?_ | refine WS.region ?_)
    rw [hgm, List.isEmpty_map]
    exact QS.rangeX ((t', R ++ [n.outs.xs[i].lit])) (by (try dsimp only) <;> exact (by rw [map_take_succ hi, hR, List.append_assoc])) (hL := by (try dsimp only); exact SubO.drop (SubO.refl _))
  rintro ⟨t, R⟩ hR
  try dsimp only at hR
  rw [List.take_of_length_le (Nat.le_refl _)] at hR
  have hR : R = n.roots := hR
  subst hR
  have hrl : n.roots.length ≤ 2000 := by unfold GNet.roots; rw [List.length_append, List.length_map]; omega
  have hro : ∀ l ∈ n.roots, 0 ≤ l ∧ l < 2 * ((n.kN + n.gates.xs.length : Nat) : Int) := fun l hl => by
    rcases List.mem_append.1 hl with h | h
    · obtain ⟨r, hr, rfl⟩ := List.mem_map.1 h; exact hrn r hr
    · obtain ⟨r, hr, rfl⟩ := List.mem_map.1 h; exact hol r hr
  have u100 := use100a h100 hn (t := t) hV (by omega) hro
  have z100 : ∀ st, freezeA st ((GSl.some (coneN n n.roots)).av 1 boolAV) = some ((GSl.some (coneN n n.roots)).av 1 boolAV, st) := fun st => freeze_free (free_av bool_free)
  have hcl : (GSl.some (coneN n n.roots)).xs.length = n.kN + n.gates.xs.length := coneM_len
  dsimp only [RSt.at, List.cons_append, List.nil_append]
  repeat' (first | (refine OS.do rfl ?_; first | refine OD.storeW 0 rfl rfl rfl rfl (ownA_ok n g rb ob) rfl rfl rfl ?_ | refine OD.auto rfl rfl ?_ | refine OD.loadP 1 rfl rfl rfl rfl rfl rfl ?_ | refine OD.len rfl rfl (fun _ => lenTy_av rfl rfl) ?_ | refine OD.alloc rfl rfl rfl rfl (fun _ => ?_) | refine OD.call rfl rfl rfl h100.eq u100 z100 ?_ | (refine OD.callR (D := ((Bool × Nat) × (Bool × Nat)) × Nat × Nat) (fun _ => True) (fun d => ownA n d.1 d.2.1 d.2.2) (fun d => (d.2.2, .row 2 (n.outs.xs.map pinAV)) :: (d.2.1, .row 3 (n.regs.xs.map regAV)) :: _) (fun _ => []) rfl rfl rfl rfl (fun st hS => run46n h46 n (by omega) (by omega) (by omega) (by omega) hS.noK) ?_; rintro ⟨g, rb, ob⟩ _) | refine OD.storeG 0 rfl rfl rfl rfl rfl rfl rfl rfl ?_ | (refine OD.makeSlice (n := n.kN + n.gates.xs.length) rfl (congrArg (fun (z : Nat) => some (AV.int .i64 (z : Int))) hcl) (congrArg (fun (z : Nat) => some (AV.int .i64 (z : Int))) hcl) rfl rfl rfl rfl rfl (roomB rfl (by omega)) (fun lb => ?_))) | refine OS.nil ?_ | refine WS.seq ?_ | refine QS.seqN ?_ | refine WS.region ?_ | refine WS.block ?_)
  rename_i cb
  have hmo : AObj.row ty27.size [AV.agg [growA g.1.1 g.1.2 1 (n.ins.xs.map strAV), .sl 3 rb 0 n.regs.xs.length, .nilsl, .sl 2 ob 0 n.outs.xs.length]] = (mkQ n g.1 rb ob).obj 0 [] := by
    unfold MkR.obj MkR.av mkQ
    rw [List.map_nil, acc_nil]; rfl
  rw [show List.replicate (n.kN + n.gates.xs.length) ty3.zeroV = (idL 0 ++ List.replicate (n.kN + n.gates.xs.length - (idL 0).length) 0).map intAV from rep_int _]
  refine WS.newK ?_
  refine WS.objs (L' := [(lb, .row ty3.size ((idL 0 ++ List.replicate (n.kN + n.gates.xs.length - (idL 0).length) 0).map intAV)), (cb, (mkQ n g.1 rb ob).obj 0 []), (ob, .row 2 (n.outs.xs.map pinAV)), (rb, .row 3 (n.regs.xs.map regAV)), (b2, .row ty27.size [ty27.zeroV]), (b1, .row ty27.size [netAV n])]) (by rw [← hmo]; exact SubO.refl _) ?_
  generalize hkeep : coneN n n.roots = keep at *
  have hzero : ∀ {lits : List Int} {i : Nat}, lits.length = i → i < n.kN + n.gates.xs.length → ((lits ++ List.replicate (n.kN + n.gates.xs.length - lits.length) 0).map intAV)[i]? = some (.int .i64 0) := fun {lits i} hl hi => by
    rw [List.getElem?_map, List.getElem?_append_right (by omega), hl, Nat.sub_self, List.getElem?_replicate, if_pos (by omega)]; rfl
  have hset : ∀ {lits : List Int} {i : Nat} (x : Int), lits.length = i → i < n.kN + n.gates.xs.length → ((lits ++ List.replicate (n.kN + n.gates.xs.length - lits.length) 0).map intAV).set i (.int .i64 x) = ((lits ++ [x]) ++ List.replicate (n.kN + n.gates.xs.length - (lits ++ [x]).length) 0).map intAV := fun {lits i} x hl hi => by
    have hrep : n.kN + n.gates.xs.length - lits.length = (n.kN + n.gates.xs.length - (lits.length + 1)) + 1 := by omega
    have e : ((lits ++ List.replicate (n.kN + n.gates.xs.length - lits.length) 0).map intAV).set i (.int .i64 x) = ((lits ++ List.replicate (n.kN + n.gates.xs.length - lits.length) 0).set lits.length x).map intAV := by rw [List.map_set, hl]; rfl
    rw [e, hrep, set_zeros, List.length_append]; rfl
  refine WS.loopX (D := Nat) [1, 2, 9, 10, 11] (fun j => [(12, .int .i64 (j : Int))]) (fun j => [(lb, .row ty3.size ((idL j ++ List.replicate (n.kN + n.gates.xs.length - (idL j).length) 0).map intAV)), (cb, (mkQ n g.1 rb ob).obj 0 []), (ob, .row 2 (n.outs.xs.map pinAV)), (rb, .row 3 (n.regs.xs.map regAV)), (b2, .row ty27.size [ty27.zeroV]), (b1, .row ty27.size [netAV n])]) (fun _ => [(0, false)]) (fun j => j ≤ n.kN) (fun j => n.kN - j) (0) (Nat.zero_le _) ?_
  rintro j hj
  try dsimp only at hj
  have hw : IntKind.i64.wrap (2 * (j : Int)) = 2 * (j : Int) := wrap64 (by omega) (by omega)
  dsimp only [RSt.at, List.cons_append, List.nil_append]
  repeat' (first | (refine OS.do rfl ?_; first | refine OD.auto rfl rfl ?_ | refine OD.len rfl rfl (fun _ => lenTy_av rfl rfl) ?_ | refine OD.loadP 5 rfl rfl rfl rfl rfl rfl ?_ | refine OD.call rfl rfl rfl h73.eq u73 (fun _ => rfl) ?_ | refine OD.indexAddr rfl rfl rfl (indexAddrA_sl rfl rfl rfl rfl (by omega)) ?_ | (rw [hw]; refine OD.storeI 0 rfl rfl rfl rfl rfl (hzero (idL_len j) (by omega)) ?_)) | refine OS.nil ?_ | refine WS.seq ?_ | refine QS.seqN ?_ | refine WS.region ?_ | refine WS.condD rfl (fun _ => ?_) (fun _ => ?_) | refine WS.skip ?_ | refine WS.block ?_ | refine QS.blockN ?_ | refine WS.exit ?_ | refine QS.seqE ?_ | refine QS.blockH ?_ | refine QS.loopE ?_)
  · rename_i hc
    have hj2 : j < n.kN + n.gates.xs.length := by omega
    dsimp only [List.set_cons_zero]
    rw [hset _ (idL_len j) hj2, ← idL_succ]
    exact QS.loopX (j + 1) (by exact (by show j + 1 ≤ n.kN; omega)) (by exact (by show n.kN - (j + 1) < n.kN - j; omega))
  rename_i hc
  have hjk : j = n.kN := by omega
  subst hjk
  refine WS.rangeX (A := Nat × List Int × List (Int × Int)) (n := n.gates.xs.length) ⟨70, _, fun _ => [], fun a => [(lb, .row ty3.size ((a.2.1 ++ List.replicate (n.kN + n.gates.xs.length - a.2.1.length) 0).map intAV)), (cb, (mkQ n g.1 rb ob).obj a.1 a.2.2), (ob, .row 2 (n.outs.xs.map pinAV)), (rb, .row 3 (n.regs.xs.map regAV)), (b2, .row ty27.size [ty27.zeroV]), (b1, .row ty27.size [netAV n])], fun a => [(a.1, !a.2.2.isEmpty)], fun i a => (a.2.1, a.2.2) = nodeM n keep (n.kN + i)⟩ ((0, idL n.kN, [])) [1, 2, 9, 10, 11, 68, 69] (by unfold nodeM; dsimp only; rw [if_neg (by omega), Nat.add_zero, Nat.sub_self]; rfl) ?_ ?_
  · rintro j ⟨tg, lits, G⟩ hj hA
    try dsimp only at hA
    have hs := nodeM_ok (n := n) (keep := keep) (i := j) (by omega)
    rw [← hA] at hs
    have hl : lits.length = n.kN + j := hs.len
    have hGl := hs.gates
    try dsimp only at hGl
    obtain ⟨⟨g1, g2⟩, g3, g4⟩ := hgo j hj
    have hkl : keep.length = n.kN + n.gates.xs.length := hcl
    have hkx : (GSl.some keep).xs[((n.kN + j : Nat) : Int).toNat]? = some (keep.getD (n.kN + j) false) := by
      show keep[n.kN + j]? = _
      rw [List.getD_eq_getElem?_getD, List.getElem?_eq_getElem (by omega)]; rfl
    have hwk : IntKind.i64.wrap ((n.kN : Int) + (j : Int)) = ((n.kN + j : Nat) : Int) := by rw [wrap64 (by omega) (by omega)]; omega
    have hwv : IntKind.i64.wrap (2 * IntKind.i64.wrap ((n.kN : Int) + (G.length : Int))) = 2 * ((n.kN + G.length : Nat) : Int) := by
      rw [wrap64 (n := (n.kN : Int) + (G.length : Int)) (by omega) (by omega), wrap64 (by omega) (by omega)]; omega
    have hki : indexAddrA (En pr) 38 (.sl ty3.size lb 0 (n.kN + n.gates.xs.length)) (.int .i64 (IntKind.i64.wrap ((n.kN : Int) + (j : Int)))) = some (.ptr lb (n.kN + j) 0) := by
      rw [hwk]; exact indexAddrA_sl rfl rfl rfl rfl (by omega)
    have u99 : ∀ (l v : Int), 0 ≤ l ∧ l < 2 * ((n.kN + j : Nat) : Int) → ∀ {L' : List (Nat × AObj)} {K' : List (Nat × Bool)} (kl : Nat), L'[kl]? = some (lb, .row 1 (((lits ++ [v]) ++ List.replicate (n.kN + n.gates.xs.length - (lits ++ [v]).length) 0).map intAV)) → ∀ st, SFa L' K' st → primOf Rel99 [.sl 1 lb 0 (n.kN + n.gates.xs.length), .int .i64 l] st = some (.int .i64 (atL lits l), st) := fun l v hl2 L' K' kl hL st hS => by
      have hr := hs.range (l / 2).toNat
      dsimp only at hr
      have hgd : ((lits ++ [v]) ++ List.replicate (n.kN + n.gates.xs.length - (lits ++ [v]).length) 0).getD (l / 2).toNat 0 = lits.getD (l / 2).toNat 0 := by rw [getD_zeros, getD_snocI, if_pos (by omega)]
      have hLen : ((lits ++ [v]) ++ List.replicate (n.kN + n.gates.xs.length - (lits ++ [v]).length) 0).length = n.kN + n.gates.xs.length := by simp only [List.length_append, List.length_singleton, List.length_replicate]; omega
      have := use99s h99 (N := n.kN + n.gates.xs.length) (k := l) hL hLen.symm hS ⟨hl2.1, by omega, by omega⟩ (by rw [hgd]; omega)
      rw [atL_front (by omega)] at this
      exact this
    have hgm : G.map gateAV ++ [gateAV (atL lits n.gates.xs[j].1, atL lits n.gates.xs[j].2)] = (G ++ [(atL lits n.gates.xs[j].1, atL lits n.gates.xs[j].2)]).map gateAV := by rw [List.map_append]; rfl
    dsimp only [RSt.at, List.cons_append, List.nil_append]
    repeat' (first | (refine OS.do rfl ?_; first | refine OD.indexAddr rfl rfl rfl (indexAddrA_int rfl rfl rfl rfl (by rw [hwk]; omega) (by rw [hwk]; exact hkx)) ?_ | refine OD.auto rfl rfl ?_ | refine OD.indexAddr rfl rfl rfl (indexAddrA_nat rfl rfl rfl rfl (by first | assumption | exact List.getElem?_eq_getElem (by omega))) ?_ | refine OD.alloc rfl rfl rfl rfl (fun _ => ?_) | refine OD.storeW 0 rfl rfl rfl rfl (by first | rfl | exact net_ok _) rfl rfl rfl ?_ | refine OD.loadP 6 rfl rfl rfl rfl rfl rfl ?_ | refine OD.call rfl rfl rfl h73.eq u73 (fun _ => rfl) ?_) | refine OS.nil ?_ | refine WS.seq ?_ | refine QS.seqN ?_ | refine WS.region ?_ | refine WS.skip ?_ | refine WS.condB rfl (fun _ => ?_) (fun _ => ?_))
    · rename_i hb
      refine WS.drawY 10 [] (K := [(tg, !G.isEmpty)]) rfl rfl rfl rfl ?_; (repeat' (first | refine SegY.nil ?_ | refine SegY.loadP 6 rfl rfl rfl rfl rfl rfl rfl ?_ | refine SegY.len rfl rfl rfl (fun _ => lenTy_accm rfl rfl) ?_ | refine SegY.auto rfl rfl rfl rfl ?_ | refine SegY.loadP 0 rfl rfl rfl rfl rfl rfl rfl ?_ | refine SegY.loadP 1 rfl rfl rfl rfl rfl rfl rfl ?_ | refine SegY.loadP 2 rfl rfl rfl rfl rfl rfl rfl ?_ | refine SegY.indexAddr rfl rfl rfl rfl rfl ?_ | refine SegY.call rfl rfl rfl rfl h73.eq u73 (fun _ => rfl) ?_))
      dsimp only [RSt.at, List.cons_append, List.nil_append]
      repeat' (first | (refine OS.do rfl ?_; first | refine OD.indexAddr rfl rfl rfl hki ?_ | refine OD.auto rfl rfl ?_ | (rw [hwv]; refine OD.storeI 1 rfl rfl rfl rfl rfl (hzero hl (by omega)) ?_)) | refine OS.nil ?_ | refine QS.seqN ?_)
      dsimp only [List.set_cons_zero, List.set_cons_succ]
      rw [hset _ hl (by omega)]
      refine WS.drawY 10 [] (K := [(tg, !G.isEmpty)]) rfl rfl rfl rfl ?_; (repeat' (first | refine SegY.nil ?_ | refine SegY.callW (D := Unit) (fun _ => True) (fun _ => .int .i64 (atL lits n.gates.xs[j].1)) (fun _ => _) (fun _ => _) rfl rfl rfl rfl (fun st hS => CW.prim h99.eq (u99 _ _ ⟨g1, g2⟩ 1 rfl st hS) ⟨(), st, trivial, rfl, hS⟩) (fun _ _ => ?_) | refine SegY.callW (D := Unit) (fun _ => True) (fun _ => .int .i64 (atL lits n.gates.xs[j].2)) (fun _ => _) (fun _ => _) rfl rfl rfl rfl (fun st hS => CW.prim h99.eq (u99 _ _ ⟨g3, g4⟩ 1 rfl st hS) ⟨(), st, trivial, rfl, hS⟩) (fun _ _ => ?_) | refine SegY.auto rfl rfl rfl rfl ?_ | refine SegY.loadP 0 rfl rfl rfl rfl rfl rfl rfl ?_ | refine SegY.loadP 1 rfl rfl rfl rfl rfl rfl rfl ?_ | refine SegY.loadP 2 rfl rfl rfl rfl rfl rfl rfl ?_ | refine SegY.indexAddr rfl rfl rfl rfl rfl ?_))
      dsimp only [RSt.at, List.cons_append, List.nil_append]
      repeat' (first | (refine OS.do rfl ?_; first | refine OD.auto rfl rfl ?_ | (refine OD.append 0 (xs := G.map gateAV) (ys := [gateAV (atL lits n.gates.xs[j].1, atL lits n.gates.xs[j].2)]) rfl rfl rfl rfl (by rw [List.isEmpty_map]; rfl) rfl rfl rfl rfl rfl rfl (.inr ⟨⟨_, rfl⟩, rfl⟩) (fun _ => rfl) rfl rfl (roomB rfl (by simp only [List.length_map, List.length_singleton]; omega)) (fun t' => ?_); rw [hgm]) | (refine OD.storeG 2 rfl rfl rfl rfl rfl acc_ok1 (by rw [acc_cells]; rfl) (by rw [acc_cells]; rfl) ?_; rw [st_gR])) | refine OS.nil ?_)
      have hst := nodeM_gate (n := n) (keep := keep) hj
      rw [← hA] at hst
      unfold keepS at hst
      rw [if_pos (by rw [hl]; exact hb)] at hst
      dsimp only at hst
      rw [List.isEmpty_map]
      exact QS.rangeX ((t', lits ++ [2 * ((n.kN + G.length : Nat) : Int)], G ++ [(atL lits n.gates.xs[j].1, atL lits n.gates.xs[j].2)])) (by (try dsimp only) <;> exact (hst.symm)) (hL := by (try dsimp only); exact SubO.drop (SubO.refl _))
    · rename_i hb
      have hst := nodeM_gate (n := n) (keep := keep) hj
      rw [← hA] at hst
      unfold keepS at hst
      rw [if_neg (by rw [hl, hb]; simp)] at hst
      dsimp only at hst
      have hrep : n.kN + n.gates.xs.length - lits.length = (n.kN + n.gates.xs.length - (lits.length + 1)) + 1 := by omega
      rw [hrep, skip_zeros]
      have hrl : n.kN + n.gates.xs.length - (lits.length + 1) = n.kN + n.gates.xs.length - (lits ++ [0]).length := by simp
      rw [hrl]
      exact QS.rangeX ((tg, lits ++ [0], G)) (by (try dsimp only) <;> exact (hst.symm)) (hL := by (try dsimp only); exact SubO.drop (SubO.refl _))
  rintro ⟨tg, lits, G⟩ hA
  try dsimp only at hA
  have hs := nodeM_ok (n := n) (keep := keep) (Nat.le_refl _)
  rw [← hA] at hs
  rw [nodeM_all] at hA
  have hRl := hs.len
  have hGl := hs.gates
  try dsimp only at hRl hGl
  have hrow : (lits ++ List.replicate (n.kN + n.gates.xs.length - lits.length) 0) = lits := by rw [hRl, Nat.sub_self]; simp
  have u99 : ∀ (l : Int), 0 ≤ l ∧ l < 2 * ((n.kN + n.gates.xs.length : Nat) : Int) → ∀ {L' : List (Nat × AObj)} {K' : List (Nat × Bool)} (kl : Nat), L'[kl]? = some (lb, .row 1 (lits.map intAV)) → ∀ st, SFa L' K' st → primOf Rel99 [.sl 1 lb 0 (n.kN + n.gates.xs.length), .int .i64 l] st = some (.int .i64 (atL lits l), st) := fun l hl2 L' K' kl hL st hS => by
    have hr := hs.range (l / 2).toNat
    dsimp only at hr
    exact use99s h99 (N := n.kN + n.gates.xs.length) (k := l) hL hRl.symm hS ⟨hl2.1, by omega, by omega⟩ (by omega)
  dsimp only [RSt.at, List.cons_append, List.nil_append]
  rw [hrow]
  repeat' (first | (refine OS.do rfl ?_; first | refine OD.auto rfl rfl ?_ | refine OD.loadP 1 rfl rfl rfl rfl rfl rfl ?_ | refine OD.len rfl rfl (fun _ => rfl) ?_) | refine OS.nil ?_ | refine WS.seq ?_ | refine QS.seqN ?_ | refine WS.region ?_ | refine WS.block ?_)
  refine WS.rangeX (A := List GReg) (n := n.regs.xs.length) ⟨113, _, fun _ => [], fun Q => [(lb, .row ty3.size (lits.map intAV)), (cb, (mkQ n g.1 rb ob).obj tg G), (ob, .row 2 (n.outs.xs.map pinAV)), (rb, .row 3 (Q.map regAV)), (b2, .row ty27.size [ty27.zeroV]), (b1, .row ty27.size [netAV n])], fun _ => [], fun i Q => Q = regP lits n.regs.xs i⟩ (n.regs.xs) [1, 2, 10, 11, 112] (regP_zero.symm) ?_ ?_
  · rintro i Q hi hQ
    try dsimp only at hQ
    have hrn' := hrn _ (List.getElem_mem hi)
    have hbr : (Q.map regAV)[i]? = some (regAV n.regs.xs[i]) := by rw [List.getElem?_map, hQ, regP_get hi]; rfl
    have hmr : (Q.map regAV).set i (.agg [.str n.regs.xs[i].name, .int .u8 n.regs.xs[i].init.toNat, .int .i64 (atL lits n.regs.xs[i].next)]) = (Q.set i (withNext lits n.regs.xs[i])).map regAV := by rw [List.map_set]; rfl
    dsimp only [RSt.at, List.cons_append, List.nil_append]
    repeat' (first | (refine OS.do rfl ?_; first | refine OD.auto rfl rfl ?_) | refine OS.nil ?_ | refine WS.seq ?_ | refine QS.seqN ?_ | refine WS.region ?_)
    refine WS.drawY 11 [] (K := []) rfl rfl rfl rfl ?_; (repeat' (first | refine SegY.nil ?_ | refine SegY.loadP 5 rfl rfl rfl rfl rfl rfl rfl ?_ | refine SegY.indexAddr rfl rfl rfl rfl (indexAddrA_nat rfl rfl rfl rfl (List.getElem?_eq_getElem hi)) ?_ | refine SegY.auto rfl rfl rfl rfl ?_ | refine SegY.loadP 0 rfl rfl rfl rfl rfl rfl rfl ?_ | refine SegY.loadP 1 rfl rfl rfl rfl rfl rfl rfl ?_ | refine SegY.loadP 2 rfl rfl rfl rfl rfl rfl rfl ?_ | refine SegY.indexAddr rfl rfl rfl rfl rfl ?_ | refine SegY.callW (D := Unit) (fun _ => True) (fun _ => .int .i64 (atL lits n.regs.xs[i].next)) (fun _ => _) (fun _ => _) rfl rfl rfl rfl (fun st hS => CW.prim h99.eq (u99 _ hrn' 0 rfl st hS) ⟨(), st, trivial, rfl, hS⟩) (fun _ _ => ?_)))
    dsimp only [RSt.at, List.cons_append, List.nil_append]
    repeat' (first | (refine OS.do rfl ?_; first | refine OD.auto rfl rfl ?_ | refine OD.indexAddr rfl rfl rfl (indexAddrA_sl rfl rfl rfl rfl (by omega)) ?_ | refine OD.storeG 3 rfl rfl rfl rfl hbr rfl rfl rfl ?_) | refine OS.nil ?_)
    exact QS.rangeX (Q.set i (withNext lits n.regs.xs[i])) (by (try dsimp only) <;> exact (by rw [regP_succ hi, hQ])) (hL := by (try dsimp only); rw [← hmr]; exact SubO.refl _)
  rintro Q hQ
  try dsimp only at hQ
  rw [regP_all] at hQ
  dsimp only [RSt.at, List.cons_append, List.nil_append]
  repeat' (first | (refine OS.do rfl ?_; first | refine OD.auto rfl rfl ?_ | refine OD.loadP 1 rfl rfl rfl rfl rfl rfl ?_ | refine OD.len rfl rfl (fun _ => rfl) ?_) | refine OS.nil ?_ | refine WS.seq ?_ | refine QS.seqN ?_ | refine WS.region ?_ | refine WS.block ?_)
  refine WS.rangeX (A := List GPin) (n := n.outs.xs.length) ⟨133, _, fun _ => [], fun P => [(lb, .row ty3.size (lits.map intAV)), (cb, (mkQ n g.1 rb ob).obj tg G), (ob, .row 2 (P.map pinAV)), (rb, .row 3 (Q.map regAV)), (b2, .row ty27.size [ty27.zeroV]), (b1, .row ty27.size [netAV n])], fun _ => [], fun i P => P = pinP lits n.outs.xs i⟩ (n.outs.xs) [1, 2, 10, 11, 132] (pinP_zero.symm) ?_ ?_
  · rintro i P hi hP
    try dsimp only at hP
    have hol' := hol _ (List.getElem_mem hi)
    have hbr : (P.map pinAV)[i]? = some (pinAV n.outs.xs[i]) := by rw [List.getElem?_map, hP, pinP_get hi]; rfl
    have hmr : (P.map pinAV).set i (.agg [.str n.outs.xs[i].name, .int .i64 (atL lits n.outs.xs[i].lit)]) = (P.set i (withLit lits n.outs.xs[i])).map pinAV := by rw [List.map_set]; rfl
    dsimp only [RSt.at, List.cons_append, List.nil_append]
    repeat' (first | (refine OS.do rfl ?_; first | refine OD.auto rfl rfl ?_) | refine OS.nil ?_ | refine WS.seq ?_ | refine QS.seqN ?_ | refine WS.region ?_)
    refine WS.drawY 11 [] (K := []) rfl rfl rfl rfl ?_; (repeat' (first | refine SegY.nil ?_ | refine SegY.loadP 5 rfl rfl rfl rfl rfl rfl rfl ?_ | refine SegY.indexAddr rfl rfl rfl rfl (indexAddrA_nat rfl rfl rfl rfl (List.getElem?_eq_getElem hi)) ?_ | refine SegY.auto rfl rfl rfl rfl ?_ | refine SegY.loadP 0 rfl rfl rfl rfl rfl rfl rfl ?_ | refine SegY.loadP 1 rfl rfl rfl rfl rfl rfl rfl ?_ | refine SegY.loadP 2 rfl rfl rfl rfl rfl rfl rfl ?_ | refine SegY.indexAddr rfl rfl rfl rfl rfl ?_ | refine SegY.callW (D := Unit) (fun _ => True) (fun _ => .int .i64 (atL lits n.outs.xs[i].lit)) (fun _ => _) (fun _ => _) rfl rfl rfl rfl (fun st hS => CW.prim h99.eq (u99 _ hol' 0 rfl st hS) ⟨(), st, trivial, rfl, hS⟩) (fun _ _ => ?_)))
    dsimp only [RSt.at, List.cons_append, List.nil_append]
    repeat' (first | (refine OS.do rfl ?_; first | refine OD.auto rfl rfl ?_ | refine OD.indexAddr rfl rfl rfl (indexAddrA_sl rfl rfl rfl rfl (by omega)) ?_ | refine OD.storeG 2 rfl rfl rfl rfl hbr rfl rfl rfl ?_) | refine OS.nil ?_)
    exact QS.rangeX (P.set i (withLit lits n.outs.xs[i])) (by (try dsimp only) <;> exact (by rw [pinP_succ hi, hP])) (hL := by (try dsimp only); rw [← hmr]; exact SubO.refl _)
  rintro P hP
  try dsimp only at hP
  rw [pinP_all] at hP
  dsimp only [RSt.at, List.cons_append, List.nil_append]
  repeat' (first | (refine OS.do rfl ?_; first | refine OD.storeW 4 rfl rfl rfl rfl (ok4 grow_cell rfl acc_cell rfl) rfl rfl rfl ?_ | refine OD.auto rfl rfl ?_ | refine OD.loadP 1 rfl rfl rfl rfl rfl rfl ?_) | refine OS.nil ?_ | refine WS.seq ?_ | refine QS.seqN ?_ | refine WS.region ?_ | refine WS.ret ?_)
  refine QS.retO (ResO.cell 4 (by rfl) (by rfl) (by rfl) (by rfl) (by rfl) (.tmp (by rfl) .nil)) fun st hs => ?_
  have hQl : n.regs.xs.length = Q.length := by rw [hQ, List.length_map]
  have hPl : n.outs.xs.length = P.length := by rw [hP, List.length_map]
  have hne : rb ≠ ob := fun c => by
    have := hs.uniq 3 2 rb _ _ rfl (by rw [c]; rfl)
    omega
  obtain ⟨tk, tk', st2, hz⟩ := freeze_rr (i := growA g.1.1 g.1.2 1 (n.ins.xs.map strAV)) (g := accA tg 2 (G.map gateAV)) (R := Q) (P := P) (free_grow str_free) (free_acc gate_free) hQl hPl hs.noK (kr := 3) (ko := 2) rfl rfl hne
  refine ⟨_, st2, hz, ?_, ?_⟩
  · rw [res_yes hV]
    have e : cleanS n = (lits, G) := by unfold cleanS; rw [hkeep]; exact hA.symm
    simp only [AV.plain, AV.plainL, plain_grow str_plain, plain_acc gate_plain, plainL_map reg_plain, plainL_map pin_plain]
    have hp : AV.vs 3 (Own.tok tk).plain (Q.map regAV) = (GSl.some Q).av 3 regAV := by unfold GSl.av; rfl
    have hp2 : AV.vs 2 (Own.tok tk').plain (P.map pinAV) = (GSl.some P).av 2 pinAV := by unfold GSl.av; rfl
    rw [hp, hp2, e, hQ, hP]; rfl
  · simp only [AV.free, AV.freeL, free_grow str_free, free_acc gate_free, Bool.and_true, Bool.true_and, Bool.and_eq_true]
    exact ⟨freeL_map reg_free Q, freeL_map pin_free P⟩
theorem con53 (h1 : pr 53 = none) (h31 : Has pr 31 Rel31) (h46 : pr 46 = none) (h99 : Has pr 99 Rel99) (h100 : Has pr 100 Rel100) (h73 : Has pr 73 Rel73) : Con2 (En pr) 53 Rel53 :=
  con_ofz (fun d => by simp [AV.freeL, net_free]) fun d hd st => run53 h1 h31 h46 h99 h100 h73 d hd st
theorem use53 (h : Has pr 53 Rel53) {n : GNet} (hn : FitsN n) (st : St) : primOf Rel53 [netAV n] st = some (resAV n (layQ n (cleanS n)), st) := h.use ⟨n, hn, by simp [AV.plainL, net_plain], rfl⟩ st
end
end Go.OptEnv

namespace Go.Abs
open Go.RowKit
def primF (p : List AV → St → Option (AV × St)) (args : List AV) (st : St) : Option (AV × St) :=
  if AV.freeL args = true then p args st else
  match freezeM st args with
  | some (args', st1) => p args' st1
  | none => none
section
variable {P : Program}
theorem PrimDoes.frozen {B : Nat} {w0 : World} {f : FuncId} {p : List AV → St → Option (AV × St)} (h : PrimDoes P B w0 f p) : PrimDoes P B w0 f (primF p) := by
  intro args st r st' hp
  unfold primF at hp
  split at hp
  · exact h args st r st' hp
  · split at hp
    · rename_i args' st1 hz
      obtain ⟨q1, q2⟩ := h args' st1 r st' hp
      refine ⟨q1, fun Γ w vargs hI hR => ?_⟩
      obtain ⟨Γ1, o1, r1⟩ := freezeM_sound args hI hz hR
      refine (q2 Γ1 w vargs o1.inv r1).mono ?_
      rintro e w' ⟨v, Γ', rfl, o2, hr⟩
      exact ⟨v, Γ', rfl, o1.trans o2, hr⟩
    · cases hp
end
theorem primF_free {p : List AV → St → Option (AV × St)} {args : List AV} {st : St} (h : AV.freeL args = true) : primF p args st = p args st := by unfold primF; rw [if_pos h]
theorem primF_row {p : List AV → St → Option (AV × St)} {args args' : List AV} {st st1 : St} (h : AV.freeL args = false) (hz : freezeM st args = some (args', st1)) : primF p args st = p args' st1 := by
  unfold primF
  rw [if_neg (by rw [h]; simp), hz]
theorem SFa.last {L : List (Nat × AObj)} {st : St} {b : Nat} {o : AObj} (h : SFa (L ++ [(b, o)]) [] st) : SFa L [] ((st.drop b).newTok) := by
  have hL : ∀ {k : Nat} {p : Nat × AObj}, L[k]? = some p → (L ++ [(b, o)])[k]? = some p := fun {k p} hk => by
    rw [List.getElem?_append_left (List.getElem?_eq_some_iff.1 hk).1]; exact hk
  refine ⟨fun k b' o' hk => ?_, fun k k' b' o1 o2 h1 h2 => h.uniq k k' b' o1 o2 (hL h1) (hL h2), fun _ _ h => by simp at h, fun _ _ _ h => by simp at h⟩
  have h1 := h.obj k b' o' (hL hk)
  refine ⟨?_, by simp only [St.next_newTok, St.next_drop]; omega⟩
  rw [St.get_newTok, St.get_drop, if_neg]
  · exact h1.1
  · rintro rfl
    have hl := (List.getElem?_eq_some_iff.1 hk).1
    have := h.uniq k L.length _ o' o (hL hk) get_last
    omega
end Go.Abs
