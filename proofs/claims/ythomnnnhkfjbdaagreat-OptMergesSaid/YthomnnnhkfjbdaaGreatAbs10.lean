/- Own text of this claim: part 10 of an interpreter that is proved sound against the model, and of what it shows of the law. -/
import Derived.Test.YthomnnnhkfjbdaaGreatAbs9
import Derived.Test.YthomnnnhkfjbdaaGreatAbs8
namespace Go.OptEnv
open Go Go.Proofs Go.Abs Go.RowKit Go.NetM
set_option maxRecDepth 10000
theorem nat_xor1 (m : Nat) : m ^^^ 1 = if m % 2 = 0 then m + 1 else m - 1 := by
  have h1 : (m ^^^ 1) / 2 = m / 2 := by
    have := Nat.xor_div_two (a := m) (b := 1)
    simpa using this
  have h2 : (m ^^^ 1) % 2 = (m + 1) % 2 := by
    have := Nat.xor_mod_two_pow (a := m) (b := 1) (n := 1)
    simp only [Nat.pow_one, Nat.reduceMod] at this
    rw [this]
    rcases Nat.mod_two_eq_zero_or_one m with h | h <;> rw [h]
    · rw [show (0 ^^^ 1 : Nat) = 1 from rfl]; omega
    · rw [show (1 ^^^ 1 : Nat) = 0 from rfl]; omega
  split <;> omega
theorem xor_flip {a s : Int} (ha : 0 ≤ a ∧ a < 4611686018427387904) (hs : s = 0 ∨ s = 1) : IntKind.i64.wrap ((BitVec.ofInt IntKind.i64.bits a ^^^ BitVec.ofInt IntKind.i64.bits s).toNat : Int) = flipL a s := by
  have e1 : (BitVec.ofInt IntKind.i64.bits a).toNat = a.toNat := by
    rw [BitVec.toNat_ofInt]
    show (a % ((2 ^ 64 : Nat) : Int)).toNat = _
    omega
  have e2 : (BitVec.ofInt IntKind.i64.bits s).toNat = s.toNat := by
    rw [BitVec.toNat_ofInt]
    show (s % ((2 ^ 64 : Nat) : Int)).toNat = _
    omega
  rw [BitVec.toNat_xor, e1, e2]
  unfold flipL
  rcases hs with rfl | rfl
  · rw [show (0 : Int).toNat = 0 from rfl, Nat.xor_zero, if_neg (by omega), wrap64 (by omega) (by omega)]; omega
  · rw [show (1 : Int).toNat = 1 from rfl, nat_xor1, if_pos rfl]
    split
    · rw [if_pos (by omega), wrap64 (by omega) (by omega)]; omega
    · rw [if_neg (by omega), wrap64 (by omega) (by omega)]; omega
def assocI (p : Int × Int) : List ((Int × Int) × Int) → Option Int
  | [] => none
  | e :: r => if p = e.1 then some e.2 else assocI p r
def entP (e : (Int × Int) × Int) : AV × AV := (gateAV e.1, .int .i64 e.2)
def ents2 (l : List ((Int × Int) × Int)) : List (AV × AV) := l.map entP
section
variable {pr : Prims}
theorem eq_pair (p q : Int × Int) : eqA (En pr) 20 53 (gateAV p) (gateAV q) = some (decide (p = q)) := by
  obtain ⟨a, b⟩ := p
  obtain ⟨c, d⟩ := q
  have e : eqA (En pr) 20 53 (gateAV (a, b)) (gateAV (c, d)) = (match some (a == c) with | some true => (match some (b == d) with | some true => some true | some false => some false | none => none) | some false => some false | none => none) := rfl
  rw [e]
  by_cases h1 : a = c
  · by_cases h2 : b = d
    · subst h1; subst h2; simp
    · subst h1
      rw [show (a == a) = true by simp, show (b == d) = false by simpa using h2, decide_eq_false (by simp [h2])]
  · rw [show (a == c) = false by simpa using h1, decide_eq_false (by simp [h1])]
theorem find2 (p : Int × Int) : ∀ (l : List ((Int × Int) × Int)) (i : Nat), match assocI p l with | none => findA (eqA (En pr) 20 53) (gateAV p) (ents2 l) i = some none | some v => ∃ j, findA (eqA (En pr) 20 53) (gateAV p) (ents2 l) i = some (some (j, .int .i64 v))
  | [], _ => rfl
  | e :: l, i => by
    simp only [assocI, ents2, List.map_cons, entP, findA, eq_pair]
    by_cases h : p = e.1
    · rw [if_pos h, decide_eq_true h]; exact ⟨i, rfl⟩
    · rw [if_neg h, decide_eq_false h]; exact find2 p l (i + 1)
theorem look2 {p : Int × Int} {l : List ((Int × Int) × Int)} {b : Nat} {st : St} (ok : Bool) (hst : st.get b = some (.map 53 3 (ents2 l))) : lookTy (En pr) st 85 ok (.map b) (gateAV p) = some (if ok then .tup [.int .i64 ((assocI p l).getD 0), .bool (assocI p l).isSome] else .int .i64 ((assocI p l).getD 0)) := by
  have e : lookTy (En pr) st 85 ok (.map b) (gateAV p) = (match st.get b with
      | some (.map kt' et' es) =>
        if kt' = 53 ∧ et' = 3 then
          match findA (eqA (En pr) 20 53) (gateAV p) es 0 with
          | some (some (_, v)) => some (if ok then .tup [v, .bool true] else v)
          | some none => some (if ok then .tup [.int .i64 0, .bool false] else .int .i64 0)
          | none => none
        else none
      | _ => none) := rfl
  rw [e, hst]
  dsimp only
  rw [if_pos ⟨rfl, rfl⟩]
  have := find2 (pr := pr) p l 0
  cases h : assocI p l with
  | none => rw [h] at this; rw [this]; rfl
  | some v => rw [h] at this; obtain ⟨j, hj⟩ := this; rw [hj]; rfl
theorem put2 {p : Int × Int} {v : Int} {l : List ((Int × Int) × Int)} {b : Nat} {st : St} (hs : assocI p l = none) (hst : st.get b = some (.map 53 3 (ents2 l))) : mapPutA (En pr) st ty53 53 3 b (gateAV p) (.int .i64 v) = some (st.put b (.map 53 3 (ents2 (l ++ [(p, v)])))) := by
  unfold mapPutA
  rw [hst]
  dsimp only
  have := find2 (pr := pr) p l 0
  rw [hs] at this
  rw [if_pos ⟨rfl, rfl, rfl, rfl, rfl⟩, this]
  simp [ents2, entP]
def thereL : Nat → List (Int × Int) → List ((Int × Int) × Int)
  | _, [] => []
  | k, g :: r => (g, 2 * (k : Int)) :: thereL (k + 1) r
theorem thereL_snoc : ∀ (k : Nat) (G : List (Int × Int)) (g : Int × Int), thereL k (G ++ [g]) = thereL k G ++ [(g, 2 * ((k + G.length : Nat) : Int))]
  | _, [], _ => rfl
  | k, h :: G, g => by
    simp only [List.cons_append, thereL, thereL_snoc (k + 1) G g, List.length_cons]
    rw [show k + 1 + G.length = k + (G.length + 1) by omega]
theorem there_find (p : Int × Int) : ∀ (k i : Nat) (G : List (Int × Int)), assocI p (thereL (k + i) G) = (findG p G i).map fun j => 2 * ((k + j : Nat) : Int)
  | _, _, [] => rfl
  | k, i, g :: G => by
    simp only [thereL, assocI, findG]
    by_cases h : p = g
    · rw [if_pos h, if_pos h.symm]; rfl
    · rw [if_neg h, if_neg (fun e => h e.symm), show k + i + 1 = k + (i + 1) by omega]
      exact there_find p k (i + 1) G
structure MkI where
  ins : GSl ByteArray
  regs : List GReg
  tr : Nat
  tb : Nat
def MkI.k (m : MkI) : Nat := 1 + m.ins.xs.length + m.regs.length
structure MkI.Fit (m : MkI) : Prop where
  ins : m.ins.xs.length ≤ 1000
  regs : m.regs.length ≤ 1000
def mkAV (m : MkI) (tg : Nat) (G : List (Int × Int)) : AV := .agg [.bool true, m.ins.av 1 strAV, accA m.tr 3 (m.regs.map regAV), accA tg 2 (G.map gateAV), .nilsl, .map m.tb]
def mkO (m : MkI) (tg : Nat) (G : List (Int × Int)) : AObj := .row 6 [mkAV m tg G]
def thO (m : MkI) (G : List (Int × Int)) : AObj := .map 53 3 (ents2 (thereL m.k G))
end
theorem acc_ok1 {t sz : Nat} {xs : List AV} : (accA t sz xs).ok = true := by cases xs <;> rfl
theorem acc_cells {t sz : Nat} {xs : List AV} : (accA t sz xs).cells = [accA t sz xs] := by cases xs <;> rfl
theorem st_gates {m : MkI} {tg t' : Nat} {G G' : List (Int × Int)} : AObj.row 6 ([mkAV m tg G].set 0 (.agg ([.bool true, m.ins.av 1 strAV, accA m.tr 3 (m.regs.map regAV), accA tg 2 (G.map gateAV), .nilsl, .map m.tb].take 3 ++ (accA t' 2 (G'.map gateAV)).cells ++ [.bool true, m.ins.av 1 strAV, accA m.tr 3 (m.regs.map regAV), accA tg 2 (G.map gateAV), .nilsl, .map m.tb].drop (3 + (accA t' 2 (G'.map gateAV)).cells.length)))) = mkO m t' G' := by
  rw [acc_cells]; rfl
theorem set_get {α : Type} {l : List α} {k : Nat} {p q : α} (h : l[k]? = some p) : (l.set k q)[k]? = some q := by
  rw [List.getElem?_set, if_pos rfl, if_pos (List.getElem?_eq_some_iff.1 h).1]
theorem set_oth {α : Type} {l : List α} {k j : Nat} {p q : α} (hn : k ≠ j) (h : l[j]? = some p) : (l.set k q)[j]? = some p := by
  rw [List.getElem?_set, if_neg hn, h]
section
variable {E : Env} {N : Nat} {l : List (Nat × AV)} {L : List (Nat × AObj)} {K : List (Nat × Bool)} {Q : AExit → TM → St → Prop}
variable {c : Bool} {pol : Nat → Nat} {ops : Array Oper} {r : List Oper} {i : Nat} {d : Nat} {ty : TypeId} {pos : String} {after : Array Edge} {guard : Option (Nat × Bool)}
theorem OD.minI {x y : Operand} {ts : Array TypeId} {kd : IntKind} {a b : Int} (hn : Nat.blt d N = true) (hx : evL l x = some (.int kd a)) (hy : evL l y = some (.int kd b)) (k : OS E c pol ops r (i + 1) N ((d, .int kd (min a b)) :: l) L K Q) :
    OD E c pol ops { dst := some d, op := .call { callee := .builtin .min, args := #[x, y], argTypes := ts }, type := ty, pos := pos, after := after, guard := guard } r i N l L K Q :=
  .min hn hx hy (by rw [show (if b < a then b else a) = min a b by split <;> omega]; exact k)
theorem OD.maxI {x y : Operand} {ts : Array TypeId} {kd : IntKind} {a b : Int} (hn : Nat.blt d N = true) (hx : evL l x = some (.int kd a)) (hy : evL l y = some (.int kd b)) (k : OS E c pol ops r (i + 1) N ((d, .int kd (max a b)) :: l) L K Q) :
    OD E c pol ops { dst := some d, op := .call { callee := .builtin .max, args := #[x, y], argTypes := ts }, type := ty, pos := pos, after := after, guard := guard } r i N l L K Q :=
  .max hn hx hy (by rw [show (if b > a then b else a) = max a b by split <;> omega]; exact k)
end
attribute [local irreducible] WS QS OS OD Abs.Sub SubO SubK CW GSl.av accA growA
section
variable {pr : Prims} {L : List (Nat × AObj)} {K : List (Nat × Bool)} {st : St}
set_option maxHeartbeats 1000000 in
theorem run94 (h1 : pr 94 = none) (km : Nat) {mb tg : Nat} {m : MkI} {G : List (Int × Int)} (hm : L[km]? = some (mb, mkO m tg G)) (hf : m.Fit) (hG : G.length ≤ 20000) (hS : SFa L K st) :
    CW (En pr) 94 [.ptr mb 0 0] st fun r st' => r = .int .i64 (2 * ((m.k + G.length : Nat) : Int)) ∧ SFa L K st' := by
  obtain ⟨f1, f2⟩ := hf
  refine CW.startS (N := 25) h1 rfl rfl hS ?_
  repeat' (first | (refine OS.do rfl ?_; first | refine OD.loadP km rfl rfl hm rfl rfl rfl ?_ | refine OD.auto rfl rfl ?_ | refine OD.len rfl rfl (fun _ => lenTy_av rfl rfl) ?_ | refine OD.len rfl rfl (fun _ => lenTy_accm rfl rfl) ?_ | refine OD.nilCheckP rfl rfl ?_) | refine OS.nil ?_ | refine WS.seq ?_ | refine QS.seqN ?_ | refine WS.region ?_ | refine WS.ret ?_ | refine WS.draw rfl rfl ?_)
  refine QS.retRS (by rfl) fun st hs => ⟨?_, hs⟩
  have e1 := wrap64 (n := 1 + (m.ins.xs.length : Int)) (by omega) (by omega)
  have e2 := wrap64 (n := 1 + (m.ins.xs.length : Int) + (m.regs.length : Int)) (by omega) (by omega)
  have e3 := wrap64 (n := 1 + (m.ins.xs.length : Int) + (m.regs.length : Int) + (G.length : Int)) (by omega) (by omega)
  have e4 := wrap64 (n := 2 * (1 + (m.ins.xs.length : Int) + (m.regs.length : Int) + (G.length : Int))) (by omega) (by omega)
  rw [e1, e2, e3, e4]
  have e5 : (2 * ((m.k + G.length : Nat) : Int)) = 2 * (1 + (m.ins.xs.length : Int) + (m.regs.length : Int) + (G.length : Int)) := by unfold MkI.k; omega
  rw [e5]
set_option maxHeartbeats 1000000 in
theorem run117 (h1 : pr 117 = none) (h94 : pr 94 = none) (km : Nat) {mb tg : Nat} {m : MkI} {G : List (Int × Int)} (hm : L[km]? = some (mb, mkO m tg G)) (hf : m.Fit) (hG : G.length ≤ 20000) {a b : Int} (ha : 0 ≤ a ∧ a < 2 * ((m.k + G.length : Nat) : Int)) (hb : 0 ≤ b ∧ b < 2 * ((m.k + G.length : Nat) : Int)) (hS : SFa L K st) :
    CW (En pr) 117 [.ptr mb 0 0, .vs 1 .full ([a, b].map intAV)] st fun r st' => r = .int .i64 0 ∧ SFa L K st' := by
  have c94 : ∀ st, SFa L K st → CW (En pr) 94 [.ptr mb 0 0] st fun r st' => r = .int .i64 (2 * ((m.k + G.length : Nat) : Int)) ∧ SFa L K st' := fun st hs => run94 h94 km hm hf hG hs
  have eg : AV.vs 1 .full ([a, b].map intAV) = growA false 0 1 ([a, b].map intAV) := by unfold growA; rfl
  rw [eg]
  have hk : m.k ≤ 2001 := by obtain ⟨f1, f2⟩ := hf; unfold MkI.k; omega
  refine CW.startS (N := 31) h1 rfl rfl hS ?_
  repeat' (first | (refine OS.do rfl ?_; first | refine OD.loadP km rfl rfl hm rfl rfl rfl ?_ | refine OD.auto rfl rfl ?_ | refine OD.nilCheckP rfl rfl ?_ | refine OD.len rfl rfl (fun _ => lenTy_grow rfl rfl) ?_) | refine OS.nil ?_ | refine WS.seq ?_ | refine QS.seqN ?_ | refine WS.region ?_ | refine WS.condF rfl ?_ | refine WS.skip ?_ | refine WS.block ?_)
  refine WS.rangeX (A := Unit) (n := 2) ⟨18, _, fun _ => [], fun _ => L, fun _ => K, fun _ _ => True⟩ (()) [0, 16, 17] (trivial) ?_ ?_
  · rintro i _ hi _
    obtain ⟨x, hx, hx0, hx1⟩ : ∃ x : Int, [a, b][(i : Int).toNat]? = some x ∧ 0 ≤ x ∧ x < 2 * ((m.k + G.length : Nat) : Int) := by
      rcases (show i = 0 ∨ i = 1 by omega) with rfl | rfl
      · exact ⟨a, rfl, ha⟩
      · exact ⟨b, rfl, hb⟩
    dsimp only [RSt.at, List.cons_append, List.nil_append]
    repeat' (first | (refine OS.do rfl ?_; first | refine OD.auto rfl rfl ?_ | refine OD.indexAddr rfl rfl rfl (indexAddrA_grow rfl rfl rfl rfl (by omega) hx) ?_ | (refine OD.callP (fun r => r = .int .i64 (2 * ((m.k + G.length : Nat) : Int))) rfl rfl rfl c94 (by rintro v st rfl; rfl) ?_; rintro v rfl)) | refine OS.nil ?_ | refine OS.skip rfl rfl rfl ?_ | refine WS.seq ?_ | refine QS.seqN ?_ | refine WS.region ?_ | refine WS.condT rfl ?_ | refine WS.condD rfl (fun _ => ?_) (fun _ => ?_) | refine WS.skip ?_ | refine WS.ret ?_ | refine QS.seqR ?_ | refine QS.rangeR ?_ | ((fail_if_success (refine OS.do rfl ?_)); first | refine OS.splitD rfl rfl rfl (fun _ => ?_) (fun _ => ?_)))
    all_goals try (exfalso; omega)
    exact QS.rangeX (()) (by (try dsimp only) <;> exact (trivial))
  · rintro _ _
    dsimp only [RSt.at, List.cons_append, List.nil_append]
    repeat' (first | (refine OS.do rfl ?_; first | refine OD.auto rfl rfl ?_) | refine OS.nil ?_ | refine WS.seq ?_ | refine QS.seqN ?_ | refine WS.region ?_ | refine WS.ret ?_)
    exact QS.retRS (by rfl) fun st hs => ⟨rfl, hs⟩
set_option maxHeartbeats 2000000 in
theorem run95 (h1 : pr 95 = none) (h117 : pr 117 = none) (h94 : pr 94 = none) (km kt kg : Nat) {mb tg : Nat} {m : MkI} {G : List (Int × Int)} (hm : L[km]? = some (mb, mkO m tg G)) (ht : L[kt]? = some (m.tb, thO m G)) (hg : K[kg]? = some (tg, !G.isEmpty)) (hne : km ≠ kt) (hf : m.Fit) (hG : G.length < 20000)
    {a b : Int} (ha : 0 ≤ a ∧ a < 2 * ((m.k + G.length : Nat) : Int)) (hb : 0 ≤ b ∧ b < 2 * ((m.k + G.length : Nat) : Int)) (hS : SFa L K st) :
    CW (En pr) 95 [.ptr mb 0 0, .int .i64 a, .int .i64 b] st fun r st' => r = .tup [.int .i64 (andG m.k G a b).1, .int .i64 0] ∧ ∃ tg', SFa ((L.set km (mb, mkO m tg' (andG m.k G a b).2)).set kt (m.tb, thO m (andG m.k G a b).2)) (K.set kg (tg', !(andG m.k G a b).2.isEmpty)) st' := by
  have c117 : ∀ st, SFa L K st → CW (En pr) 117 [.ptr mb 0 0, .vs 1 .full ([a, b].map intAV)] st fun r st' => r = .int .i64 0 ∧ SFa L K st' := fun st hs => run117 h117 h94 km hm hf (by omega) ha hb hs
  have c94 : ∀ st, SFa L K st → CW (En pr) 94 [.ptr mb 0 0] st fun r st' => r = .int .i64 (2 * ((m.k + G.length : Nat) : Int)) ∧ SFa L K st' := fun st hs => run94 h94 km hm hf (by omega) hs
  have hk : 1 ≤ m.k ∧ m.k ≤ 2001 := by obtain ⟨f1, f2⟩ := hf; unfold MkI.k; omega
  have hx : 0 ≤ min a b ∧ min a b < 2 * ((m.k + G.length : Nat) : Int) := by omega
  have hy : 0 ≤ max a b ∧ max a b < 2 * ((m.k + G.length : Nat) : Int) := by omega
  have hxor := xor_flip (a := min a b) (s := 1) (by omega) (.inr rfl)
  have hfind := there_find (min a b, max a b) m.k 0 G
  rw [Nat.add_zero] at hfind
  have hlook : ∀ st : St, st.get m.tb = some (.map 53 3 (ents2 (thereL m.k G))) → lookTy (En pr) st 85 true (.map m.tb) (gateAV (min a b, max a b)) = some (.tup [.int .i64 ((assocI (min a b, max a b) (thereL m.k G)).getD 0), .bool (assocI (min a b, max a b) (thereL m.k G)).isSome]) := fun st hst => look2 true hst
  have same : ∀ st' : St, SFa L K st' → SFa ((L.set km (mb, mkO m tg G)).set kt (m.tb, thO m G)) (K.set kg (tg, !G.isEmpty)) st' := fun st' hs => by
    rw [set_same hm, set_same ht, set_same hg]; exact hs
  refine CW.startS (N := 89) h1 rfl rfl hS ?_
  repeat' (first | (refine OS.do rfl ?_; first | refine OD.minI rfl rfl rfl ?_ | refine OD.maxI rfl rfl rfl ?_ | refine OD.loadP km rfl rfl hm rfl rfl rfl ?_ | refine OD.auto rfl rfl ?_ | refine OD.len rfl rfl (fun _ => lenTy_accm rfl rfl) ?_ | refine OD.nilCheckP rfl rfl ?_ | (refine OD.callP (fun r => r = .int .i64 0) rfl rfl rfl c117 (by rintro v st rfl; rfl) ?_; rintro v rfl) | (refine OD.callP (fun r => r = .int .i64 (2 * ((m.k + G.length : Nat) : Int))) rfl rfl rfl c94 (by rintro v st rfl; rfl) ?_; rintro v rfl) | refine OD.lookup kt rfl rfl rfl ht hlook ?_ | refine OD.append kg (xs := G.map gateAV) (ys := [gateAV (min a b, max a b)]) rfl rfl rfl rfl (by rw [List.isEmpty_map]; exact hg) rfl rfl rfl rfl rfl rfl (.inr ⟨⟨_, rfl⟩, rfl⟩) (fun _ => rfl) rfl rfl (roomB rfl (by simp only [List.length_map, List.length_singleton]; omega)) (fun t' => ?_)) | refine OS.nil ?_ | refine OS.skip rfl rfl rfl ?_ | refine WS.seq ?_ | refine QS.seqN ?_ | refine WS.region ?_ | refine WS.condT rfl ?_ | refine WS.condF rfl ?_ | refine WS.condE rfl (fun _ => ?_) (fun _ => ?_) | refine WS.condD rfl (fun _ => ?_) (fun _ => ?_) | refine WS.skip ?_ | refine WS.block ?_ | refine WS.ret ?_ | refine QS.seqR ?_ | refine QS.blockR ?_ | refine QS.blockN ?_ | refine WS.condB rfl (fun _ => ?_) (fun _ => ?_) | ((fail_if_success (refine OS.do rfl ?_)); first | refine OS.splitD rfl rfl rfl (fun _ => ?_) (fun _ => ?_)))
  · rename_i c1
    refine QS.retRS (by rfl) fun st hs => ?_
    have e : andG m.k G a b = (0, G) := by unfold andG; rw [if_pos (.inl c1)]
    rw [e]; exact ⟨rfl, tg, same _ hs⟩
  · rename_i c0 c1
    rw [hxor] at c1
    refine QS.retRS (by rfl) fun st hs => ?_
    have e : andG m.k G a b = (0, G) := by unfold andG; rw [if_pos (.inr c1)]
    rw [e]; exact ⟨rfl, tg, same _ hs⟩
  · rename_i c0 c1 c2
    rw [hxor] at c1
    refine QS.retRS (by rfl) fun st hs => ?_
    have e : andG m.k G a b = (max a b, G) := by unfold andG; rw [if_neg (by omega), if_pos (.inl c2)]
    rw [e]; exact ⟨rfl, tg, same _ hs⟩
  · rename_i c0 c1 c2 c3
    rw [hxor] at c1
    refine QS.retRS (by rfl) fun st hs => ?_
    have e : andG m.k G a b = (max a b, G) := by unfold andG; rw [if_neg (by omega), if_pos (.inr c3)]
    rw [e]; exact ⟨rfl, tg, same _ hs⟩
  · rename_i c0 c1 c2 c3 c4
    rw [hxor] at c1
    refine QS.retRS (by rfl) fun st hs => ?_
    cases hG' : findG (min a b, max a b) G 0 with
    | none => rw [hfind, hG'] at c4; cases c4
    | some j =>
      have e : andG m.k G a b = (2 * ((m.k + j : Nat) : Int), G) := by unfold andG; rw [if_neg (by omega), if_neg (by omega), hG']
      rw [e, hfind, hG']; exact ⟨rfl, tg, same _ hs⟩
  · exfalso; omega
  · rename_i c0 c1 c2 c3 c4 c5
    rw [hxor] at c1
    have hno : assocI (min a b, max a b) (thereL m.k G) = none := by
      cases h : assocI (min a b, max a b) (thereL m.k G) with
      | none => rfl
      | some v => rw [h] at c4; cases c4
    have e : andG m.k G a b = (2 * ((m.k + G.length : Nat) : Int), G ++ [(min a b, max a b)]) := by
      unfold andG
      rw [if_neg (by omega), if_neg (by omega)]
      cases hG' : findG (min a b, max a b) G 0 with
      | none => rfl
      | some j => rw [hfind, hG'] at hno; cases hno
    have hgm : G.map gateAV ++ [gateAV (min a b, max a b)] = (G ++ [(min a b, max a b)]).map gateAV := by rw [List.map_append]; rfl
    rw [e]
    rw [hgm]
    repeat' (first | (refine OS.do rfl ?_; first | refine OD.loadP km rfl rfl (set_get hm) rfl rfl rfl ?_ | refine OD.auto rfl rfl ?_ | refine OD.nilCheckP rfl rfl ?_ | (refine OD.storeG km rfl rfl rfl hm rfl acc_ok1 (by rw [acc_cells]; rfl) (by rw [acc_cells]; rfl) ?_; rw [st_gates]) | refine OD.mapUpdate kt rfl rfl rfl rfl rfl rfl (set_oth hne ht) (fun st hst => put2 hno hst) ?_) | refine OS.nil ?_ | refine WS.seq ?_ | refine QS.seqN ?_ | refine WS.region ?_ | refine WS.ret ?_)
    refine QS.retRS (by rfl) fun st hs => ⟨rfl, t', ?_⟩
    rw [List.isEmpty_map] at hs
    have et : thO m (G ++ [(min a b, max a b)]) = .map 53 3 (ents2 (thereL m.k G ++ [((min a b, max a b), 2 * ((m.k + G.length : Nat) : Int))])) := by unfold thO; rw [thereL_snoc]
    dsimp only
    rw [et]
    exact hs
set_option maxHeartbeats 1000000 in
theorem run62 (h1 : pr 62 = none) (h95 : pr 95 = none) (h117 : pr 117 = none) (h94 : pr 94 = none) (km kt kg : Nat) {mb tg : Nat} {m : MkI} {G : List (Int × Int)} (hm : L[km]? = some (mb, mkO m tg G)) (ht : L[kt]? = some (m.tb, thO m G)) (hg : K[kg]? = some (tg, !G.isEmpty)) (hne : km ≠ kt) (hf : m.Fit) (hG : G.length < 20000)
    {a b : Int} (ha : 0 ≤ a ∧ a < 2 * ((m.k + G.length : Nat) : Int)) (hb : 0 ≤ b ∧ b < 2 * ((m.k + G.length : Nat) : Int)) (hS : SFa L K st) :
    CW (En pr) 62 [.ptr mb 0 0, .int .i64 a, .int .i64 b] st fun r st' => ∃ tg', True ∧ r = .int .i64 (andG m.k G a b).1 ∧ SFa ((L.set km (mb, mkO m tg' (andG m.k G a b).2)).set kt (m.tb, thO m (andG m.k G a b).2)) (K.set kg (tg', !(andG m.k G a b).2.isEmpty)) st' := by
  have c95 : ∀ st, SFa L K st → CW (En pr) 95 [.ptr mb 0 0, .int .i64 a, .int .i64 b] st fun r st' => ∃ tg' : Nat, True ∧ r = .tup [.int .i64 (andG m.k G a b).1, .int .i64 0] ∧ SFa ((L.set km (mb, mkO m tg' (andG m.k G a b).2)).set kt (m.tb, thO m (andG m.k G a b).2)) (K.set kg (tg', !(andG m.k G a b).2.isEmpty)) st' :=
    fun st hs => (run95 h95 h117 h94 km kt kg hm ht hg hne hf hG ha hb hs).mono fun r st' ⟨e, tg', h⟩ => ⟨tg', trivial, e, h⟩
  refine CW.startS (N := 17) h1 rfl rfl hS ?_
  repeat' (first | (refine OS.do rfl ?_; first | refine OD.auto rfl rfl ?_ | (refine OD.callM (D := Nat) (fun _ => True) (fun _ => .tup [.int .i64 (andG m.k G a b).1, .int .i64 0]) (fun tg' => (L.set km (mb, mkO m tg' (andG m.k G a b).2)).set kt (m.tb, thO m (andG m.k G a b).2)) (fun tg' => K.set kg (tg', !(andG m.k G a b).2.isEmpty)) rfl rfl rfl c95 (fun _ _ _ => rfl) ?_; rintro tg' _)) | refine OS.nil ?_ | refine WS.seq ?_ | refine QS.seqN ?_ | refine WS.region ?_ | refine WS.ret ?_)
  exact QS.retRS (by rfl) fun st hs => ⟨tg', trivial, rfl, hs⟩
def Rel67 : Rel := RelF (fun p : GSl Int × Int => (0 ≤ p.2 ∧ p.2 < 4611686018427387904 ∧ p.2 / 2 < p.1.xs.length) ∧ (0 ≤ p.1.xs.getD (p.2 / 2).toNat 0 ∧ p.1.xs.getD (p.2 / 2).toNat 0 < 4611686018427387904)) (fun p => [p.1.av 1 intAV, .int .i64 p.2]) fun p => .int .i64 (atL p.1.xs p.2)
theorem run67 (h1 : pr 67 = none) (v : GSl Int) (k : Int) (hk : 0 ≤ k ∧ k < 4611686018427387904 ∧ k / 2 < v.xs.length) (hv : 0 ≤ v.xs.getD (k / 2).toNat 0 ∧ v.xs.getD (k / 2).toNat 0 < 4611686018427387904) (st : St) : CW (En pr) 67 [v.av 1 intAV, .int .i64 k] st fun r _ => r = .int .i64 (atL v.xs k) := by
  have hw : IntKind.i64.wrap (k.tdiv 2) = k / 2 := by
    rw [Int.tdiv_eq_ediv_of_nonneg hk.1]
    exact wrap64 (by omega) (by omega)
  have hx : v.xs[(k / 2).toNat]? = some (v.xs.getD (k / 2).toNat 0) := by
    rw [List.getD_eq_getElem?_getD, List.getElem?_eq_getElem (by omega)]; rfl
  refine CW.start (N := 13) h1 rfl rfl ?_
  repeat' (first | (refine OS.do rfl ?_; first | refine OD.indexAddr rfl rfl rfl (indexAddrA_int rfl rfl rfl rfl (by rw [hw]; omega) (by rw [hw]; exact hx)) ?_ | refine OD.auto rfl rfl ?_) | refine OS.nil ?_ | refine WS.seq ?_ | refine QS.seqN ?_ | refine WS.region ?_ | refine WS.ret ?_)
  refine QS.retR (by rfl) fun _ => ?_
  rw [and1 hk.1, xor_flip hv (by omega)]; rfl
theorem con67 (h1 : pr 67 = none) : Con2 (En pr) 67 Rel67 := con_eq (fun d => by simp [AV.freeL, AV.free, free_av int_free]) (fun _ => ⟨rfl, rfl⟩) fun d hd st => run67 h1 d.1 d.2 hd.1 hd.2 st
theorem use67g (h : Has pr 67 Rel67) {k : Int} {v : List Int} {b : Bool} {t : Nat} (hk : 0 ≤ k ∧ k < 4611686018427387904 ∧ k / 2 < v.length) (hv : 0 ≤ v.getD (k / 2).toNat 0 ∧ v.getD (k / 2).toNat 0 < 4611686018427387904) (st : St) : primOf Rel67 [growA b t 1 (v.map intAV), .int .i64 k] st = some (.int .i64 (atL v k), st) :=
  h.use (r := .int .i64 (atL v k)) ⟨(GSl.some v, k), ⟨hk, hv⟩, by simp [AV.plainL, plain_grow int_plain, AV.plain], rfl⟩ st
end
end Go.OptEnv

namespace Go.OptEnv
open Go Go.Proofs Go.Abs Go.RowKit Go.NetM
set_option maxRecDepth 10000
attribute [local irreducible] WS QS OS OD Abs.Sub SubO SubK CW GSl.av accA growA
def Rel57 : Rel := RelF FitsN (fun n => [netAV n]) fun n => .bool (validM n)
section
variable {pr : Prims}
theorem con57 (h1 : pr 57 = none) (h102 : Has pr 102 Rel102) (h104 : Has pr 104 Rel104) (h106 : Has pr 106 Rel106) : Con2 (En pr) 57 Rel57 := con_eq (fun d => by simp [AV.freeL, net_free]) (fun _ => ⟨rfl, rfl⟩) fun d hd st => run57 h1 h102 h104 h106 d hd st
theorem use57 (h : Has pr 57 Rel57) {n : GNet} (hn : FitsN n) (st : St) : primOf Rel57 [netAV n] st = some (.bool (validM n), st) := h.use ⟨n, hn, by simp [AV.plainL, net_plain], rfl⟩ st
end
end Go.OptEnv

namespace Go.OptEnv
open Go Go.Proofs Go.Abs Go.RowKit Go.NetM
set_option maxRecDepth 10000
def cloneG {α : Type} (s : GSl α) : GSl α := match s.nil with
  | some true => s
  | _ => GSl.some s.xs
theorem clone_xs {α : Type} (s : GSl α) : (cloneG s).xs = s.xs := by
  unfold cloneG
  split <;> rfl
def Rel112 : Rel := RelF (fun s : GSl ByteArray => s.xs.length ≤ 1000000) (fun s => [s.av 1 strAV]) fun s => (cloneG s).av 1 strAV
theorem clone_cases {α : Type} (s : GSl α) (sz : Nat) (f : α → AV) : (s.xs = [] ∧ s.av sz f = .nilsl ∧ (cloneG s).av sz f = .nilsl) ∨ (s.xs = [] ∧ s.av sz f = .es ∧ (cloneG s).av sz f = .vs sz .any []) ∨ (s.av sz f = .vs sz .any (s.xs.map f) ∧ (cloneG s).av sz f = .vs sz .any (s.xs.map f)) := by
  match hn : s.nil with
  | some true => exact .inl ⟨s.h (by rw [hn]; simp), by unfold GSl.av; rw [hn], by unfold cloneG; rw [hn]; unfold GSl.av; rw [hn]⟩
  | some false =>
    have hx := s.h (by rw [hn]; simp)
    exact .inr (.inl ⟨hx, by unfold GSl.av; rw [hn], by unfold cloneG; rw [hn, hx]; rfl⟩)
  | none => exact .inr (.inr ⟨by unfold GSl.av; rw [hn], by unfold cloneG; rw [hn]; rfl⟩)
theorem roomS {n : Nat} (h : n ≤ 8000000000000) : roomA ty9 n = true := by
  have : n * ty9.bytes ≤ 8000000000000 * 16 := Nat.mul_le_mul h (by decide)
  simp [roomA]; omega
def zeroR (r : GReg) : GReg := ⟨r.name, r.init, 0⟩
def bareN (s : GSl ByteArray) (rs : List GReg) : GNet := ⟨s, GSl.of rs, GSl.of [], GSl.of []⟩
def bareAV (s : GSl ByteArray) (t : Nat) (rs : List GReg) : AV := .agg [s.av 1 strAV, accA t 3 (rs.map regAV), .nilsl, .nilsl]
theorem use57b {pr : Prims} (h : Has pr 57 Rel57) {s : GSl ByteArray} {t : Nat} {rs : List GReg} (hn : FitsN (bareN s rs)) (st : St) : primOf Rel57 [bareAV s t rs] st = some (.bool (validM (bareN s rs)), st) :=
  h.use ⟨bareN s rs, hn, by simp only [bareAV, AV.plainL, AV.plain, plain_av str_plain, plain_acc reg_plain]; rfl, rfl⟩ st
def mk0AV (s : GSl ByteArray) (t : Nat) (rs : List GReg) (tb : Nat) : AV := .agg [.bool true, s.av 1 strAV, accA t 3 (rs.map regAV), .nilsl, .nilsl, .map tb]
theorem mk0_eq {s : GSl ByteArray} {t : Nat} {rs : List GReg} {tb : Nat} : mk0AV s t rs tb = mkAV ⟨s, rs, t, tb⟩ 0 [] := rfl
theorem mk0_ok {s : GSl ByteArray} {t : Nat} {rs : List GReg} {tb : Nat} : (mk0AV s t rs tb).ok = true := by
  have : ∀ xs : List AV, (accA t 3 xs).cellOk = true := fun xs => by cases xs <;> rfl
  simp [mk0AV, AV.ok, av_cellOk, this]
  simp [AV.cellOk]
theorem bld27 {pr : Prims} (s : GSl ByteArray) : buildA (En pr) 27 [(0, s.av 1 strAV)] = some (bareAV s 0 []) := by
  unfold bareAV
  rcases s.cases strAV 1 with ⟨_, h | h⟩ | h <;> rw [h] <;> rfl
theorem bld127 {pr : Prims} (s : GSl ByteArray) (tb : Nat) : buildA (En pr) 127 [(0, .bool true), (1, bareAV s 0 []), (2, .map tb)] = some (mk0AV s 0 [] tb) := by
  unfold bareAV mk0AV
  rcases s.cases strAV 1 with ⟨_, h | h⟩ | h <;> rw [h] <;> rfl
theorem st_regs {s : GSl ByteArray} {t t' : Nat} {rs rs' : List GReg} {tb : Nat} : AObj.row 6 ([mk0AV s t rs tb].set 0 (.agg ([.bool true, s.av 1 strAV, accA t 3 (rs.map regAV), .nilsl, .nilsl, .map tb].take 2 ++ (accA t' 3 (rs'.map regAV)).cells ++ [.bool true, s.av 1 strAV, accA t 3 (rs.map regAV), .nilsl, .nilsl, .map tb].drop (2 + (accA t' 3 (rs'.map regAV)).cells.length)))) = .row 6 [mk0AV s t' rs' tb] := by
  rw [acc_cells]; rfl
theorem SFa.renew {L : List (Nat × AObj)} {K : List (Nat × Bool)} {st : St} {p : Nat × Bool} (h : SFa L (p :: K) st) : SFa L ((0, false) :: K) st := by
  refine ⟨h.obj, h.uniq, fun k t hk => ?_, fun k k' t hk hk' => ?_⟩
  · cases k with
    | zero => simp at hk
    | succ k => exact h.tok (k + 1) t hk
  · cases k with
    | zero => simp at hk
    | succ k =>
      cases k' with
      | zero => simp at hk'
      | succ k' => exact h.uniqT (k + 1) (k' + 1) t hk hk'
attribute [local irreducible] WS QS OS OD Abs.Sub SubO SubK CW GSl.av accA growA
section
variable {pr : Prims}
theorem run112 (h1 : pr 112 = none) (s : GSl ByteArray) (hs : s.xs.length ≤ 1000000) (st : St) : CW (En pr) 112 [s.av 1 strAV] st fun r _ => AV.free r = true ∧ AV.plain r = (cloneG s).av 1 strAV := by
  rcases clone_cases s 1 strAV with ⟨hx, e1, e2⟩ | ⟨hx, e1, e2⟩ | ⟨e1, e2⟩
  · rw [e1, e2]
    refine CW.start (N := 8) h1 rfl rfl ?_
    repeat' (first | (refine OS.do rfl ?_; first | refine OD.auto rfl rfl ?_) | refine OS.nil ?_ | refine WS.seq ?_ | refine QS.seqN ?_ | refine WS.region ?_ | refine WS.condT rfl ?_ | refine WS.ret ?_ | refine QS.seqR ?_)
    exact QS.retR (by rfl) fun _ => ⟨rfl, rfl⟩
  · rw [e1, e2]
    refine CW.start (N := 8) h1 rfl rfl ?_
    repeat' (first | refine OS.newK (OS.do rfl (OD.appendG 0 (b := false) (t := 0) (sz := 1) (xs := []) (ys := []) (sz' := 0) rfl rfl (by unfold growA; rfl) rfl rfl rfl rfl rfl rfl rfl rfl (.inr ⟨⟨_, rfl⟩, rfl⟩) (fun _ => rfl) rfl rfl rfl fun t' => ?_)) | (refine OS.do rfl ?_; first | refine OD.auto rfl rfl ?_) | refine OS.nil ?_ | refine WS.seq ?_ | refine QS.seqN ?_ | refine WS.region ?_ | refine WS.condF rfl ?_ | refine WS.skip ?_ | refine WS.ret ?_)
    refine QS.retR (by rfl) fun _ => ?_
    unfold growA
    exact ⟨rfl, rfl⟩
  · rw [e1, e2]
    refine CW.start (N := 8) h1 rfl rfl ?_
    repeat' (first | refine OS.newK (OS.do rfl (OD.appendG 0 (b := false) (t := 0) (sz := 1) (xs := []) (ys := s.xs.map strAV) (sz' := 1) rfl rfl (by unfold growA; rfl) rfl rfl rfl rfl rfl rfl rfl rfl (.inr ⟨⟨_, rfl⟩, rfl⟩) (fun _ => rfl) (okElems_map (f := strAV) (n := 1) rfl (fun _ => ⟨rfl, rfl⟩) _) (by cases s.xs <;> rfl) (roomS (by simp; omega)) fun t' => ?_)) | (refine OS.do rfl ?_; first | refine OD.auto rfl rfl ?_) | refine OS.nil ?_ | refine WS.seq ?_ | refine QS.seqN ?_ | refine WS.region ?_ | refine WS.condF rfl ?_ | refine WS.skip ?_ | refine WS.ret ?_)
    refine QS.retR (by rfl) fun _ => ?_
    rw [List.nil_append]
    exact ⟨free_grow str_free, by rw [plain_grow str_plain]; unfold GSl.av GSl.some; rfl⟩
theorem con112 (h1 : pr 112 = none) : Con2 (En pr) 112 Rel112 := con_of (fun d => by simp [AV.freeL, free_av str_free]) fun d hd st => run112 h1 d hd st
theorem use112 (h : Has pr 112 Rel112) {s : GSl ByteArray} (hs : s.xs.length ≤ 1000000) (st : St) : primOf Rel112 [s.av 1 strAV] st = some ((cloneG s).av 1 strAV, st) := h.use (r := (cloneG s).av 1 strAV) ⟨s, hs, by simp [AV.plainL, plain_av str_plain], rfl⟩ st
end
section
variable {pr : Prims} {L : List (Nat × AObj)} {K : List (Nat × Bool)} {st : St}
set_option maxHeartbeats 2000000 in
theorem run66 (h1 : pr 66 = none) (h112 : Has pr 112 Rel112) (h57 : Has pr 57 Rel57) (s : GSl ByteArray) (rs : List GReg) (tn ti : Nat) (hs : s.xs.length ≤ 1000) (hr : rs.length ≤ 1000) (hf : FitsN (bareN (cloneG s) (rs.map zeroR))) (hv : validM (bareN (cloneG s) (rs.map zeroR)) = true) (hS : SFa L K st) :
    CW (En pr) 66 [s.av 1 strAV, accA tn 1 ((rs.map (·.name)).map strAV), accA ti 1 ((rs.map (·.init)).map bitAV)] st fun r st' => ∃ d : Nat × Nat × Nat, True ∧ r = .tup [.ptr d.1 0 0, .int .i64 0] ∧ SFa ((d.1, mkO ⟨cloneG s, rs.map zeroR, d.2.1, d.2.2⟩ 0 []) :: (d.2.2, thO ⟨cloneG s, rs.map zeroR, d.2.1, d.2.2⟩ []) :: L) ((0, false) :: K) st' := by
  have hl1 : (rs.map (·.name)).length = rs.length := List.length_map _
  have hl2 : (rs.map (·.init)).length = rs.length := List.length_map _
  have u112 := use112 h112 (s := s) (by omega)
  have u57 := fun t => use57b h57 (t := t) hf
  have z112 : ∀ st, freezeA st ((cloneG s).av 1 strAV) = some ((cloneG s).av 1 strAV, st) := fun st => freeze_free (free_av str_free)
  refine CW.startS (N := 54) h1 rfl rfl hS ?_
  repeat' (first | (refine OS.do rfl ?_; first | refine OD.makeMap rfl rfl rfl (fun tb => ?_) | refine OD.box (v := mk0AV (cloneG s) 0 [] _) rfl rfl rfl rfl mk0_ok rfl (fun mb => ?_) | refine OD.auto rfl rfl ?_ | refine OD.len rfl rfl (fun _ => lenTy_accm rfl rfl) ?_ | refine OD.call rfl rfl rfl h112.eq u112 z112 ?_ | refine OD.build rfl rfl (bld27 _) ?_ | refine OD.build rfl rfl (bld127 _ _) ?_) | refine OS.nil ?_ | refine WS.seq ?_ | refine QS.seqN ?_ | refine WS.region ?_ | refine WS.skip ?_ | refine WS.block ?_ | refine WS.ret ?_ | refine QS.seqR ?_ | refine WS.condNe rfl (fun _ => ?_) (fun _ => ?_))
  · exfalso; omega
  rw [hl1]
  refine WS.newK ?_
  refine WS.rangeX (A := Nat × List GReg) (n := rs.length) ⟨24, _, fun _ => [], fun a => (mb, .row 6 [mk0AV (cloneG s) a.1 a.2 tb]) :: (tb, .map 53 3 []) :: L, fun a => (a.1, !a.2.isEmpty) :: K, fun i a => a.2 = (rs.take i).map zeroR⟩ ((0, [])) [2, 8, 22, 23] (rfl) ?_ ?_
  · rintro i ⟨t, R⟩ hi hR
    try dsimp only at hR
    have hRl : R.length = i := by rw [hR, List.length_map, List.length_take]; omega
    have hx1 : (rs.map (·.name))[i]? = some rs[i].name := by rw [List.getElem?_map, List.getElem?_eq_getElem hi]; rfl
    have hx2 : (rs.map (·.init))[i]? = some rs[i].init := by rw [List.getElem?_map, List.getElem?_eq_getElem hi]; rfl
    have hgm : R.map regAV ++ [regAV (zeroR rs[i])] = (R ++ [zeroR rs[i]]).map regAV := by rw [List.map_append]; rfl
    dsimp only [RSt.at, List.cons_append, List.nil_append]
    repeat' (first | (refine OS.do rfl ?_; first | refine OD.loadP 0 rfl rfl rfl rfl rfl rfl ?_ | refine OD.auto rfl rfl ?_ | refine OD.indexAddr rfl rfl rfl (indexAddrA_accn rfl rfl rfl rfl (by first | assumption | exact List.getElem?_eq_getElem (by omega))) ?_ | refine OD.nilCheckP rfl rfl ?_ | refine OD.append 0 (xs := R.map regAV) (ys := [regAV (zeroR rs[i])]) rfl rfl rfl rfl (by rw [List.isEmpty_map]; rfl) rfl rfl rfl rfl rfl rfl (.inr ⟨⟨_, rfl⟩, rfl⟩) (fun _ => rfl) rfl rfl (roomB rfl (by simp only [List.length_map, List.length_singleton]; omega)) (fun t' => ?_) | (refine OD.storeG 0 (v := accA _ 3 ((R ++ [zeroR rs[i]]).map regAV)) rfl (by rw [← hgm]; rfl) rfl rfl rfl acc_ok1 (by rw [acc_cells]; rfl) (by rw [acc_cells]; rfl) ?_; rw [st_regs])) | refine OS.nil ?_ | refine WS.seq ?_ | refine QS.seqN ?_ | refine WS.region ?_ | refine WS.draw rfl rfl ?_)
    rw [hgm, List.isEmpty_map]
    exact QS.rangeX ((t', R ++ [zeroR rs[i]])) (by (try dsimp only) <;> exact (by rw [map_take_succ hi, ← hR]))
  · rintro ⟨t, R⟩ hR
    try dsimp only at hR
    rw [List.take_of_length_le (Nat.le_refl _)] at hR
    subst hR
    have u := u57 t
    rw [hv] at u
    dsimp only [RSt.at, List.cons_append, List.nil_append]
    repeat' (first | (refine OS.do rfl ?_; first | refine OD.loadP 0 rfl rfl rfl rfl rfl rfl ?_ | refine OD.auto rfl rfl ?_ | refine OD.nilCheckP rfl rfl ?_ | refine OD.call rfl rfl rfl h57.eq u (fun _ => rfl) ?_) | refine OS.nil ?_ | refine WS.seq ?_ | refine QS.seqN ?_ | refine WS.region ?_ | refine WS.condF rfl ?_ | refine WS.skip ?_ | refine WS.ret ?_)
    refine QS.retRS (by rfl) fun st hs => ⟨(mb, t, tb), trivial, rfl, ?_⟩
    dsimp only
    rw [mk0_eq] at hs
    exact SFa.renew hs
end
end Go.OptEnv

namespace Go.NetM
def andR (k : Nat) (G : List (Int × Int)) (a b : Int) : Int × List (Int × Int) :=
  if a = 0 ∨ b = 0 ∨ (a / 2 = b / 2 ∧ a ≠ b) then (0, G)
  else if a = 1 then (b, G)
  else if b = 1 ∨ a = b then (a, G)
  else match findG (min a b, max a b) G 0 with
    | some i => (2 * ((k + i : Nat) : Int), G)
    | none => (2 * ((k + G.length : Nat) : Int), G ++ [(min a b, max a b)])
theorem andR_eq {k : Nat} {G : List (Int × Int)} {a b : Int} (ha : 0 ≤ a) (hb : 0 ≤ b) : andR k G a b = andG k G a b := by
  have hflip : flipL (min a b) 1 = max a b ↔ (a / 2 = b / 2 ∧ a ≠ b) := by
    unfold flipL
    rw [if_pos rfl]
    split <;> omega
  unfold andR andG
  by_cases c1 : a = 0 ∨ b = 0 ∨ (a / 2 = b / 2 ∧ a ≠ b)
  · rw [if_pos c1, if_pos]
    rcases c1 with h | h | h
    · exact .inl (by omega)
    · exact .inl (by omega)
    · exact .inr (hflip.2 h)
  · rw [if_neg c1, if_neg (show ¬ (min a b = 0 ∨ flipL (min a b) 1 = max a b) from fun h => c1 (by
      rcases h with h | h
      · by_cases h0 : a = 0
        · exact .inl h0
        · exact .inr (.inl (by omega))
      · exact .inr (.inr (hflip.1 h))))]
    by_cases c2 : a = 1
    · rw [if_pos c2, if_pos (.inl (by omega))]
      rw [show max a b = b by omega]
    · rw [if_neg c2]
      by_cases c3 : b = 1 ∨ a = b
      · rw [if_pos c3, if_pos (by omega), show max a b = a by omega]
      · rw [if_neg c3, if_neg (by omega)] <;> rfl
end Go.NetM

namespace Go.NetM
def markM (v : List Bool) (ls : List Int) : List Bool := ls.foldl (fun v l => v.set (l / 2).toNat true) v
def markG (k : Nat) (gs : List (Int × Int)) (v : List Bool) (i : Nat) : List Bool :=
  if v.getD (k + i) false = true then (v.set ((gs.getD i (0, 0)).1 / 2).toNat true).set ((gs.getD i (0, 0)).2 / 2).toNat true else v
def coneD (k : Nat) (gs : List (Int × Int)) : Nat → List Bool → List Bool
  | 0, v => v
  | i + 1, v => coneD k gs i (markG k gs v i)
def coneM (k : Nat) (gs : List (Int × Int)) (roots : List Int) : List Bool := coneD k gs gs.length (markM (List.replicate (k + gs.length) false) roots)
theorem markM_len : ∀ (ls : List Int) (v : List Bool), (markM v ls).length = v.length
  | [], _ => rfl
  | l :: ls, v => by
    show (markM (v.set _ true) ls).length = _
    rw [markM_len ls, List.length_set]
theorem markM_succ {ls : List Int} {v : List Bool} {i : Nat} (h : i < ls.length) : markM v (ls.take (i + 1)) = (markM v (ls.take i)).set (ls[i] / 2).toNat true := by
  unfold markM
  rw [List.take_succ_eq_append_getElem h, List.foldl_append]; rfl
theorem markG_len {k : Nat} {gs : List (Int × Int)} {v : List Bool} {i : Nat} : (markG k gs v i).length = v.length := by
  unfold markG
  split
  · rw [List.length_set, List.length_set]
  · rfl
theorem coneD_len {k : Nat} {gs : List (Int × Int)} : ∀ (i : Nat) (v : List Bool), (coneD k gs i v).length = v.length
  | 0, _ => rfl
  | i + 1, v => by
    show (coneD k gs i (markG k gs v i)).length = _
    rw [coneD_len i, markG_len]
theorem coneM_len {k : Nat} {gs : List (Int × Int)} {roots : List Int} : (coneM k gs roots).length = k + gs.length := by
  unfold coneM
  rw [coneD_len, markM_len, List.length_replicate]
def idL (k : Nat) : List Int := (List.range k).map fun (i : Nat) => 2 * (i : Int)
theorem idL_len (k : Nat) : (idL k).length = k := by simp [idL]
theorem idL_get {k j : Nat} : (idL k).getD j 0 = if j < k then 2 * (j : Int) else 0 := by
  unfold idL
  rw [List.getD_eq_getElem?_getD]
  by_cases h : j < k
  · rw [if_pos h, List.getElem?_eq_getElem (by simpa using h)]; simp
  · rw [if_neg h, List.getElem?_eq_none (by simp; omega)]; rfl
theorem idL_succ (k : Nat) : idL (k + 1) = idL k ++ [2 * (k : Int)] := by
  unfold idL
  rw [List.range_succ, List.map_append]; rfl
structure ShOk (k n : Nat) (m : Nat) (s : List Int × List (Int × Int)) : Prop where
  len : s.1.length = n
  range : ∀ j, 0 ≤ s.1.getD j 0 ∧ s.1.getD j 0 < 2 * ((k + s.2.length : Nat) : Int)
  gates : s.2.length ≤ m
  ok : okG k s.2
theorem ShOk.at_ {k n m : Nat} {s : List Int × List (Int × Int)} (h : ShOk k n m s) (l : Int) : 0 ≤ atL s.1 l ∧ atL s.1 l < 2 * ((k + s.2.length : Nat) : Int) := flip_range (h.range _)
theorem ShOk.zero {k : Nat} {all0 : List Int} (h : ∀ j, 0 ≤ all0.getD j 0 ∧ all0.getD j 0 < 2 * (k : Int)) : ShOk k all0.length 0 (all0, []) := ⟨rfl, h, Nat.le_refl _, okG_nil k⟩
theorem rep_bin (k : Nat) : binL (List.replicate k 0) := fun _ hb => .inl (List.eq_of_mem_replicate hb)
theorem rep_get {k j : Nat} : (List.replicate k (0 : UInt8)).getD j 0 = 0 := by
  rw [List.getD_eq_getElem?_getD, List.getElem?_replicate]
  split <;> rfl
structure AndR (k : Nat) (G : List (Int × Int)) (r : Int × List (Int × Int)) : Prop where
  ok : okG k r.2
  range : 0 ≤ r.1 ∧ r.1 < 2 * ((k + r.2.length : Nat) : Int)
  len : G.length ≤ r.2.length ∧ r.2.length ≤ G.length + 1
theorem andG_range {k : Nat} (hk : 0 < k) {G : List (Int × Int)} (hG : okG k G) {a b : Int} (ha : 0 ≤ a ∧ a < 2 * ((k + G.length : Nat) : Int)) (hb : 0 ≤ b ∧ b < 2 * ((k + G.length : Nat) : Int)) : AndR k G (andG k G a b) := by
  have hl : (List.replicate k (0 : UInt8)).length = k := List.length_replicate
  have := andG_ok (v := List.replicate k 0) (rep_bin k) rep_get (by rw [hl]; exact hk) (G := G) (by rw [hl]; exact hG) (a := a) (b := b) (by rw [hl]; exact ha) (by rw [hl]; exact hb)
  rw [hl] at this
  exact ⟨by have := this.ok; rw [hl] at this; exact this, by have := this.range; rw [hl] at this; exact this, this.len⟩
theorem ShOk.step {k n m : Nat} (hk : 0 < k) {s : List Int × List (Int × Int)} (h : ShOk k n m s) (g : Int × Int) : ShOk k (n + 1) (m + 1) (stepM k s g) := by
  have hA := andG_range hk h.ok (h.at_ g.1) (h.at_ g.2)
  have hl := hA.len
  have hg := h.gates
  refine ⟨by simp [stepM, h.len], fun j => ?_, ?_, hA.ok⟩
  · simp only [stepM, getD_snocI]
    have := h.range j
    have := hA.range
    split
    · omega
    · split
      · exact hA.range
      · omega
  · show (andG _ _ _ _).2.length ≤ m + 1
    omega
theorem ShOk.share {k : Nat} (hk : 0 < k) {all0 : List Int} (h : ∀ j, 0 ≤ all0.getD j 0 ∧ all0.getD j 0 < 2 * (k : Int)) (gs : List (Int × Int)) : ∀ i, i ≤ gs.length → ShOk k (all0.length + i) i (shareM k all0 (gs.take i))
  | 0, _ => .zero h
  | i + 1, hi => by
    rw [shareM_succ (by omega)]
    exact (ShOk.share hk h gs i (by omega)).step hk _
theorem idL_range {k : Nat} (hk : 0 < k) (j : Nat) : 0 ≤ (idL k).getD j 0 ∧ (idL k).getD j 0 < 2 * (k : Int) := by
  rw [idL_get]; split <;> omega
def keepS (k : Nat) (keep : List Bool) (s : List Int × List (Int × Int)) (g : Int × Int) : List Int × List (Int × Int) :=
  if keep.getD s.1.length false = true then (s.1 ++ [2 * ((k + s.2.length : Nat) : Int)], s.2 ++ [(atL s.1 g.1, atL s.1 g.2)]) else (s.1 ++ [0], s.2)
def keepM (k : Nat) (keep : List Bool) (gs : List (Int × Int)) : List Int × List (Int × Int) := gs.foldl (keepS k keep) (idL k, [])
theorem keepM_succ {k : Nat} {keep : List Bool} {gs : List (Int × Int)} {i : Nat} (h : i < gs.length) : keepM k keep (gs.take (i + 1)) = keepS k keep (keepM k keep (gs.take i)) gs[i] := by
  unfold keepM
  rw [List.take_succ_eq_append_getElem h, List.foldl_append]; rfl
theorem ShOk.keepS {k n m : Nat} (hk : 0 < k) {keep : List Bool} {s : List Int × List (Int × Int)} (h : ShOk k n m s) (g : Int × Int) : ShOk k (n + 1) (m + 1) (keepS k keep s g) := by
  have hg := h.gates
  unfold NetM.keepS
  split
  · refine ⟨by simp [h.len], fun j => ?_, by simp; omega, okG_snoc h.ok (h.at_ _) (h.at_ _)⟩
    simp only [getD_snocI, List.length_append, List.length_singleton]
    have := h.range j
    split
    · omega
    · split <;> omega
  · refine ⟨by simp [h.len], fun j => ?_, Nat.le_succ_of_le hg, h.ok⟩
    simp only [getD_snocI]
    have := h.range j
    split
    · exact this
    · split <;> omega
theorem keep_ok {k : Nat} (hk : 0 < k) {keep : List Bool} (gs : List (Int × Int)) : ∀ i, i ≤ gs.length → ShOk k (k + i) i (keepM k keep (gs.take i))
  | 0, _ => by
    have := ShOk.zero (idL_range hk)
    rw [idL_len] at this
    exact this
  | i + 1, hi => by
    rw [keepM_succ (by omega)]
    exact (keep_ok hk gs i (by omega)).keepS hk _
theorem getD_zeros {l : List Int} {n j : Nat} : (l ++ List.replicate n 0).getD j 0 = l.getD j 0 := by
  simp only [List.getD_eq_getElem?_getD]
  by_cases h : j < l.length
  · rw [List.getElem?_append_left h]
  · rw [List.getElem?_append_right (by omega), List.getElem?_replicate, List.getElem?_eq_none (l := l) (by omega)]
    split <;> rfl
theorem atL_zeros {l : List Int} {n : Nat} {x : Int} : atL (l ++ List.replicate n 0) x = atL l x := by unfold atL; rw [getD_zeros]
theorem set_zeros {l : List Int} {n : Nat} {x : Int} : (l ++ List.replicate (n + 1) 0).set l.length x = (l ++ [x]) ++ List.replicate n 0 := by
  rw [List.set_append_right _ _ (Nat.le_refl _), Nat.sub_self, List.replicate_succ, List.append_assoc]; rfl
theorem skip_zeros {l : List Int} {n : Nat} : l ++ List.replicate (n + 1) 0 = (l ++ [0]) ++ List.replicate n 0 := by
  rw [List.replicate_succ, List.append_assoc]; rfl
end Go.NetM

namespace Go.Abs
open Go.RowKit
section
variable {E : Env} {fid N : Nat} {l : List (Nat × AV)} {L X : List (Nat × AObj)} {K Y : List (Nat × Bool)} {Q : AExit → TM → St → Prop}
variable {c : Bool} {pol : Nat → Nat} {ops : Array Oper} {o : Oper} {r : List Oper} {i : Nat} {d : Nat} {ty : TypeId} {pos : String} {after : Array Edge} {guard : Option (Nat × Bool)}
def SegY (E : Env) (ops : Array Oper) (N : Nat) (L : List (Nat × AObj)) (K : List (Nat × Bool)) (pol : Nat → Nat) (r : List Oper) (i : Nat) (l : List (Nat × AV)) (X : List (Nat × AObj)) (Y : List (Nat × Bool)) (k : List (Nat × AV) → List (Nat × AObj) → List (Nat × Bool) → Prop) : Prop :=
  ∀ (tm : TM) (s0 : St) (pre : Pre), Fa N l (X ++ L) (Y ++ K) tm s0 → (∀ b, pre = some b → b.2 = false) → ∃ n tr tm' s1 l' X' Y', runOpsT E (callF E n) pre pol ops r i tm s0 = some (tr, tm', s1) ∧ Fa N l' (X' ++ L) (Y' ++ K) tm' s1 ∧ k l' X' Y' ∧
    ∀ (k : Nat) (t : Tr) (o : Oper), tr[k]? = some t → r[k]? = some o → SFa L K t.was ∧ SFa L K t.now ∧ (t.did = true → isLoud o.op = false → ∀ s, SFa L K s → quiet E t.tm s o = some t.v)
theorem Fa.baseY {tm : TM} {st : St} (h : Fa N l (X ++ L) (Y ++ K) tm st) : Fa N l L K tm st :=
  h.sub (fun _ _ h => h) ⟨fun k => X.length + k, fun k p hk => by show (X ++ L)[X.length + k]? = _; rw [List.getElem?_append_right (by omega), Nat.add_sub_cancel_left]; exact hk, fun _ _ _ _ h => by have h : X.length + _ = X.length + _ := h; omega⟩
    ⟨fun k => Y.length + k, fun k t hk => by show (Y ++ K)[Y.length + k]? = _; rw [List.getElem?_append_right (by omega), Nat.add_sub_cancel_left]; exact hk, fun _ _ _ _ _ _ h => by have h : Y.length + _ = Y.length + _ := h; omega⟩
variable {k : List (Nat × AV) → List (Nat × AObj) → List (Nat × Bool) → Prop}
theorem SegY.nil (h : k l X Y) : SegY E ops N L K pol [] i l X Y k := fun tm s0 pre hF _ => ⟨0, [], tm, s0, l, X, Y, rfl, hF, h, fun k t o ht => by simp at ht⟩
theorem SegY.quiet {v : AV} (hw : wantS ops l o = some true) (hd : o.dst = some d) (hn : Nat.blt d N = true) (hl : isLoud o.op = false) (hq : ∀ tm st, Fa N l L K tm st → Abs.quiet E tm st o = some v) (h : SegY E ops N L K pol r (i + 1) ((d, v) :: l) X Y k) : SegY E ops N L K pol (o :: r) i l X Y k := by
  intro tm s0 pre hF hp
  obtain ⟨n, tr, tm', s1, l', X', Y', h1, h2, h3, h4⟩ := h (tm.put d v) s0 pre (hF.put hn v) hp
  refine ⟨n, ⟨tm, s0, s0, v, true⟩ :: tr, tm', s1, l', X', Y', ?_, h2, h3, fun k t o' ht ho => ?_⟩
  · simp only [runOpsT]
    rw [hF.want hw]
    dsimp only
    rw [stepPre_quiet hl (hq tm s0 hF.baseY), hd]
    dsimp only [putO]
    rw [h1]
  · cases k with
    | zero =>
      simp only [List.getElem?_cons_zero, Option.some.injEq] at ht ho
      subst ht; subst ho
      exact ⟨hF.baseY.s, hF.baseY.s, fun _ _ s hs => hq tm s (hF.baseY.withS hs)⟩
    | succ k =>
      simp only [List.getElem?_cons_succ] at ht ho
      exact h4 k t o' ht ho
theorem SegY.loud (hw : wantS ops l o = some true) (hd : o.dst = some d) (hn : Nat.blt d N = true) (hl : isLoud o.op = true) (hf : isFnCall o.op = false) (hal : ∀ t, o.op ≠ .alloc t)
    (hq : ∀ tm st, Fa N l (X ++ L) (Y ++ K) tm st → ∃ v st' X' Y', Abs.loud E noCall (pol i) tm st o = some (v, st') ∧ Fa N l (X' ++ L) (Y' ++ K) tm st' ∧ SegY E ops N L K pol r (i + 1) ((d, v) :: l) X' Y' k) : SegY E ops N L K pol (o :: r) i l X Y k := by
  intro tm s0 pre hF hp
  obtain ⟨v, st', X1, Y1, q1, q2, q3⟩ := hq tm s0 hF
  obtain ⟨n, tr, tm', s1, l', X', Y', h1, h2, h3, h4⟩ := q3 (tm.put d v) st' pre (q2.put hn v) hp
  refine ⟨n, ⟨tm, s0, st', v, true⟩ :: tr, tm', s1, l', X', Y', ?_, h2, h3, fun k t o' ht ho => ?_⟩
  · have hs' : stepPre E (callF E n) pre (pol i) i tm s0 o = some (v, st') := stepPre_loud (fun b hb => ⟨hp b hb, hal⟩) hl hf q1
    simp only [runOpsT]
    rw [hF.want hw]
    dsimp only
    rw [hs', hd]
    dsimp only [putO]
    rw [h1]
  · cases k with
    | zero =>
      simp only [List.getElem?_cons_zero, Option.some.injEq] at ht ho
      subst ht; subst ho
      exact ⟨hF.baseY.s, q2.baseY.s, fun _ h => by rw [hl] at h; cases h⟩
    | succ k =>
      simp only [List.getElem?_cons_succ] at ht ho
      exact h4 k t o' ht ho
theorem SegY.auto {op : Op} {v : AV} (hw : wantS ops l { dst := some d, op := op, type := ty, pos := pos, after := after, guard := guard } = some true) (hn : Nat.blt d N = true) (hl : isLoud op = false) (h : quietS E l op = some v) (k1 : SegY E ops N L K pol r (i + 1) ((d, v) :: l) X Y k) : SegY E ops N L K pol ({ dst := some d, op := op, type := ty, pos := pos, after := after, guard := guard } :: r) i l X Y k :=
  .quiet hw rfl hn hl (fun _ _ hF => quietS_sound h hF) k1
theorem SegY.indexAddr {t : TypeId} {x y : Operand} {a b v : AV} (hw : wantS ops l { dst := some d, op := .indexAddr t x y, type := ty, pos := pos, after := after, guard := guard } = some true) (hn : Nat.blt d N = true) (hx : evL l x = some a) (hy : evL l y = some b) (h : indexAddrA E t a b = some v) (k1 : SegY E ops N L K pol r (i + 1) ((d, v) :: l) X Y k) :
    SegY E ops N L K pol ({ dst := some d, op := .indexAddr t x y, type := ty, pos := pos, after := after, guard := guard } :: r) i l X Y k :=
  .quiet hw rfl hn rfl (fun _ _ hF => quiet_indexAddr hx hy h hF) k1
theorem SegY.loadP (kk : Nat) {t : TypeId} {x : Operand} {b j off sz : Nat} {xs : List AV} {e v : AV} (hw : wantS ops l { dst := some d, op := .load t x, type := ty, pos := pos, after := after, guard := guard } = some true) (hn : Nat.blt d N = true) (hx : evL l x = some (.ptr b j off)) (hL : L[kk]? = some (b, .row sz xs)) (he : xs[j]? = some e) (ho : Nat.ble off e.cells.length = true)
    (hp : partA E t (e.cells.drop off) 0 = some v) (k1 : SegY E ops N L K pol r (i + 1) ((d, v) :: l) X Y k) : SegY E ops N L K pol ({ dst := some d, op := .load t x, type := ty, pos := pos, after := after, guard := guard } :: r) i l X Y k :=
  .quiet hw rfl hn rfl (fun _ _ hF => quiet_loadP kk hx hL he ho hp hF) k1
theorem SegY.append (kk : Nat) {ts tx e : TypeId} {s x : Operand} {t sz sz' : Nat} {xs ys : List AV} {a : AV} {tys tyx et : Ty} (hw : wantS ops l { dst := some d, op := .call { callee := .builtin .append, args := #[s, x], argTypes := #[ts, tx] }, type := ty, pos := pos, after := after, guard := guard } = some true) (hn : Nat.blt d N = true) (hpol : Nat.beq (pol i) 1 = false) (hs : evL l s = some (accA t sz xs)) (hx : evL l x = some a) (hK : Y[kk]? = some (t, !xs.isEmpty))
    (h1 : E.ty ts = some tys) (h2 : E.ty tx = some tyx) (h3 : tys.d = .slice e) (h4 : E.ty e = some et) (h5 : Nat.blt 0 et.size = true) (h6 : sz = et.size) (h7 : (tyx.d = .string ∧ isStrA a = true) ∨ ((∃ e', tyx.d = .slice e') ∧ isStrA a = false)) (h8 : ∀ st, elemsA st a = some (sz', ys)) (h9 : okElems et ys = true) (h10 : (ys.isEmpty || Nat.beq sz' et.size) = true)
    (hroom : roomA et (xs.length + ys.length) = true) (hys : ys ≠ []) (k1 : ∀ t', SegY E ops N L K pol r (i + 1) ((d, accA t' sz (xs ++ ys)) :: l) X (Y.set kk (t', true)) k) :
    SegY E ops N L K pol ({ dst := some d, op := .call { callee := .builtin .append, args := #[s, x], argTypes := #[ts, tx] }, type := ty, pos := pos, after := after, guard := guard } :: r) i l X Y k := by
  subst h6
  refine .loud hw rfl hn rfl rfl (fun _ h => by cases h) fun tm st hF => ?_
  have h0 : Abs.loud E noCall (pol i) tm st { dst := some d, op := .call { callee := .builtin .append, args := #[s, x], argTypes := #[ts, tx] }, type := ty, pos := pos, after := after, guard := guard } = appendOpA E (pol i == 1) st ts tx (evalO tm s) (evalO tm x) := rfl
  have hp : (pol i == 1) = false := by
    have := Nat.ne_of_beq_eq_false hpol
    simpa using this
  have hkl := (List.getElem?_eq_some_iff.1 hK).1
  have hset : ∀ p, (Y ++ K).set kk p = Y.set kk p ++ K := fun p => List.set_append_left _ _ hkl
  have hK2 : (Y ++ K)[kk]? = some (t, !xs.isEmpty) := by rw [List.getElem?_append_left hkl]; exact hK
  rw [h0, hF.ev hs, hF.ev hx, hp, appendOp_key h1 h2 h3 h4 h5 h7 st (h8 st) h9 h10]
  cases ys with
  | nil => exact absurd rfl hys
  | cons y ys =>
    cases xs with
    | nil =>
      refine ⟨accA st.next et.size ([] ++ y :: ys), st.newTok.ttag st.next e, X, Y.set kk (st.next, true), ?_, ?_, k1 st.next⟩
      · simp only [accA, appendA, List.nil_append]
        rw [if_pos (by simpa using hroom)]
        rfl
      · have := (hF.tokNew (by simpa using hK2)).ttag st.next e
        rw [hset] at this
        exact this
    | cons x0 xs =>
      have hK' : (Y ++ K)[kk]? = some (t, true) := by simpa using hK2
      refine ⟨accA st.next et.size (x0 :: xs ++ y :: ys), tokOnA st t e, X, Y.set kk (st.next, true), ?_, ?_, k1 st.next⟩
      · simp only [accA, appendA]
        rw [if_pos ⟨trivial, (hF.tok kk t hK').1, hroom⟩]
        rfl
      · have hF' : Fa N l (X ++ L) ((Y ++ K).set kk (st.next, true)) tm (tokOnA st t e) := by
          unfold tokOnA
          split
          · split
            · exact (hF.tokDrop hK').ttag _ _
            · exact hF.tokDrop hK'
          · exact hF.tokDrop hK'
        rw [hset] at hF'
        exact hF'
theorem SegY.call {f : Operand} {args : Array Operand} {argTypes : Array TypeId} {g : FuncId} {first cap vs : List AV} {p : List AV → St → Option (AV × St)} {v : AV} (hw : wantS ops l { dst := some d, op := .call { callee := .value f, args := args, argTypes := argTypes }, type := ty, pos := pos, after := after, guard := guard } = some true) (hn : Nat.blt d N = true) (hf : evL l f = some (.fn g first cap)) (ha : evLs l args.toList = some vs) (hp : E.prim g = some p) (hr : ∀ st, p (first ++ vs ++ cap) st = some (v, st)) (hz : ∀ st, freezeA st v = some (v, st))
    (k1 : SegY E ops N L K pol r (i + 1) ((d, v) :: l) X Y k) : SegY E ops N L K pol ({ dst := some d, op := .call { callee := .value f, args := args, argTypes := argTypes }, type := ty, pos := pos, after := after, guard := guard } :: r) i l X Y k := by
  intro tm s0 pre hF hpre
  obtain ⟨n, tr, tm', s1, l', X', Y', h1, h2, h3, h4⟩ := k1 (tm.put d v) s0 pre (hF.put hn v) hpre
  have h1 := runOpsT_mono (callF_mono n (n + 1) (by omega)) _ _ _ _ h1
  refine ⟨n + 1, ⟨tm, s0, s0, v, true⟩ :: tr, tm', s1, l', X', Y', ?_, h2, h3, fun k t o' ht ho => ?_⟩
  · have hl : Abs.loud E (callF E (n + 1)) (pol i) tm s0 { dst := some d, op := .call { callee := .value f, args := args, argTypes := argTypes }, type := ty, pos := pos, after := after, guard := guard } = some (v, s0) := by
      have : Abs.loud E (callF E (n + 1)) (pol i) tm s0 { dst := some d, op := .call { callee := .value f, args := args, argTypes := argTypes }, type := ty, pos := pos, after := after, guard := guard } = (match evalO tm f with | .fn g first cap => callF E (n + 1) g (first ++ args.toList.map (evalO tm) ++ cap) s0 | _ => none) := rfl
      rw [this, hF.ev hf, hF.evs ha]
      simp only [callF, hp]
      exact hr s0
    have hst : stepPre E (callF E (n + 1)) pre (pol i) i tm s0 { dst := some d, op := .call { callee := .value f, args := args, argTypes := argTypes }, type := ty, pos := pos, after := after, guard := guard } = some (v, s0) := by
      simp only [stepPre, stepOp, isLoud, if_true, hl, isFnCall, Bool.and_true, decide_eq_true_eq]
      split
      · exact hz s0
      · rfl
    simp only [runOpsT]
    rw [hF.want hw]
    dsimp only
    rw [hst]
    dsimp only [putO]
    rw [h1]
  · cases k with
    | zero =>
      simp only [List.getElem?_cons_zero, Option.some.injEq] at ht ho
      subst ht; subst ho
      exact ⟨hF.baseY.s, hF.baseY.s, fun _ h => by simp [isLoud] at h⟩
    | succ k =>
      simp only [List.getElem?_cons_succ] at ht ho
      exact h4 k t o' ht ho
theorem dyn_stays {dy : List (Nat × Nat)} {m : Nat} {tr1 tr4 : List Tr} (hlA : (ops.toList.take m).length = m) (hl1 : tr1.length = (ops.toList.take m).length)
    (hc : (dy.all fun p => Nat.blt p.1 m && Nat.blt p.2 m && (match ops.toList[p.2]? with | some o => !isLoud o.op | none => false)) = true)
    (a4 : ∀ (k : Nat) (t : Tr) (o : Oper), tr1[k]? = some t → (ops.toList.take m)[k]? = some o → SFa L K t.was ∧ SFa L K t.now ∧ (t.did = true → isLoud o.op = false → ∀ s, SFa L K s → Abs.quiet E t.tm s o = some t.v)) : dy.all (dynOk E ops (tr1 ++ tr4)) = true := by
  rw [List.all_eq_true] at hc ⊢
  intro p hp
  have hp' := hc p hp
  simp only [Bool.and_eq_true] at hp'
  obtain ⟨⟨p1, p2⟩, p4⟩ := hp'
  have p1 : p.1 < m := Eq.mp Nat.blt_eq p1
  have p2 : p.2 < m := Eq.mp Nat.blt_eq p2
  have g1 : (ops.toList.take m)[p.1]? = some ((ops.toList.take m)[p.1]'(by omega)) := List.getElem?_eq_getElem _
  have g2 : (ops.toList.take m)[p.2]? = some ((ops.toList.take m)[p.2]'(by omega)) := List.getElem?_eq_getElem _
  have g2' : ops.toList[p.2]? = some ((ops.toList.take m)[p.2]'(by omega)) := by
    rw [← g2, List.getElem?_take, if_pos p2]
  rw [g2'] at p4
  obtain ⟨e1, e2, _⟩ := a4 p.1 (tr1[p.1]'(by omega)) _ (List.getElem?_eq_getElem (by omega)) g1
  obtain ⟨_, _, e4⟩ := a4 p.2 (tr1[p.2]'(by omega)) _ (List.getElem?_eq_getElem (by omega)) g2
  have t1 : (tr1 ++ tr4)[p.1]? = some (tr1[p.1]'(by omega)) := by rw [List.getElem?_append_left (by omega)]; exact List.getElem?_eq_getElem _
  have t2 : (tr1 ++ tr4)[p.2]? = some (tr1[p.2]'(by omega)) := by rw [List.getElem?_append_left (by omega)]; exact List.getElem?_eq_getElem _
  unfold dynOk
  rw [t1, t2, ← Array.getElem?_toList, g2']
  dsimp only
  by_cases hd2 : (tr1[p.2]'(by omega)).did = true
  · have e4 := e4 hd2 (by simpa using p4)
    rw [e4 _ e1, e4 _ e2]
    simp [AV.beq_refl]
  · simp [hd2]
theorem WS.drawY (m : Nat) (Y : List (Nat × Bool)) {id : Nat} {ops : Array Oper} {dy : List (Nat × Nat)} (hd : E.dyn fid id = dy) (ho : hasAlloc ops = false) (hm : Nat.ble m ops.toList.length = true)
    (hc : (dy.all fun p => Nat.blt p.1 m && Nat.blt p.2 m && (match ops.toList[p.2]? with | some o => !isLoud o.op | none => false)) = true)
    (h : SegY E ops N L K (E.pol fid id) (ops.toList.take m) 0 l [] Y fun l1 X Y => OS E false (E.pol fid id) ops (ops.toList.drop m) m N l1 (X ++ L) (Y ++ K) Q) (hk : E.mks fid id = false := by rfl) : WS E fid N (.region id ops true) l L (Y ++ K) Q := by
  intro tm st hF
  have hm2 := Nat.le_of_ble_eq_true hm
  have hlA : (ops.toList.take m).length = m := by rw [List.length_take]; omega
  have hF0 := hF.at (m := st.next + ops.size) (by omega)
  generalize hs0 : st.at (st.next + ops.size) = s0 at hF0
  obtain ⟨n1, tr1, tm1, s1, l1, X1, Y1, a1, a2, a3, a4⟩ := h tm s0 (some (st.next, false)) hF0 (fun b hb => by cases hb; rfl)
  obtain ⟨n5, tr4, tm4, st4, c1, _, c3⟩ := a3 (some (st.next, false)) tm1 _ a2 (fun b hb => ⟨ho, by cases hb; rfl⟩)
  have a1 := runOpsT_mono (callF_mono n1 (max n1 n5) (by omega)) _ _ _ _ a1
  have c1 := runOpsT_mono (callF_mono n5 (max n1 n5) (by omega)) _ _ _ _ c1
  have hl1 := runOpsT_len a1
  have hops : ops.toList = ops.toList.take m ++ ops.toList.drop m := (List.take_append_drop m _).symm
  have hrun : runOpsT E (callF E (max n1 n5)) (some (st.next, false)) (E.pol fid id) ops ops.toList 0 tm s0 = some (tr1 ++ tr4, tm4, st4) := by
    have := runOpsT_append _ _ _ _ _ a1 (by rw [Nat.zero_add, hlA]; exact c1)
    rw [← hops] at this
    exact this
  refine ⟨max n1 n5 + 1, .normal, tm4, st4, ?_, c3⟩
  have hpre : preObjs E st.next ops.toList 0 st.objs = some st.objs := preObjs_none _ _ _ ho
  have h1' := runOpsT_mono (callF_mono (max n1 n5) (max n1 n5 + 1) (by omega)) _ _ _ _ hrun
  rw [← hs0] at h1'
  unfold St.at at h1'
  simp only [exec, execReg, if_true, hpre, hd, hk]
  have hdyn := dyn_stays (tr4 := tr4) hlA hl1 hc a4
  cases dy with
  | nil =>
    dsimp only
    rw [(runOps_of_T _ _ _ _ h1').1]
  | cons p0 ps =>
    dsimp only
    rw [h1']
    dsimp only
    rw [if_pos hdyn]
theorem WS.drawA (m : Nat) {id : Nat} {ops : Array Oper} {dy : List (Nat × Nat)} {dA : Nat} {t : TypeId} {z : Operand} {y : Ty} {cs : List AV} {tyA tyS : TypeId} {posA posS : String} {afA afS : Array Edge} (hd : E.dyn fid id = dy) (hm : Nat.ble m ops.toList.length = true)
    (hc : (dy.all fun p => Nat.blt p.1 m && Nat.blt p.2 m && (match ops.toList[p.2]? with | some o => !isLoud o.op | none => false)) = true) (ht : E.ty t = some y) (hz0 : y.zeroV = .agg cs) (hn : Nat.blt dA N = true)
    (hdr : ops.toList.drop m = [{ dst := some dA, op := .alloc t, type := tyA, pos := posA, after := afA, guard := none }, { dst := none, op := .store t (.tmp dA) z, type := tyS, pos := posS, after := afS, guard := none }])
    (hpre : ∀ base acc, preObjs E base ops.toList 0 acc = some ((base + m, .row y.size [y.zeroV]) :: acc))
    (h : ∀ b, SegY E ops N ((b, .row y.size [y.zeroV]) :: L) K (E.pol fid id) (ops.toList.take m) 0 l [] [] fun l1 X Y => ∃ v, evL ((dA, .ptr b 0 0) :: l1) z = some v ∧ v.ok = true ∧ v.cells.length = y.size ∧ Nat.ble v.cells.length cs.length = true ∧
      QS N .normal ((dA, .ptr b 0 0) :: l1) (X ++ (b, .row y.size [.agg (v.cells ++ cs.drop v.cells.length)]) :: L) (Y ++ K) Q) (hk : E.mks fid id = false := by rfl) : WS E fid N (.region id ops true) l L K Q := by
  intro tm st hF
  have hm2 := Nat.le_of_ble_eq_true hm
  have hlA : (ops.toList.take m).length = m := by rw [List.length_take]; omega
  have hlo : ops.toList.length = m + 2 := by
    have := congrArg List.length hdr
    simp only [List.length_drop, List.length_cons, List.length_nil] at this
    omega
  have hsz : ops.size = m + 2 := by rw [← hlo]; exact Array.length_toList.symm
  have hF1 := ((hF.at (m := st.next + m) (by omega)).new (.row y.size [y.zeroV])).at (m := st.next + ops.size) (by show st.next + m + 1 ≤ _; omega)
  generalize hs0 : ((st.at (st.next + m)).new (.row y.size [y.zeroV])).at (st.next + ops.size) = s0 at hF1
  obtain ⟨n1, tr1, tm1, s1, l1, X1, Y1, a1, a2, a3, a4⟩ := h (st.next + m) tm s0 (some (st.next, false)) hF1 (fun b hb => by cases hb; rfl)
  obtain ⟨v, v1, v2, v3, v4, v5⟩ := a3
  have hl1 := runOpsT_len a1
  have hF2 := a2.put (d := dA) hn (.ptr (st.next + m) 0 0)
  have hget : (X1 ++ (st.next + m, AObj.row y.size [y.zeroV]) :: L)[X1.length]? = some (st.next + m, .row y.size [y.zeroV]) := by
    rw [List.getElem?_append_right (Nat.le_refl _), Nat.sub_self]; rfl
  have hF3 := hF2.set hget (.row y.size [.agg (v.cells ++ cs.drop v.cells.length)])
  have hset : (X1 ++ (st.next + m, AObj.row y.size [y.zeroV]) :: L).set X1.length (st.next + m, .row y.size [.agg (v.cells ++ cs.drop v.cells.length)]) = X1 ++ (st.next + m, .row y.size [.agg (v.cells ++ cs.drop v.cells.length)]) :: L := by
    rw [List.set_append_right _ _ (Nat.le_refl _), Nat.sub_self]; rfl
  rw [hset] at hF3
  have hq := v5 _ _ hF3
  have hsA : stepPre E (callF E n1) (some (st.next, false)) (E.pol fid id m) m tm1 s1 { dst := some dA, op := .alloc t, type := tyA, pos := posA, after := afA, guard := none } = some (.ptr (st.next + m) 0 0, s1) := rfl
  have hsS : stepPre E (callF E n1) (some (st.next, false)) (E.pol fid id (m + 1)) (m + 1) (tm1.put dA (.ptr (st.next + m) 0 0)) s1 { dst := none, op := .store t (.tmp dA) z, type := tyS, pos := posS, after := afS, guard := none } = some (.junk, s1.put (st.next + m) (.row y.size [.agg (v.cells ++ cs.drop v.cells.length)])) := by
    have h0 : stepPre E (callF E n1) (some (st.next, false)) (E.pol fid id (m + 1)) (m + 1) (tm1.put dA (.ptr (st.next + m) 0 0)) s1 { dst := none, op := .store t (.tmp dA) z, type := tyS, pos := posS, after := afS, guard := none } = (match (match E.ty t with | some ty => if (evalO (tm1.put dA (.ptr (st.next + m) 0 0)) z).cells.length = ty.size then (storeA s1 (evalO (tm1.put dA (.ptr (st.next + m) 0 0)) (.tmp dA)) (evalO (tm1.put dA (.ptr (st.next + m) 0 0)) z)).map fun s => (.junk, s) else none | none => none) with | some (v, st') => if (decide (E.pol fid id (m + 1) = 2) && false) = true then freezeA st' v else some (v, st') | none => none) := rfl
    have hx : evalO (tm1.put dA (.ptr (st.next + m) 0 0)) (.tmp dA) = .ptr (st.next + m) 0 0 := hF2.ev (by simp [evL, lk])
    rw [h0, ht, hx, hF2.ev v1]
    dsimp only
    rw [if_pos v3]
    have hg := (hF2.obj X1.length _ _ hget).1
    simp only [storeA, hg, List.getElem?_cons_zero, hz0]
    rw [if_pos (show (v.ok && decide (0 + v.cells.length ≤ (AV.agg cs).cells.length)) = true by rw [v2, Bool.true_and, Nat.zero_add]; exact decide_eq_true (Nat.le_of_ble_eq_true v4))]
    simp
  have hc1 : runOpsT E (callF E n1) (some (st.next, false)) (E.pol fid id) ops (ops.toList.drop m) m tm1 s1 = some ([⟨tm1, s1, s1, .ptr (st.next + m) 0 0, true⟩, ⟨tm1.put dA (.ptr (st.next + m) 0 0), s1, s1.put (st.next + m) (.row y.size [.agg (v.cells ++ cs.drop v.cells.length)]), .junk, true⟩], tm1.put dA (.ptr (st.next + m) 0 0), s1.put (st.next + m) (.row y.size [.agg (v.cells ++ cs.drop v.cells.length)])) := by
    rw [hdr]
    simp only [runOpsT, wantedA, hsA, putO, hsS]
  have hops : ops.toList = ops.toList.take m ++ ops.toList.drop m := (List.take_append_drop m _).symm
  have hrun := runOpsT_append _ _ _ _ _ a1 (by rw [Nat.zero_add, hlA]; exact hc1)
  rw [← hops] at hrun
  have hdyn := dyn_stays (tr4 := [⟨tm1, s1, s1, .ptr (st.next + m) 0 0, true⟩, ⟨tm1.put dA (.ptr (st.next + m) 0 0), s1, s1.put (st.next + m) (.row y.size [.agg (v.cells ++ cs.drop v.cells.length)]), .junk, true⟩]) hlA hl1 hc a4
  refine ⟨n1 + 1, .normal, _, _, ?_, hq⟩
  have h1' := runOpsT_mono (callF_mono n1 (n1 + 1) (by omega)) _ _ _ _ hrun
  rw [← hs0] at h1'
  unfold St.at St.new at h1'
  simp only [exec, execReg, if_true, hpre, hd, hk]
  cases dy with
  | nil =>
    dsimp only
    rw [(runOps_of_T _ _ _ _ h1').1]
  | cons p0 ps =>
    dsimp only
    rw [h1']
    dsimp only
    rw [if_pos hdyn]
end
end Go.Abs

namespace Go.Abs
open Go.RowKit
section
variable {E : Env} {fid N : Nat} {l : List (Nat × AV)} {L X : List (Nat × AObj)} {K Y : List (Nat × Bool)} {Q : AExit → TM → St → Prop}
variable {pol : Nat → Nat} {ops : Array Oper} {o : Oper} {r : List Oper} {i : Nat} {d : Nat} {ty : TypeId} {pos : String} {after : Array Edge} {guard : Option (Nat × Bool)}
variable {k : List (Nat × AV) → List (Nat × AObj) → List (Nat × Bool) → Prop}
theorem SegY.callW {D : Type} {f : Operand} {args : Array Operand} {argTypes : Array TypeId} {g : FuncId} {first cap vs : List AV} (p : D → Prop) (vf : D → AV) (Xf : D → List (Nat × AObj)) (Yf : D → List (Nat × Bool)) (hw : wantS ops l { dst := some d, op := .call { callee := .value f, args := args, argTypes := argTypes }, type := ty, pos := pos, after := after, guard := guard } = some true) (hn : Nat.blt d N = true) (hf : evL l f = some (.fn g first cap)) (ha : evLs l args.toList = some vs)
    (hr : ∀ st, SFa (X ++ L) (Y ++ K) st → CW E g (first ++ vs ++ cap) st fun x st' => ∃ dd st2, p dd ∧ (bif Nat.beq (pol i) 2 then freezeA st' x else some (x, st')) = some (vf dd, st2) ∧ SFa (Xf dd ++ L) (Yf dd ++ K) st2)
    (k1 : ∀ dd, p dd → SegY E ops N L K pol r (i + 1) ((d, vf dd) :: l) (Xf dd) (Yf dd) k) : SegY E ops N L K pol ({ dst := some d, op := .call { callee := .value f, args := args, argTypes := argTypes }, type := ty, pos := pos, after := after, guard := guard } :: r) i l X Y k := by
  intro tm s0 pre hF hpre
  obtain ⟨n1, x, st', hc, dd, st2, hx, hz, hS⟩ := hr s0 hF.s
  have hF2 : Fa N ((d, vf dd) :: l) (Xf dd ++ L) (Yf dd ++ K) (tm.put d (vf dd)) st2 := (hF.withS2 hS).put hn (vf dd)
  obtain ⟨n, tr, tm', s1, l', X', Y', h1, h2, h3, h4⟩ := k1 dd hx (tm.put d (vf dd)) st2 pre hF2 hpre
  have h1 := runOpsT_mono (callF_mono n (Nat.max n n1) (Nat.le_max_left _ _)) _ _ _ _ h1
  refine ⟨Nat.max n n1, ⟨tm, s0, st2, vf dd, true⟩ :: tr, tm', s1, l', X', Y', ?_, h2, h3, fun k t o' ht ho => ?_⟩
  · have hl : Abs.loud E (callF E (Nat.max n n1)) (pol i) tm s0 { dst := some d, op := .call { callee := .value f, args := args, argTypes := argTypes }, type := ty, pos := pos, after := after, guard := guard } = some (x, st') := by
      have : Abs.loud E (callF E (Nat.max n n1)) (pol i) tm s0 { dst := some d, op := .call { callee := .value f, args := args, argTypes := argTypes }, type := ty, pos := pos, after := after, guard := guard } = (match evalO tm f with | .fn g first cap => callF E (Nat.max n n1) g (first ++ args.toList.map (evalO tm) ++ cap) s0 | _ => none) := rfl
      rw [this, hF.ev hf, hF.evs ha]
      exact callF_mono n1 (Nat.max n n1) (Nat.le_max_right _ _) _ _ _ _ hc
    have hst : stepPre E (callF E (Nat.max n n1)) pre (pol i) i tm s0 { dst := some d, op := .call { callee := .value f, args := args, argTypes := argTypes }, type := ty, pos := pos, after := after, guard := guard } = some (vf dd, st2) := by
      cases hb : Nat.beq (pol i) 2 with
      | true =>
        have hpi : pol i = 2 := Nat.eq_of_beq_eq_true hb
        rw [hb] at hz
        rw [hpi] at hl ⊢
        simp only [stepPre, stepOp, isLoud, if_true, hl, isFnCall, Bool.and_true, decide_true]
        exact hz
      | false =>
        have hpi : ¬ pol i = 2 := Nat.ne_of_beq_eq_false hb
        rw [hb] at hz
        simp only [cond_false, Option.some.injEq, Prod.mk.injEq] at hz
        obtain ⟨rfl, rfl⟩ := hz
        simp only [stepPre, stepOp, isLoud, if_true, hl, isFnCall, Bool.and_true, decide_eq_false hpi]
        rfl
    simp only [runOpsT]
    rw [hF.want hw]
    dsimp only
    rw [hst]
    dsimp only [putO]
    rw [h1]
  · cases k with
    | zero =>
      simp only [List.getElem?_cons_zero, Option.some.injEq] at ht ho
      subst ht; subst ho
      exact ⟨hF.baseY.s, hF2.baseY.s, fun _ h => by simp [isLoud] at h⟩
    | succ k =>
      simp only [List.getElem?_cons_succ] at ht ho
      exact h4 k t o' ht ho
end
section
variable {E : Env} {N : Nat} {l : List (Nat × AV)} {L : List (Nat × AObj)} {K : List (Nat × Bool)} {Q : AExit → TM → St → Prop}
variable {pol : Nat → Nat} {ops : Array Oper} {r : List Oper} {i : Nat} {d : Nat} {ty : TypeId} {pos : String} {after : Array Edge} {guard : Option (Nat × Bool)}
theorem OD.appendO {ts tx e : TypeId} {s x : Operand} {sz sz' : Nat} {ys : List AV} {a : AV} {tys tyx et : Ty} (hn : Nat.blt d N = true) (hpol : Nat.beq (pol i) 1 = true) (hs : evL l s = some (.vs sz .full [])) (hx : evL l x = some a)
    (h1 : E.ty ts = some tys) (h2 : E.ty tx = some tyx) (h3 : tys.d = .slice e) (h4 : E.ty e = some et) (h5 : Nat.blt 0 et.size = true) (h6 : sz = et.size) (h7 : (tyx.d = .string ∧ isStrA a = true) ∨ ((∃ e', tyx.d = .slice e') ∧ isStrA a = false)) (h8 : ∀ st, SFa L [] st → elemsA st a = some (sz', ys)) (h9 : okElems et ys = true) (h10 : (ys.isEmpty || Nat.beq sz' et.size) = true)
    (hroom : roomA et ys.length = true) (k : ∀ b, OS E false pol ops r (i + 1) N ((d, .sl sz b 0 ys.length) :: l) ((b, .row sz ys) :: L) K Q) :
    OD E false pol ops { dst := some d, op := .call { callee := .builtin .append, args := #[s, x], argTypes := #[ts, tx] }, type := ty, pos := pos, after := after, guard := guard } r i N l L K Q := by
  subst h6
  refine .loud rfl rfl (fun _ h => by cases h) fun tm st hF => ?_
  have h0 : Abs.loud E noCall (pol i) tm st { dst := some d, op := .call { callee := .builtin .append, args := #[s, x], argTypes := #[ts, tx] }, type := ty, pos := pos, after := after, guard := guard } = appendOpA E (pol i == 1) st ts tx (evalO tm s) (evalO tm x) := rfl
  have hp : (pol i == 1) = true := by
    have := Nat.eq_of_beq_eq_true hpol
    simp [this]
  rw [h0, hF.ev hs, hF.ev hx, hp, appendOp_key h1 h2 h3 h4 h5 h7 st (h8 st hF.s.noK) h9 h10]
  refine ⟨.sl et.size st.next 0 ys.length, st.new (.row et.size ys), _, (st.next, .row et.size ys) :: L, K, ?_, (hF.new _).put hn _, k st.next⟩
  simp only [appendA]
  rw [if_pos ⟨trivial, by simpa using hroom⟩]
  rfl
end
theorem elems_row {st : St} {sz b n : Nat} {xs : List AV} (hg : st.get b = some (.row sz xs)) (hn : xs.length = n) : elemsA st (.sl sz b 0 n) = some (sz, xs) := by
  subst hn
  simp [elemsA, hg]
end Go.Abs

namespace Go.OptEnv
open Go Go.Proofs Go.Abs Go.RowKit Go.NetM
def GNet.nexts (n : GNet) : List Int := n.regs.xs.map (·.next)
def GNet.inits (n : GNet) : List UInt8 := n.regs.xs.map (·.init)
theorem binRem {E : Env} {t : TypeId} {x y : Operand} {k : IntKind} {a b : Int} (h : b ≠ 0) : binA E .rem t x y (.int k a) (.int k b) = some (.int k (a.tmod b)) := by
  have : binA E .rem t x y (.int k a) (.int k b) = (if k = k then (if b = 0 then none else some (.int k (a.tmod b))) else none) := rfl
  rw [this, if_pos rfl, if_neg h]
theorem gof_xs {α : Type} (l : List α) : (GSl.of l).xs = l := by cases l <;> rfl
theorem okG_of {n : GNet} {k : Nat} (hk : (k : Int) = n.first) (h : gatesOk n.first n.gates.xs = true) : okG k n.gates.xs := fun i hi => by
  have h1 := h
  rw [← List.take_append_drop (i + 1) n.gates.xs] at h1
  have h2 := gatesOk_app _ _ _ h1
  rw [gatesOk_take hi] at h2
  simp only [Bool.and_eq_true, litOk, decide_eq_true_eq] at h2
  obtain ⟨_, ⟨a1, a2⟩, a3, a4⟩ := h2
  refine ⟨⟨a1, by omega⟩, a3, by omega⟩
end Go.OptEnv

namespace Go.OptEnv
open Go Go.Proofs Go.Abs Go.RowKit Go.NetM
set_option maxRecDepth 10000
def Rel127 : Rel := RelF (fun a : Int => 0 ≤ a ∧ a < 4611686018427387904) (fun a => [.int .i64 a]) fun a => .int .i64 (flipL a 1)
def Rel99 : Rel := RelF (fun p : GSl Int × Int => (0 ≤ p.2 ∧ p.2 < 4611686018427387904 ∧ p.2 / 2 < p.1.xs.length) ∧ (0 ≤ p.1.xs.getD (p.2 / 2).toNat 0 ∧ p.1.xs.getD (p.2 / 2).toNat 0 < 4611686018427387904)) (fun p => [p.1.av 1 intAV, .int .i64 p.2]) fun p => .int .i64 (atL p.1.xs p.2)
theorem at_odd {all : List Int} {l : Int} (h : l % 2 = 1) : atL all l = flipL (all.getD (l / 2).toNat 0) 1 := by unfold atL; rw [h]
theorem at_even {all : List Int} {l : Int} (h : ¬ l % 2 = 1) : atL all l = all.getD (l / 2).toNat 0 := by
  unfold atL flipL
  rw [if_neg h]
theorem bare_valid {n : GNet} (hv : validM n = true) : validM (bareN (cloneG n.ins) (n.regs.xs.map zeroR)) = true := by
  have v := validM_iff.1 hv
  refine validM_iff.2 ⟨by simp [bareN, gof_xs], by simp only [bareN, clone_xs]; exact v.ins, ?_, ?_, ?_, ?_, ?_, ?_⟩
  · simp only [bareN, gof_xs, List.map_map]
    exact v.regs
  · simp only [bareN, gof_xs]; rfl
  · simp only [bareN, gof_xs]; rfl
  · have := v.inits
    simp only [bareN, gof_xs, List.all_map]
    exact this
  · simp only [bareN, gof_xs, List.all_map, List.all_eq_true, Function.comp]
    intro x _
    exact decide_eq_true ⟨by simp [zeroR], by simp only [zeroR, GNet.nodes, GNet.first]; omega⟩
  · simp only [bareN, gof_xs]; rfl
theorem bare_fits {n : GNet} (hn : FitsN n) : FitsN (bareN (cloneG n.ins) (n.regs.xs.map zeroR)) := by
  obtain ⟨f1, f2, f3, f4, m1, m2, m3, g1, g2, g3⟩ := hn
  refine ⟨by simp only [bareN, clone_xs]; exact f1, by simp only [bareN, gof_xs, List.length_map]; exact f2, by simp [bareN, gof_xs], by simp [bareN, gof_xs], by simp only [bareN, clone_xs]; exact m1, ?_, by simp [bareN, gof_xs], by simp [bareN, gof_xs], ?_, by simp [bareN, gof_xs]⟩
  · simp only [bareN, gof_xs]
    intro r hr
    obtain ⟨x, hx, rfl⟩ := List.mem_map.1 hr
    exact m2 x hx
  · simp only [bareN, gof_xs]
    intro r hr
    obtain ⟨x, hx, rfl⟩ := List.mem_map.1 hr
    exact ⟨by simp [zeroR], by simp [zeroR]⟩
attribute [local irreducible] WS QS OS OD Abs.Sub SubO SubK CW GSl.av accA growA
section
variable {pr : Prims}
theorem run127 (h1 : pr 127 = none) (a : Int) (ha : 0 ≤ a ∧ a < 4611686018427387904) (st : St) : CW (En pr) 127 [.int .i64 a] st fun r _ => r = .int .i64 (flipL a 1) := by
  have e1 : a.tmod 2 = a % 2 := Int.tmod_eq_emod_of_nonneg ha.1
  refine CW.start (N := 10) h1 rfl rfl ?_
  repeat' (first | (refine OS.do rfl ?_; first | refine OD.bin rfl rfl rfl (binRem (by omega)) ?_ | refine OD.auto rfl rfl ?_) | refine OS.nil ?_ | refine WS.seq ?_ | refine QS.seqN ?_ | refine WS.region ?_ | refine WS.condE rfl (fun _ => ?_) (fun _ => ?_) | refine WS.skip ?_ | refine WS.ret ?_ | refine QS.seqR ?_)
  all_goals (rename_i hc; rw [e1] at hc; refine QS.retR (by rfl) fun _ => ?_; unfold flipL; rw [if_pos rfl])
  · rw [if_neg (by omega), wrap64 (by omega) (by omega)]
  · rw [if_pos (by omega), wrap64 (by omega) (by omega)]
theorem con127 (h1 : pr 127 = none) : Con2 (En pr) 127 Rel127 := con_eq (fun _ => rfl) (fun _ => ⟨rfl, rfl⟩) fun d hd st => run127 h1 d hd st
theorem use127 (h : Has pr 127 Rel127) {a : Int} (ha : 0 ≤ a ∧ a < 4611686018427387904) (st : St) : primOf Rel127 [.int .i64 a] st = some (.int .i64 (flipL a 1), st) := h.use (r := .int .i64 (flipL a 1)) ⟨a, ha, rfl, rfl⟩ st
theorem run99 (h1 : pr 99 = none) (h127 : Has pr 127 Rel127) (v : GSl Int) (k : Int) (hk : 0 ≤ k ∧ k < 4611686018427387904 ∧ k / 2 < v.xs.length) (hv : 0 ≤ v.xs.getD (k / 2).toNat 0 ∧ v.xs.getD (k / 2).toNat 0 < 4611686018427387904) (st : St) : CW (En pr) 99 [v.av 1 intAV, .int .i64 k] st fun r _ => r = .int .i64 (atL v.xs k) := by
  have e1 : k.tmod 2 = k % 2 := Int.tmod_eq_emod_of_nonneg hk.1
  have hw : IntKind.i64.wrap (k.tdiv 2) = k / 2 := by
    rw [Int.tdiv_eq_ediv_of_nonneg hk.1]
    exact wrap64 (by omega) (by omega)
  have hx : v.xs[(k / 2).toNat]? = some (v.xs.getD (k / 2).toNat 0) := by
    rw [List.getD_eq_getElem?_getD, List.getElem?_eq_getElem (by omega)]; rfl
  have u127 := use127 h127 hv
  refine CW.start (N := 19) h1 rfl rfl ?_
  repeat' (first | (refine OS.do rfl ?_; first | refine OD.bin rfl rfl rfl (binRem (by omega)) ?_ | refine OD.indexAddr rfl rfl rfl (indexAddrA_int rfl rfl rfl rfl (by rw [hw]; omega) (by rw [hw]; exact hx)) ?_ | refine OD.auto rfl rfl ?_ | refine OD.call rfl rfl rfl h127.eq u127 (fun _ => rfl) ?_) | refine OS.nil ?_ | refine WS.seq ?_ | refine QS.seqN ?_ | refine WS.region ?_ | refine WS.condE rfl (fun _ => ?_) (fun _ => ?_) | refine WS.skip ?_ | refine WS.ret ?_ | refine QS.seqR ?_)
  all_goals (rename_i hc; rw [e1] at hc; refine QS.retR (by rfl) fun _ => ?_)
  · rw [at_odd hc]
  · rw [at_even hc]; rfl
theorem con99 (h1 : pr 99 = none) (h127 : Has pr 127 Rel127) : Con2 (En pr) 99 Rel99 := con_eq (fun d => by simp [AV.freeL, AV.free, free_av int_free]) (fun _ => ⟨rfl, rfl⟩) fun d hd st => run99 h1 h127 d.1 d.2 hd.1 hd.2 st
theorem run138 (h1 : pr 138 = none) (s : GSl (Int × Int)) (hs : s.xs.length ≤ 1000000) (st : St) : CW (En pr) 138 [s.av 2 gateAV] st fun r _ => AV.free r = true ∧ AV.plain r = (cloneG s).av 2 gateAV := by
  rcases clone_cases s 2 gateAV with ⟨hx, e1, e2⟩ | ⟨hx, e1, e2⟩ | ⟨e1, e2⟩
  · rw [e1, e2]
    refine CW.start (N := 8) h1 rfl rfl ?_
    repeat' (first | (refine OS.do rfl ?_; first | refine OD.auto rfl rfl ?_) | refine OS.nil ?_ | refine WS.seq ?_ | refine QS.seqN ?_ | refine WS.region ?_ | refine WS.condT rfl ?_ | refine WS.ret ?_ | refine QS.seqR ?_)
    exact QS.retR (by rfl) fun _ => ⟨rfl, rfl⟩
  · rw [e1, e2]
    refine CW.start (N := 8) h1 rfl rfl ?_
    repeat' (first | refine OS.newK (OS.do rfl (OD.appendG 0 (b := false) (t := 0) (sz := 2) (xs := []) (ys := []) (sz' := 0) rfl rfl (by unfold growA; rfl) rfl rfl rfl rfl rfl rfl rfl rfl (.inr ⟨⟨_, rfl⟩, rfl⟩) (fun _ => rfl) rfl rfl rfl fun t' => ?_)) | (refine OS.do rfl ?_; first | refine OD.auto rfl rfl ?_) | refine OS.nil ?_ | refine WS.seq ?_ | refine QS.seqN ?_ | refine WS.region ?_ | refine WS.condF rfl ?_ | refine WS.skip ?_ | refine WS.ret ?_)
    refine QS.retR (by rfl) fun _ => ?_
    unfold growA
    exact ⟨rfl, rfl⟩
  · rw [e1, e2]
    refine CW.start (N := 8) h1 rfl rfl ?_
    repeat' (first | refine OS.newK (OS.do rfl (OD.appendG 0 (b := false) (t := 0) (sz := 2) (xs := []) (ys := s.xs.map gateAV) (sz' := 2) rfl rfl (by unfold growA; rfl) rfl rfl rfl rfl rfl rfl rfl rfl (.inr ⟨⟨_, rfl⟩, rfl⟩) (fun _ => rfl) (okElems_map (f := gateAV) (n := 2) rfl (fun _ => ⟨rfl, rfl⟩) _) (by cases s.xs <;> rfl) (roomB rfl (by simp; omega)) fun t' => ?_)) | (refine OS.do rfl ?_; first | refine OD.auto rfl rfl ?_) | refine OS.nil ?_ | refine WS.seq ?_ | refine QS.seqN ?_ | refine WS.region ?_ | refine WS.condF rfl ?_ | refine WS.skip ?_ | refine WS.ret ?_)
    refine QS.retR (by rfl) fun _ => ?_
    rw [List.nil_append]
    exact ⟨free_grow gate_free, by rw [plain_grow gate_plain]; unfold GSl.av GSl.some; rfl⟩
def Rel138 : Rel := RelF (fun s : GSl (Int × Int) => s.xs.length ≤ 1000000) (fun s => [s.av 2 gateAV]) fun s => (cloneG s).av 2 gateAV
theorem con138 (h1 : pr 138 = none) : Con2 (En pr) 138 Rel138 := con_of (fun d => by simp [AV.freeL, free_av gate_free]) fun d hd st => run138 h1 d hd st
end
section
variable {pr : Prims} {L : List (Nat × AObj)} {K : List (Nat × Bool)} {st : St}
theorem run80n (h1 : pr 80 = none) (hS : SFa L K st) : CW (En pr) 80 [.nilsl] st fun r st' => r = .nilsl ∧ SFa L K st' := by
  refine CW.startS (N := 8) h1 rfl rfl hS ?_
  repeat' (first | (refine OS.do rfl ?_; first | refine OD.auto rfl rfl ?_) | refine OS.nil ?_ | refine WS.seq ?_ | refine QS.seqN ?_ | refine WS.region ?_ | refine WS.condT rfl ?_ | refine WS.ret ?_ | refine QS.seqR ?_)
  exact QS.retRS (by rfl) fun st hs => ⟨rfl, hs⟩
theorem run80o (h1 : pr 80 = none) {a : AV} {sz' : Nat} {xs : List GPin} (hnl : ∀ xo yo, binA (En pr) .eql 25 xo yo a .nilsl = some (.bool false)) (hstr : isStrA a = false) (hel : ∀ st, SFa L [] st → elemsA st a = some (sz', xs.map pinAV)) (hsz : ((xs.map pinAV).isEmpty || Nat.beq sz' 2) = true) (hx : xs.length ≤ 1000000) (hS : SFa L K st) :
    CW (En pr) 80 [a] st fun r st' => ∃ b : Nat, True ∧ r = .sl 2 b 0 xs.length ∧ SFa ((b, .row 2 (xs.map pinAV)) :: L) K st' := by
  refine CW.startS (N := 8) h1 rfl rfl hS ?_
  repeat' (first | (refine OS.do rfl ?_; first | refine OD.bin rfl rfl rfl (hnl _ _) ?_ | refine OD.auto rfl rfl ?_ | refine OD.appendO rfl rfl rfl rfl rfl rfl rfl rfl rfl rfl (.inr ⟨⟨_, rfl⟩, hstr⟩) hel (okElems_map (f := pinAV) (n := 2) rfl (fun _ => ⟨rfl, rfl⟩) _) hsz (roomB rfl (by simp; omega)) (fun b => ?_)) | refine OS.nil ?_ | refine WS.seq ?_ | refine QS.seqN ?_ | refine WS.region ?_ | refine WS.condF rfl ?_ | refine WS.skip ?_ | refine WS.ret ?_)
  exact QS.retRS (by rfl) fun st hs => ⟨b, trivial, by rw [List.length_map]; rfl, hs⟩
theorem run137n (h1 : pr 137 = none) (hS : SFa L K st) : CW (En pr) 137 [.nilsl] st fun r st' => r = .nilsl ∧ SFa L K st' := by
  refine CW.startS (N := 8) h1 rfl rfl hS ?_
  repeat' (first | (refine OS.do rfl ?_; first | refine OD.auto rfl rfl ?_) | refine OS.nil ?_ | refine WS.seq ?_ | refine QS.seqN ?_ | refine WS.region ?_ | refine WS.condT rfl ?_ | refine WS.ret ?_ | refine QS.seqR ?_)
  exact QS.retRS (by rfl) fun st hs => ⟨rfl, hs⟩
theorem run137o (h1 : pr 137 = none) {a : AV} {sz' : Nat} {xs : List GReg} (hnl : ∀ xo yo, binA (En pr) .eql 23 xo yo a .nilsl = some (.bool false)) (hstr : isStrA a = false) (hel : ∀ st, SFa L [] st → elemsA st a = some (sz', xs.map regAV)) (hsz : ((xs.map regAV).isEmpty || Nat.beq sz' 3) = true) (hx : xs.length ≤ 1000000) (hS : SFa L K st) :
    CW (En pr) 137 [a] st fun r st' => ∃ b : Nat, True ∧ r = .sl 3 b 0 xs.length ∧ SFa ((b, .row 3 (xs.map regAV)) :: L) K st' := by
  refine CW.startS (N := 8) h1 rfl rfl hS ?_
  repeat' (first | (refine OS.do rfl ?_; first | refine OD.bin rfl rfl rfl (hnl _ _) ?_ | refine OD.auto rfl rfl ?_ | refine OD.appendO rfl rfl rfl rfl rfl rfl rfl rfl rfl rfl (.inr ⟨⟨_, rfl⟩, hstr⟩) hel (okElems_map (f := regAV) (n := 3) rfl (fun _ => ⟨rfl, rfl⟩) _) hsz (roomB rfl (by simp; omega)) (fun b => ?_)) | refine OS.nil ?_ | refine WS.seq ?_ | refine QS.seqN ?_ | refine WS.region ?_ | refine WS.condF rfl ?_ | refine WS.skip ?_ | refine WS.ret ?_)
  exact QS.retRS (by rfl) fun st hs => ⟨b, trivial, by rw [List.length_map]; rfl, hs⟩
end
end Go.OptEnv

namespace Go.Abs
open Go.RowKit
def slR (sz b : Nat) : List AV → AV
  | [] => .nilsl
  | x :: xs => .sl sz b 0 (x :: xs).length
def slO (sz b : Nat) : List AV → List (Nat × AObj)
  | [] => []
  | x :: xs => [(b, .row sz (x :: xs))]
theorem slR_cell {sz b : Nat} {xs : List AV} : (slR sz b xs).cellOk = true := by cases xs <;> rfl
theorem slR_ok {sz b : Nat} {xs : List AV} : (slR sz b xs).ok = true := by cases xs <;> rfl
theorem slR_cells {sz b : Nat} {xs : List AV} : (slR sz b xs).cells = [slR sz b xs] := by cases xs <;> rfl
theorem slR_long {sz b : Nat} {xs : List AV} (h : xs ≠ []) : slR sz b xs = .sl sz b 0 xs.length ∧ slO sz b xs = [(b, .row sz xs)] := by
  cases xs with
  | nil => exact absurd rfl h
  | cons x xs => exact ⟨rfl, rfl⟩
theorem SubO.rot {L : List (Nat × AObj)} {p : Nat × AObj} : SubO (p :: L) (L ++ [p]) := by
  refine ⟨fun k => if k < L.length then k + 1 else 0, fun k q hk => ?_, fun k k' h1 h2 h => ?_⟩
  · dsimp only
    by_cases c : k < L.length
    · rw [if_pos c, List.getElem?_cons_succ]
      rw [List.getElem?_append_left c] at hk
      exact hk
    · rw [if_neg c]
      have hl := (List.getElem?_eq_some_iff.1 hk).1
      simp only [List.length_append, List.length_singleton] at hl
      rw [List.getElem?_append_right (by omega), show k - L.length = 0 by omega] at hk
      exact hk
  · simp only [List.length_append, List.length_singleton] at h1 h2
    dsimp only at h
    split at h <;> split at h <;> omega
theorem set_last {α : Type} {A : List α} {p q : α} : (A ++ [p]).set A.length q = A ++ [q] := by
  rw [List.set_append_right _ _ (Nat.le_refl _), Nat.sub_self]; rfl
theorem get_last {α : Type} {A : List α} {p : α} : (A ++ [p])[A.length]? = some p := by
  rw [List.getElem?_append_right (Nat.le_refl _), Nat.sub_self]; rfl
section
variable {E : Env} {N : Nat} {l : List (Nat × AV)} {L : List (Nat × AObj)} {K : List (Nat × Bool)} {Q : AExit → TM → St → Prop}
variable {pol : Nat → Nat} {ops : Array Oper} {r : List Oper} {i : Nat} {d : Nat} {ty : TypeId} {pos : String} {after : Array Edge} {guard : Option (Nat × Bool)}
theorem OD.storeB (kk : Nat) {t : TypeId} {x z : Operand} {y : Ty} {b sz j : Nat} {xs : List AV} {m v : Bool} (hx : evL l x = some (.ptr b j 0)) (hz : evL l z = some (.bool v)) (ht : E.ty t = some y) (h1 : y.size = 1) (hL : L[kk]? = some (b, .row sz xs)) (hj : xs[j]? = some (.bool m))
    (k : OS E false pol ops r (i + 1) N l (L.set kk (b, .row sz (xs.set j (.bool v)))) K Q) :
    OD E false pol ops { dst := none, op := .store t x z, type := ty, pos := pos, after := after, guard := guard } r i N l L K Q := by
  refine .loud rfl rfl (fun _ h => by cases h) fun tm st hF => ⟨.junk, st.put b (.row sz (xs.set j (.bool v))), _, _, _, ?_, hF.set hL _, k⟩
  have : Abs.loud E noCall (pol i) tm st { dst := none, op := .store t x z, type := ty, pos := pos, after := after, guard := guard } = (match E.ty t with | some ty => if (evalO tm z).cells.length = ty.size then (storeA st (evalO tm x) (evalO tm z)).map fun s => (.junk, s) else none | none => none) := rfl
  rw [this, ht, hF.ev hx, hF.ev hz]
  dsimp only
  rw [if_pos (by rw [h1]; rfl)]
  simp [storeA, (hF.obj kk b _ hL).1, hj, AV.ok, AV.cellOk, AV.cells]
end
def litV (sz b : Nat) : List AV → AV
  | x :: y :: xs => .sl sz b 0 (x :: y :: xs).length
  | xs => .vs sz .full xs
def litO (sz b : Nat) : List AV → List (Nat × AObj)
  | x :: y :: xs => [(b, .row sz (x :: y :: xs))]
  | _ => []
theorem litV_long {sz b : Nat} {xs : List AV} (h : 2 ≤ xs.length) : litV sz b xs = .sl sz b 0 xs.length ∧ litO sz b xs = [(b, .row sz xs)] := by
  match xs, h with
  | _ :: _ :: _, _ => exact ⟨rfl, rfl⟩
section
variable {E : Env} {N : Nat} {l : List (Nat × AV)} {L : List (Nat × AObj)} {K : List (Nat × Bool)} {Q : AExit → TM → St → Prop}
variable {pol : Nat → Nat} {ops : Array Oper} {r : List Oper} {i : Nat} {d : Nat} {ty : TypeId} {pos : String} {after : Array Edge} {guard : Option (Nat × Bool)}
theorem OD.appendW {ts tx e : TypeId} {s x : Operand} {sz sz' b : Nat} {xs : List AV} {y a : AV} {tys tyx et : Ty} (hn : Nat.blt d N = true) (hpol : Nat.beq (pol i) 1 = true) (hs : evL l s = some (litV sz b xs)) (hx : evL l x = some a) (hne : xs ≠ [])
    (h1 : E.ty ts = some tys) (h2 : E.ty tx = some tyx) (h3 : tys.d = .slice e) (h4 : E.ty e = some et) (h5 : Nat.blt 0 et.size = true) (h6 : sz = et.size) (h7 : (∃ e', tyx.d = .slice e') ∧ isStrA a = false) (h8 : ∀ st, elemsA st a = some (sz', [y])) (h9 : okElems et [y] = true) (h10 : Nat.beq sz' et.size = true)
    (hroom : roomA et (xs.length + 1) = true) (k : ∀ b', OS E false pol ops r (i + 1) N ((d, .sl sz b' 0 (xs ++ [y]).length) :: l) (L ++ [(b', .row sz (xs ++ [y]))]) K Q) :
    OD E false pol ops { dst := some d, op := .call { callee := .builtin .append, args := #[s, x], argTypes := #[ts, tx] }, type := ty, pos := pos, after := after, guard := guard } r i N l (L ++ litO sz b xs) K Q := by
  subst h6
  refine .loud rfl rfl (fun _ h => by cases h) fun tm st hF => ?_
  have h0 : Abs.loud E noCall (pol i) tm st { dst := some d, op := .call { callee := .builtin .append, args := #[s, x], argTypes := #[ts, tx] }, type := ty, pos := pos, after := after, guard := guard } = appendOpA E (pol i == 1) st ts tx (evalO tm s) (evalO tm x) := rfl
  have hp : (pol i == 1) = true := by
    have := Nat.eq_of_beq_eq_true hpol
    simp [this]
  rw [h0, hF.ev hs, hF.ev hx, hp, appendOp_key h1 h2 h3 h4 h5 (.inr h7) st (h8 st) h9 (by simpa using h10)]
  match xs, hne with
  | [x0], _ =>
    refine ⟨.sl et.size st.next 0 2, st.new (.row et.size [x0, y]), (d, .sl et.size st.next 0 2) :: l, L ++ [(st.next, .row et.size ([x0] ++ [y]))], K, ?_, ?_, ?_⟩
    · simp only [litV, appendA]
      rw [if_pos ⟨trivial, by simpa using hroom⟩]
      rfl
    · have hF0 : Fa N l L K tm st := by simpa [litO] using hF
      exact ((hF0.new _).sub (fun _ _ h => h) SubO.rot (.refl _)).put hn _
    · exact k st.next
  | x0 :: x1 :: xs, _ =>
    have hg := (hF.obj L.length b (.row et.size (x0 :: x1 :: xs)) (by simp only [litO]; exact get_last)).1
    refine ⟨.sl et.size st.next 0 ((x0 :: x1 :: xs).length + 1), (st.drop b).new (.row et.size ((x0 :: x1 :: xs) ++ [y])), (d, .sl et.size st.next 0 ((x0 :: x1 :: xs).length + 1)) :: l, L ++ [(st.next, .row et.size ((x0 :: x1 :: xs) ++ [y]))], K, ?_, ?_, ?_⟩
    · simp only [litV, appendA, hg]
      rw [if_pos ⟨trivial, trivial, by omega, by simpa using hroom⟩]
      simp
    · have hS := hF.s.swap (kk := L.length) (by simp only [litO]; exact get_last) (.row et.size ((x0 :: x1 :: xs) ++ [y]))
      simp only [litO] at hS
      rw [set_last] at hS
      exact (hF.withS2 hS).put hn _
    · have := k st.next
      rw [show (x0 :: x1 :: xs ++ [y]).length = (x0 :: x1 :: xs).length + 1 by simp] at this
      exact this
end
end Go.Abs
