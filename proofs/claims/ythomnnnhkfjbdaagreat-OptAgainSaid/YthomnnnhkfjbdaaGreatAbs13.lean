/- Own text of this claim: part 13 of an interpreter that is proved sound against the model, and of what it shows of the law. -/
import Derived.Test.YthomnnnhkfjbdaaGreatAbs12
import Derived.Test.YthomnnnhkfjbdaaGreatAbs11
import Derived.Test.YthomnnnhkfjbdaaGreatAbs8
import Derived.Test.YthomnnnhkfjbdaaGreatAbs10
namespace Go.OptEnv
open Go Go.Proofs Go.Abs Go.RowKit Go.NetM
set_option maxRecDepth 10000
def itL (gs : List (Int × Int)) (nins : Nat) (next : List Int) (c0 : List Nat) : Nat -> List Nat
 | 0 => c0
 | k + 1 => finerL gs nins next (itL gs nins next c0 k)
theorem reach_it {gs : List (Int × Int)} {nins : Nat} {next : List Int} {inits : List UInt8} {c : List Nat} (h : NetM.Reach gs nins next inits c) : ∃ k, c = itL gs nins next (class0 inits) k := by
 induction h with
 | zero => exact ⟨0, rfl⟩
 | succ _ ih =>
  obtain ⟨k, e⟩ := ih
  exact ⟨k + 1, by rw [e]; rfl⟩
theorem it_fix {gs : List (Int × Int)} {nins : Nat} {next : List Int} {c0 : List Nat} {k : Nat} (h : finerL gs nins next (itL gs nins next c0 k) = itL gs nins next c0 k) : ∀ d, itL gs nins next c0 (k + d) = itL gs nins next c0 k
 | 0 => rfl
 | d + 1 => by
  show finerL gs nins next (itL gs nins next c0 (k + d)) = _
  rw [it_fix h d, h]
theorem reach_uniq {gs : List (Int × Int)} {nins : Nat} {next : List Int} {inits : List UInt8} {c c' : List Nat} (h : NetM.Reach gs nins next inits c) (h' : NetM.Reach gs nins next inits c') (hf : finerL gs nins next c = c) (hf' : finerL gs nins next c' = c') : c = c' := by
 obtain ⟨k, rfl⟩ := reach_it h
 obtain ⟨k', rfl⟩ := reach_it h'
 rcases Nat.le_total k k' with e | e
 ·obtain ⟨d, rfl⟩ := Nat.exists_eq_add_of_le e
  exact (it_fix hf d).symm
 ·obtain ⟨d, rfl⟩ := Nat.exists_eq_add_of_le e
  exact it_fix hf' d
open Classical in
noncomputable def twinsN (n : GNet) : List Nat := if h : ∃ c, Rel27 n c then Classical.choose h else []
theorem twins_eq {n : GNet} {c : List Nat} (h : Rel27 n c) : twinsN n = c := by
 have he : ∃ c, Rel27 n c := ⟨c, h⟩
 unfold twinsN
 rw [dif_pos he]
 have := Classical.choose_spec he
 exact reach_uniq this.1 h.1 this.2 h.2
attribute [local irreducible] WS QS OS OD Abs.Sub SubO SubK CW GSl.av accA growA
section
variable {pr : Prims} {L : List (Nat × AObj)} {K : List (Nat × Bool)} {st : St}
end
end Go.OptEnv
namespace Go.OptEnv
open Go Go.Proofs Go.Abs Go.RowKit Go.NetM
set_option maxRecDepth 10000
theorem twins_ex (n : GNet) : ∃ c, Rel27 n c := by
 have hnl : n.nexts.length = n.regs.xs.length := by simp [GNet.nexts]
 have key : ∀ (m : Nat) (c : List Nat), NetM.Reach n.gates.xs n.ins.xs.length n.nexts n.inits c -> n.regs.xs.length - fixN c <= m -> ∃ c, Rel27 n c := by
  intro m
  induction m with
  | zero =>
   intro c hR hm
   have hC := hR.class (by simp [GNet.inits, GNet.nexts])
   have hcl : c.length = n.regs.xs.length := by rw [hC.len, ini_len]
   refine ⟨c, hR, Classical.byContradiction fun hne => ?_⟩
   have hlt := fixN_lt (gs := n.gates.xs) (nins := n.ins.xs.length) (next := n.nexts) (c := c) (by omega) hC.canon hne
   have hle := fixN_le (finerL n.gates.xs n.ins.xs.length n.nexts c)
   rw [finerL_len (by omega)] at hle
   omega
  | succ m ih =>
   intro c hR hm
   have hC := hR.class (by simp [GNet.inits, GNet.nexts])
   have hcl : c.length = n.regs.xs.length := by rw [hC.len, ini_len]
   by_cases hf : finerL n.gates.xs n.ins.xs.length n.nexts c = c
   ·exact ⟨c, hR, hf⟩
   ·have hlt := fixN_lt (gs := n.gates.xs) (nins := n.ins.xs.length) (next := n.nexts) (c := c) (by omega) hC.canon hf
    exact ih _ (.succ hR) (by omega)
 exact key _ _ .zero (Nat.le_refl _)
theorem twins_rel (n : GNet) : Rel27 n (twinsN n) := by
 obtain ⟨c, h⟩ := twins_ex n
 rw [twins_eq h]; exact h
theorem twins_class (n : GNet) : Class n.inits (twinsN n) := (twins_rel n).1.class (by simp [GNet.inits, GNet.nexts])
theorem twins_len (n : GNet) : (twinsN n).length = n.regs.xs.length := by rw [(twins_class n).len, ini_len]
def keepT (c : List Nat) : List Bool := c.zipIdx.map fun p => decide (p.1 = p.2)
def litT (k0 : Nat) (c : List Nat) : List Int := c.map fun k => 2 * ((k0 + k : Nat) : Int)
theorem keepT_len (c : List Nat) : (keepT c).length = c.length := by simp [keepT]
theorem litT_len (k0 : Nat) (c : List Nat) : (litT k0 c).length = c.length := by simp [litT]
theorem keepT_at {c : List Nat} {i : Nat} (h : i < c.length) : (keepT c)[i]'(by rw [keepT_len]; exact h) = decide (c[i] = i) := by simp [keepT]
theorem litT_at {k0 : Nat} {c : List Nat} {i : Nat} (h : i < c.length) : (litT k0 c)[i]'(by rw [litT_len]; exact h) = 2 * ((k0 + c[i] : Nat) : Int) := by simp [litT]
theorem keepT_get {c : List Nat} {i : Nat} (h : i < c.length) : (keepT c).getD i false = decide (c[i] = i) := by
 rw [List.getD_eq_getElem?_getD, List.getElem?_eq_getElem (by rw [keepT_len]; exact h), Option.getD_some, keepT_at h]
theorem litT_get {k0 : Nat} {c : List Nat} {i : Nat} (h : i < c.length) : (litT k0 c).getD i 0 = 2 * ((k0 + c[i] : Nat) : Int) := by
 rw [List.getD_eq_getElem?_getD, List.getElem?_eq_getElem (by rw [litT_len]; exact h), Option.getD_some, litT_at h]
theorem canon_at {c : List Nat} (hc : Canon c) {i : Nat} (h : i < c.length) : c[i] <= i /\ ∃ h' : c[i] < c.length, c[c[i]] = c[i] := by
 obtain ⟨a, b⟩ := hc i h
 have e : c.getD i 0 = c[i] := by rw [List.getD_eq_getElem?_getD, List.getElem?_eq_getElem h, Option.getD_some]
 rw [e] at a b
 rw [List.getD_eq_getElem?_getD, List.getElem?_eq_getElem (by omega), Option.getD_some] at b
 exact ⟨a, by omega, b⟩
theorem litT_stand {k0 : Nat} {c : List Nat} (hc : Canon c) : Stand k0 c.length (keepT c) (litT k0 c) := fun i hi hk => by
 obtain ⟨a, h', b⟩ := canon_at hc hi
 rw [litT_get hi]
 refine ⟨by omega, by omega, .inr ?_⟩
 rw [show (2 * ((k0 + c[i] : Nat) : Int) / 2).toNat - k0 = c[i] by omega, keepT_get h', decide_eq_true b]
noncomputable def mergeP (n : GNet) : GNet := againN n (keepT (twinsN n)) (litT n.k0 (twinsN n))
theorem merge_stand (n : GNet) : Stand n.k0 n.regs.xs.length (keepT (twinsN n)) (litT n.k0 (twinsN n)) := by
 have := litT_stand (k0 := n.k0) (twins_class n).canon
 rwa [twins_len] at this
theorem mergeP_valid {n : GNet} (hv : validM n = true) : validM (mergeP n) = true := clean_valid (again_valid hv (merge_stand n))
theorem mergeP_fits {n : GNet} (hv : validM n = true) (hn : FitsN n) : FitsN (mergeP n) := clean_fits (again_valid hv (merge_stand n)) (again_fits hv hn (merge_stand n))
end Go.OptEnv
namespace Go.NetM
def TB (k0 : Nat) (e : List Nat) : List Lt := baseT k0 ++ e.map fun k => (false, .v (k0 + k))
theorem TB_len {k0 : Nat} {e : List Nat} : (TB k0 e).length = k0 + e.length := by simp [TB, baseT_len]
theorem TB_low {k0 : Nat} {e : List Nat} {j : Nat} (h : j < k0) : (TB k0 e).getD j trA.z = if j = 0 then (false, .z) else (false, .v j) := by
 unfold TB
 rw [getD_app, baseT_len, if_pos h, baseT_get h]
theorem TB_reg {k0 : Nat} {e : List Nat} {i : Nat} (h : i < e.length) : (TB k0 e).getD (k0 + i) trA.z = (false, .v (k0 + e.getD i 0)) := by
 unfold TB
 rw [getD_app, baseT_len, if_neg (by omega), show k0 + i - k0 = i by omega, List.getD_eq_getElem?_getD, List.getElem?_map, List.getElem?_eq_getElem h, List.getD_eq_getElem?_getD, List.getElem?_eq_getElem h]
 rfl
theorem ext_getL {a b : List Lt} (h : a.length = b.length) (hi : ∀ i, i < a.length -> a.getD i trA.z = b.getD i trA.z) : a = b := by
 apply List.ext_getElem h
 intro i h1 h2
 have := hi i h1
 rw [List.getD_eq_getElem?_getD, List.getD_eq_getElem?_getD, List.getElem?_eq_getElem h1, List.getElem?_eq_getElem h2] at this
 exact this
theorem getD_mapL {α : Type} {f : α -> Lt} {l : List α} {d : α} {i : Nat} (h : i < l.length) : (l.map f).getD i trA.z = f (l.getD i d) := by
 rw [List.getD_eq_getElem?_getD, List.getElem?_map, List.getElem?_eq_getElem h, List.getD_eq_getElem?_getD, List.getElem?_eq_getElem h]
 rfl
def E (k0 : Nat) (gs : List (Int × Int)) (e : List Nat) (x : Int) : Lt := litA trA (gatesA trA (TB k0 e) gs) x
theorem lit_even (v : List Lt) (j : Nat) : litA trA v (2 * (j : Int)) = v.getD j trA.z := by
 unfold litA
 rw [if_neg (by omega), show (2 * (j : Int) / 2).toNat = j by omega]
theorem all0_TB {nins : Nat} {c : List Nat} (hc : Canon c) : (all0L nins c).map (litA trA (baseT (1 + nins + c.length))) = TB (1 + nins) c := by
 refine ext_getL (by rw [List.length_map, all0L_len, TB_len]) fun i hi => ?_
 rw [List.length_map, all0L_len] at hi
 rw [getD_mapL (d := 0) (by rw [all0L_len]; exact hi), all0L_get hi]
 by_cases h : i < 1 + nins
 ·rw [if_pos h, lit_even, baseT_get (by omega), TB_low h]
 ·rw [if_neg h]
  have h1 := (hc (i - (1 + nins)) (by omega)).1
  have e : i = (1 + nins) + (i - (1 + nins)) := by omega
  conv => rhs; rw [e, TB_reg (by omega)]
  rw [lit_even, baseT_get (by omega), if_neg (by omega)]
theorem made_iff {gs : List (Int × Int)} {nins : Nat} {c : List Nat} (hc : Canon c) (hg : okG (1 + nins + c.length) gs) {x y : Int} (hx : 0 <= x /\ x < 2 * ((1 + nins + c.length + gs.length : Nat) : Int)) (hy : 0 <= y /\ y < 2 * ((1 + nins + c.length + gs.length : Nat) : Int)) : atL (madeL gs nins c) x = atL (madeL gs nins c) y ↔ E (1 + nins) gs c x = E (1 + nins) gs c y := by
 have hr : ∀ j, 0 <= (all0L nins c).getD j 0 /\ (all0L nins c).getD j 0 < 2 * ((1 + nins + c.length : Nat) : Int) := fun j => by
  by_cases hj : j < 1 + nins + c.length
  ·rw [all0L_get hj]
   split
   ·omega
   ·have := (hc (j - (1 + nins)) (by omega)).1
    omega
  ·rw [List.getD_eq_getElem?_getD, List.getElem?_eq_none (by rw [all0L_len]; omega)]
   simp only [Option.getD_none]; omega
 have := share_tree (k := 1 + nins + c.length) (by omega) hr (gs := gs) (by rw [all0L_len]; exact hg) (x := x) (y := y) (by rw [all0L_len]; exact hx) (by rw [all0L_len]; exact hy)
 unfold madeL E
 rw [this, all0_TB hc]
def ren (k0 : Nat) (h : Nat -> Nat) (j : Nat) : Lt := if j < k0 then (false, .v j) else (false, .v (k0 + h (j - k0)))
theorem TB_hom {k0 : Nat} {e c : List Nat} {h : Nat -> Nat} (hl : e.length = c.length) (hh : ∀ i, i < e.length -> c.getD i 0 = h (e.getD i 0)) : (TB k0 e).map (homL trA (ren k0 h)) = TB k0 c := by
 refine ext_getL (by rw [List.length_map, TB_len, TB_len, hl]) fun i hi => ?_
 rw [List.length_map, TB_len] at hi
 rw [getD_mapL (d := trA.z) (by rw [TB_len]; exact hi)]
 by_cases c0 : i < k0
 ·rw [TB_low c0, TB_low c0]
  split
  ·rfl
  ·show homT trA (ren k0 h) (.v i) = _
   show ren k0 h i = _
   unfold ren
   rw [if_pos c0]
 ·have ei : i = k0 + (i - k0) := by omega
  rw [ei, TB_reg (by omega), TB_reg (by omega), hh _ (by omega)]
  show ren k0 h (k0 + e.getD (i - k0) 0) = _
  unfold ren
  rw [if_neg (by omega), show k0 + e.getD (i - k0) 0 - k0 = e.getD (i - k0) 0 by omega]
theorem E_hom {k0 : Nat} {gs : List (Int × Int)} {e c : List Nat} {h : Nat -> Nat} (hl : e.length = c.length) (hh : ∀ i, i < e.length -> c.getD i 0 = h (e.getD i 0)) (x : Int) : E k0 gs c x = homL trA (ren k0 h) (E k0 gs e x) := by
 unfold E
 rw [hom_lit trL, TB_hom hl hh]
theorem coarsest {gs : List (Int × Int)} {nins : Nat} {next : List Int} {inits : List UInt8} (hn : inits.length = next.length) (hg : okG (1 + nins + inits.length) gs) (hx : ∀ l ∈ next, 0 <= l /\ l < 2 * ((1 + nins + inits.length + gs.length : Nat) : Int))
  {e : List Nat} (hl : e.length = inits.length) (he : Canon e) (h1 : ∀ i j, i < e.length -> j < e.length -> e.getD i 0 = e.getD j 0 -> (class0 inits).getD i 0 = (class0 inits).getD j 0) (h2 : ∀ i j, i < e.length -> j < e.length -> e.getD i 0 = e.getD j 0 -> E (1 + nins) gs e (next.getD i 0) = E (1 + nins) gs e (next.getD j 0)) {c : List Nat} (hc : Reach gs nins next inits c) : ∀ i j, i < e.length -> j < e.length -> e.getD i 0 = e.getD j 0 -> c.getD i 0 = c.getD j 0 := by
 induction hc with
 | zero => exact h1
 | @succ c hR ih =>
  intro i j hi hj hij
  have hC := hR.class hn
  have hcl := hC.len
  have hcn : c.length = next.length := by rw [hcl, hn]
  have hnx : ∀ k, k < e.length -> 0 <= next.getD k 0 /\ next.getD k 0 < 2 * ((1 + nins + c.length + gs.length : Nat) : Int) := fun k hk => by
   rw [hcl, List.getD_eq_getElem?_getD, List.getElem?_eq_getElem (by omega)]
   exact hx _ (List.getElem_mem _)
  have hh : ∀ k, k < e.length -> c.getD k 0 = (fun m => c.getD m 0) (e.getD k 0) := fun k hk => by
   obtain ⟨a, b⟩ := he k hk
   exact ih k (e.getD k 0) hk (by omega) b.symm
  have hE : E (1 + nins) gs c (next.getD i 0) = E (1 + nins) gs c (next.getD j 0) := by
   have hle : e.length = c.length := by omega
   rw [E_hom (h := fun m => c.getD m 0) hle hh, E_hom (h := fun m => c.getD m 0) hle hh, h2 i j hi hj hij]
  have hm := (made_iff hC.canon (by rw [hcl]; exact hg) (hnx i hi) (hnx j hj)).2 hE
  have hkl := keysL_len (gs := gs) (nins := nins) (next := next) (c := c) hcn
  refine least_same (keys := keysL gs nins next c) (by omega) (by omega) ?_
  rw [keysL_get hcn (by omega), keysL_get hcn (by omega), ih i j hi hj hij, hm]
theorem stable_E {gs : List (Int × Int)} {nins : Nat} {next : List Int} {c : List Nat} (hcn : c.length = next.length) (hc : Canon c) (hg : okG (1 + nins + c.length) gs) (hx : ∀ l ∈ next, 0 <= l /\ l < 2 * ((1 + nins + c.length + gs.length : Nat) : Int)) (hf : finerL gs nins next c = c) {i j : Nat} (hi : i < c.length) (hj : j < c.length) (hij : c.getD i 0 = c.getD j 0) : E (1 + nins) gs c (next.getD i 0) = E (1 + nins) gs c (next.getD j 0) := by
 have hnx : ∀ k, k < c.length -> 0 <= next.getD k 0 /\ next.getD k 0 < 2 * ((1 + nins + c.length + gs.length : Nat) : Int) := fun k hk => by
  rw [List.getD_eq_getElem?_getD, List.getElem?_eq_getElem (by omega)]
  exact hx _ (List.getElem_mem _)
 have key : ∀ k, k < c.length -> E (1 + nins) gs c (next.getD (c.getD k 0) 0) = E (1 + nins) gs c (next.getD k 0) := fun k hk => by
  obtain ⟨a, b, d⟩ := finer_old (gs := gs) (nins := nins) hcn hk
  rw [hf] at a d
  exact (made_iff hc hg (hnx _ (by omega)) (hnx _ hk)).1 d
 rw [<- key i hi, <- key j hj, hij]
end Go.NetM
namespace Go.OptEnv
open Go Go.Proofs Go.Abs Go.RowKit Go.NetM
set_option maxRecDepth 10000
theorem frontK_get {k0 i : Nat} {keep : List Bool} : (List.replicate k0 true ++ keep).getD (k0 + i) false = keep.getD i false := by
 rw [getD_app, List.length_replicate, if_neg (by omega), show k0 + i - k0 = i by omega]
theorem selZ_RM {k0 : Nat} {keep : List Bool} : ∀ i, selZ 0 k0 keep i = selRM k0 (List.replicate k0 true ++ keep) i
 | 0 => rfl
 | i + 1 => by
  have ih := selZ_RM (k0 := k0) (keep := keep) i
  have hl := selRM_len (k0 := k0) (keep := List.replicate k0 true ++ keep) i
  show (if keep.getD i false = true then _ else _) = selR k0 _ (selRM k0 _ i)
  unfold selR
  rw [hl, frontK_get, ih]
theorem pick_front {α : Type} {k0 : Nat} {keep : List Bool} {l : List α} : ∀ i, i <= l.length -> pickL k0 (List.replicate k0 true ++ keep) l i = pickL 0 keep l i
 | 0, _ => by simp [pickL]
 | i + 1, h => by
  rw [pickL_succ (by omega), pickL_succ (by omega), frontK_get, Nat.zero_add, pick_front i (by omega)]
def repL (keep : List Bool) (R : Nat) : List Nat := pickL 0 keep (List.range R) R
structure Reps (k0 : Nat) (keep : List Bool) (R : Nat) : Prop where
 low : ∀ (j : Nat), j < k0 -> (selZ 0 k0 keep R).1.getD j 0 = 2 * (j : Int)
 rank : ∀ i, i < R -> keep.getD i false = true -> ∃ r, r < (repL keep R).length /\ (selZ 0 k0 keep R).1.getD (k0 + i) 0 = 2 * ((k0 + r : Nat) : Int) /\ (repL keep R)[r]? = some i
 onto : ∀ r, r < (repL keep R).length -> ∃ i, i < R /\ keep.getD i false = true /\ (repL keep R)[r]? = some i
 mono : ∀ (r r' i i' : Nat), r < r' -> (repL keep R)[r]? = some i -> (repL keep R)[r']? = some i' -> i < i'
 pick : ∀ {α : Type} (l : List α), l.length = R -> (pickL 0 keep l R).length = (repL keep R).length /\ ∀ (r i : Nat), (repL keep R)[r]? = some i -> (pickL 0 keep l R)[r]? = l[i]?
theorem reps {k0 : Nat} (hk : 0 < k0) (keep : List Bool) (R : Nat) : Reps k0 keep R := by
 have hs := sel_r hk (keep := List.replicate k0 true ++ keep) (l := List.range R) R (by simp)
 have hp : pickL k0 (List.replicate k0 true ++ keep) (List.range R) R = repL keep R := pick_front R (by simp)
 have hrank : ∀ i, i < R -> keep.getD i false = true -> ∃ r, r < (repL keep R).length /\ (selZ 0 k0 keep R).1.getD (k0 + i) 0 = 2 * ((k0 + r : Nat) : Int) /\ (repL keep R)[r]? = some i := fun i hi hki => by
  obtain ⟨r, hr, h1, h2⟩ := hs.rank i hi (by simpa using hi) (by rw [frontK_get]; exact hki)
  rw [<- selZ_RM] at h1
  refine ⟨r, by rw [<- hp]; exact hr, h1, ?_⟩
  rw [<- hp, List.getElem?_eq_getElem hr, h2, List.getElem_range]
 have honto : ∀ r, r < (repL keep R).length -> ∃ i, i < R /\ keep.getD i false = true /\ (selZ 0 k0 keep R).1.getD (k0 + i) 0 = 2 * ((k0 + r : Nat) : Int) /\ (repL keep R)[r]? = some i := fun r hr => by
  obtain ⟨i, hi, h1, h2⟩ := hs.onto r (by rw [hp]; exact hr)
  rw [<- selZ_RM] at h2
  rw [frontK_get] at h1
  obtain ⟨r', hr', h3, h4⟩ := hrank i hi h1
  have : r' = r := by omega
  subst this
  exact ⟨i, hi, h1, h2, h4⟩
 refine ⟨fun j hj => by rw [selZ_RM]; exact hs.low j hj, hrank, fun r hr => ?_, fun r r' i i' hrr h1 h2 => ?_, fun l hl => ?_⟩
 ·obtain ⟨i, a, b, _, c⟩ := honto r hr
  exact ⟨i, a, b, c⟩
 ·have l1 := (List.getElem?_eq_some_iff.1 h1).1
  have l2 := (List.getElem?_eq_some_iff.1 h2).1
  obtain ⟨j, a, b, e, g⟩ := honto r l1
  obtain ⟨j', a', b', e', g'⟩ := honto r' l2
  rw [h1] at g
  rw [h2] at g'
  cases g; cases g'
  rcases Nat.lt_trichotomy i i' with c | c | c
  ·exact c
  ·subst c; omega
  ·have := hs.mono (k0 + i') (k0 + i) (by omega) (by omega) (.inr (by rw [frontK_get]; exact b')) (.inr (by rw [frontK_get]; exact b))
   rw [<- selZ_RM, e, e'] at this
   omega
 ·have hs2 := sel_r hk (keep := List.replicate k0 true ++ keep) (l := l) R (by omega)
  have hp2 : pickL k0 (List.replicate k0 true ++ keep) l R = pickL 0 keep l R := pick_front R (by omega)
  have e1 := pickL_len (k0 := k0) (keep := List.replicate k0 true ++ keep) (l := l) R (by omega)
  have e2 := pickL_len (k0 := k0) (keep := List.replicate k0 true ++ keep) (l := List.range R) R (by simp)
  rw [hp2] at e1
  rw [hp] at e2
  refine ⟨by omega, fun r i hri => ?_⟩
  have l1 := (List.getElem?_eq_some_iff.1 hri).1
  obtain ⟨j, a, b, e, g⟩ := honto r l1
  rw [hri] at g
  cases g
  obtain ⟨r', hr', q1, q2⟩ := hs2.rank i a (by omega) (by rw [frontK_get]; exact b)
  rw [<- selZ_RM, e] at q1
  have : r' = r := by omega
  subst this
  rw [<- hp2, List.getElem?_eq_getElem hr', q2, List.getElem?_eq_getElem (by omega)]
theorem Reps.idx {k0 R : Nat} {keep : List Bool} (h : Reps k0 keep R) {r i : Nat} (hr : (repL keep R)[r]? = some i) : (repL keep R).idxOf i = r := by
 refine idxOf_mem hr fun hm => ?_
 obtain ⟨x, hx, e⟩ := List.mem_iff_getElem.1 hm
 rw [List.length_take] at hx
 rw [List.getElem_take] at e
 have := h.mono x r i i (by omega) (by rw [List.getElem?_eq_getElem (by omega), e]) hr
 omega
theorem Reps.inj {k0 R : Nat} {keep : List Bool} (h : Reps k0 keep R) {r r' i : Nat} (h1 : (repL keep R)[r]? = some i) (h2 : (repL keep R)[r']? = some i) : r = r' := by
 rw [<- h.idx h1, <- h.idx h2]
theorem mapR_get {R i : Nat} {g : Nat -> Nat} (h : i < R) : ((List.range R).map g).getD i 0 = g i := by
 rw [List.getD_eq_getElem?_getD, List.getElem?_map, List.getElem?_range h]; rfl
theorem reach_class0 {gs : List (Int × Int)} {nins : Nat} {next : List Int} {inits : List UInt8} (hn : inits.length = next.length) {c : List Nat} (h : NetM.Reach gs nins next inits c) : ∀ i j, i < inits.length -> j < inits.length -> c.getD i 0 = c.getD j 0 -> (class0 inits).getD i 0 = (class0 inits).getD j 0 := by
 induction h with
 | zero => exact fun _ _ _ _ h => h
 | @succ c hR ih =>
  intro i j hi hj hij
  have hcl := (hR.class hn).len
  have h1 := (finer_old (gs := gs) (nins := nins) (next := next) (c := c) (by omega) (i := i) (by omega)).2.1
  have h2 := (finer_old (gs := gs) (nins := nins) (next := next) (c := c) (by omega) (i := j) (by omega)).2.1
  exact ih i j hi hj (by rw [<- h1, <- h2, hij])
section
variable {n : GNet}
theorem keepT_true {c : List Nat} {i : Nat} (h : i < c.length) : (keepT c).getD i false = true ↔ c.getD i 0 = i := by
 rw [keepT_get h, decide_eq_true_eq, List.getD_eq_getElem?_getD, List.getElem?_eq_getElem h]; rfl
def rhoT (c : List Nat) (i : Nat) : Nat := (repL (keepT c) c.length).idxOf (c.getD i 0)
theorem rho_at {c : List Nat} (hc : Canon c) {i : Nat} (hi : i < c.length) : (repL (keepT c) c.length)[rhoT c i]? = some (c.getD i 0) := by
 obtain ⟨a, b⟩ := hc i hi
 obtain ⟨r, _, _, h⟩ := (reps (k0 := 1) (by omega) (keepT c) c.length).rank (c.getD i 0) (by omega) ((keepT_true (by omega)).2 b)
 unfold rhoT
 rw [(reps (k0 := 1) (by omega) (keepT c) c.length).idx h, h]
theorem rho_lt {c : List Nat} (hc : Canon c) {i : Nat} (hi : i < c.length) : rhoT c i < (repL (keepT c) c.length).length := (List.getElem?_eq_some_iff.1 (rho_at hc hi)).1
theorem again_get (hv : validM n = true) : ∀ i, i < n.regs.xs.length -> (againL n (keepT (twinsN n)) (litT n.k0 (twinsN n))).getD (n.k0 + i) 0 = 2 * ((n.k0 + rhoT (twinsN n) i : Nat) : Int) := fun i hi => by
 have hl := twins_len n
 have hcan := (twins_class n).canon
 have hr := reps (k0_pos n) (keepT (twinsN n)) (twinsN n).length
 have hrho := rho_at hcan (i := i) (by omega)
 obtain ⟨a, b⟩ := hcan i (by omega)
 obtain ⟨r, _, h1, h2⟩ := hr.rank ((twinsN n).getD i 0) (by omega) ((keepT_true (by omega)).2 b)
 have e := hr.inj h2 hrho
 subst e
 unfold againL
 rw [hl] at h1
 by_cases hk : (keepT (twinsN n)).getD i false = true
 ·have e := (keepT_true (by omega)).1 hk
  rw [e] at h1
  rw [fillZ_stays (.inr (by rw [show n.k0 + i - n.k0 = i by omega]; exact hk)), h1]
 ·have hk : (keepT (twinsN n)).getD i false = false := by simpa using hk
  rw [fillZ_gone hk hi _ hi, litT_get (by omega)]
  have e : (twinsN n)[i]'(by omega) = (twinsN n).getD i 0 := by rw [List.getD_eq_getElem?_getD, List.getElem?_eq_getElem (by omega)]; rfl
  unfold atL flipL
  rw [if_neg (by omega), show (2 * ((n.k0 + (twinsN n)[i]'(by omega) : Nat) : Int) / 2).toNat = n.k0 + (twinsN n)[i]'(by omega) by omega, e, h1]
theorem again_low (j : Nat) (hj : j < n.k0) (keep : List Bool) (lits : List Int) : (againL n keep lits).getD j 0 = 2 * (j : Int) := by
 unfold againL
 rw [fillZ_stays (.inl hj)]
 exact (reps (k0_pos n) keep n.regs.xs.length).low j hj
theorem again_eval (hv : validM n = true) {keep : List Bool} {lits : List Int} (hs : Stand n.k0 n.regs.xs.length keep lits) {U : List Lt} (hU : U.length = n.kk keep) (h0 : U.getD 0 trA.z = trA.z) {r i : Nat} (hri : (repL keep n.regs.xs.length)[r]? = some i) :
  litA trA (gatesA trA U (againN n keep lits).gates.xs) ((againN n keep lits).nexts.getD r 0) = litA trA (gatesA trA ((againL n keep lits).map (litA trA U)) n.gates.xs) (n.nexts.getD i 0) := by
 have hav := again_valid hv hs
 have hkN : (againM n keep lits).kN = n.kk keep := netOf_kN (clone_xs _)
 have hpk := ((reps (k0_pos n) keep n.regs.xs.length).pick n.regs.xs rfl).2 r i hri
 have hpl := ((reps (k0_pos n) keep n.regs.xs.length).pick n.regs.xs rfl).1
 have hrl := (List.getElem?_eq_some_iff.1 hri).1
 have hin : i < n.regs.xs.length := by
  obtain ⟨i', a, _, b⟩ := (reps (k0_pos n) keep n.regs.xs.length).onto r hrl
  rw [hri] at b; cases b; exact a
 rw [List.getElem?_eq_getElem hin] at hpk
 have hpk : (keptL n keep)[r]? = some n.regs.xs[i] := hpk
 have hnx : n.nexts.getD i 0 = n.regs.xs[i].next := by
  unfold GNet.nexts
  rw [List.getD_eq_getElem?_getD, List.getElem?_map, List.getElem?_eq_getElem hin]; rfl
 have han : (againM n keep lits).nexts.getD r 0 = atL (againS n keep lits).1 (n.nexts.getD i 0) := by
  have e2 : (againM n keep lits).regs.xs = (keptL n keep).map (withNext (againS n keep lits).1) := gof_xs _
  unfold GNet.nexts at hnx ⊢
  rw [e2, List.map_map, List.getD_eq_getElem?_getD, List.getElem?_map, hpk, hnx]; rfl
 have hal : r < (againM n keep lits).nexts.length := by
  have e2 : (againM n keep lits).regs.xs = (keptL n keep).map (withNext (againS n keep lits).1) := gof_xs _
  unfold GNet.nexts
  rw [e2, List.length_map, List.length_map]
  exact (List.getElem?_eq_some_iff.1 hpk).1
 have hmn : (againN n keep lits).nexts.getD r 0 = atL (cleanS (againM n keep lits)).1 ((againM n keep lits).nexts.getD r 0) := by
  have e2 : (againN n keep lits).regs.xs = (againM n keep lits).regs.xs.map (withNext (cleanS (againM n keep lits)).1) := (lay_xs (n := againM n keep lits) (s := cleanS (againM n keep lits))).2.1
  unfold GNet.nexts at hal ⊢
  rw [List.length_map] at hal
  rw [e2, List.map_map, List.getD_eq_getElem?_getD, List.getD_eq_getElem?_getD, List.getElem?_map, List.getElem?_map, List.getElem?_eq_getElem hal]
  rfl
 have hmg : (againN n keep lits).gates.xs = (cleanS (againM n keep lits)).2 := (lay_xs (n := againM n keep lits) (s := cleanS (againM n keep lits))).2.2.1
 have hag : (againM n keep lits).gates.xs = (againS n keep lits).2 := gof_xs _
 -- the cone
 have hroot : (againM n keep lits).nexts.getD r 0 ∈ (againM n keep lits).roots := by
  unfold GNet.roots
  rw [List.getD_eq_getElem?_getD, List.getElem?_eq_getElem hal]
  exact List.mem_append_left _ (List.getElem_mem hal)
 have hrr := roots_range hav _ hroot
 have hkeep := keepA trL (k := (againM n keep lits).kN) (K := (againM n keep lits).kN) (keep := coneN (againM n keep lits) (againM n keep lits).roots) (B := fun _ => True) (b0 := idL (againM n keep lits).kN) (kN_pos _) (idL_len _) (u := U) (w := U) (by rw [hU, hkN]) (by rw [hU, hkN]) (fun j hj _ => by rw [idL_get, if_pos hj, lit_even]) (idL_range (kN_pos _)) (valid_lits hav).1 (cone_closed hav) (againM n keep lits).gates.xs.length (Nat.le_refl _)
 rw [List.take_length] at hkeep
 have hcl : (keepG (againM n keep lits).kN (coneN (againM n keep lits) (againM n keep lits).roots) (idL (againM n keep lits).kN) (againM n keep lits).gates.xs) = cleanS (againM n keep lits) := rfl
 rw [hcl] at hkeep
 have hkd : Kd (againM n keep lits).kN (coneN (againM n keep lits) (againM n keep lits).roots) (fun _ => True) ((againM n keep lits).nexts.getD r 0 / 2).toNat := by
  by_cases c : ((againM n keep lits).nexts.getD r 0 / 2).toNat < (againM n keep lits).kN
  ·exact .inl ⟨c, trivial⟩
  ·exact .inr ⟨by omega, (cone_get hav _).2 (.out hroot)⟩
 have h1 : litA trA (gatesA trA U (cleanS (againM n keep lits)).2) (atL (cleanS (againM n keep lits)).1 ((againM n keep lits).nexts.getD r 0)) = litA trA (gatesA trA U (againM n keep lits).gates.xs) ((againM n keep lits).nexts.getD r 0) := by
  unfold atL
  rw [litA_flip trL, hkeep.2 _ (by omega) hkd]
  rfl
 rw [hmg, hmn, h1, han, hag]
 obtain ⟨_, hrn, _⟩ := valid_lits hv
 have hx := hrn _ (List.getElem_mem hin)
 rw [<- hnx] at hx
 have := shareA_at trL (u := U) h0 (by rw [hU]; exact kk_pos n keep) (all0 := againL n keep lits) (by rw [hU]; exact againL_range hs) (gs := n.gates.xs) (by rw [againL_len]; exact (valid_lits hv).1) (l := n.nexts.getD i 0) (by rw [againL_len]; exact hx)
 rw [hU] at this
 exact this
theorem inits_get {i : Nat} (h : i < n.regs.xs.length) : n.inits.getD i 0 = n.regs.xs[i].init := by
 unfold GNet.inits
 rw [List.getD_eq_getElem?_getD, List.getElem?_map, List.getElem?_eq_getElem h]; rfl
theorem merge_regs : (mergeP n).regs.xs.length = (repL (keepT (twinsN n)) (twinsN n).length).length := by
 have h := ((reps (k0_pos n) (keepT (twinsN n)) n.regs.xs.length).pick n.regs.xs rfl).1
 have e2 : (mergeP n).regs.xs = (againM n (keepT (twinsN n)) (litT n.k0 (twinsN n))).regs.xs.map (withNext (cleanS (againM n (keepT (twinsN n)) (litT n.k0 (twinsN n)))).1) := (lay_xs (n := againM n (keepT (twinsN n)) (litT n.k0 (twinsN n))) (s := cleanS (againM n (keepT (twinsN n)) (litT n.k0 (twinsN n))))).2.1
 have e1 : (againM n (keepT (twinsN n)) (litT n.k0 (twinsN n))).regs.xs = (keptL n (keepT (twinsN n))).map (withNext (againS n (keepT (twinsN n)) (litT n.k0 (twinsN n))).1) := gof_xs _
 rw [e2, List.length_map, e1, List.length_map, twins_len, <- h]; rfl
theorem merge_inits {r i : Nat} (hri : (repL (keepT (twinsN n)) (twinsN n).length)[r]? = some i) (hi : i < n.regs.xs.length) : (mergeP n).inits.getD r 0 = n.inits.getD i 0 := by
 rw [twins_len] at hri
 have h := ((reps (k0_pos n) (keepT (twinsN n)) n.regs.xs.length).pick n.regs.xs rfl).2 r i hri
 rw [List.getElem?_eq_getElem hi] at h
 have h : (keptL n (keepT (twinsN n)))[r]? = some n.regs.xs[i] := h
 have e2 : (mergeP n).regs.xs = (againM n (keepT (twinsN n)) (litT n.k0 (twinsN n))).regs.xs.map (withNext (cleanS (againM n (keepT (twinsN n)) (litT n.k0 (twinsN n)))).1) := (lay_xs (n := againM n (keepT (twinsN n)) (litT n.k0 (twinsN n))) (s := cleanS (againM n (keepT (twinsN n)) (litT n.k0 (twinsN n))))).2.1
 have e1 : (againM n (keepT (twinsN n)) (litT n.k0 (twinsN n))).regs.xs = (keptL n (keepT (twinsN n))).map (withNext (againS n (keepT (twinsN n)) (litT n.k0 (twinsN n))).1) := gof_xs _
 rw [inits_get hi]
 unfold GNet.inits
 rw [e2, e1, List.map_map, List.map_map, List.getD_eq_getElem?_getD, List.getElem?_map, h]; rfl
theorem rel_stable (hv : validM n = true) {i j : Nat} (hi : i < n.regs.xs.length) (hj : j < n.regs.xs.length) (hij : (twinsN n).getD i 0 = (twinsN n).getD j 0) : E n.k0 n.gates.xs (twinsN n) (n.nexts.getD i 0) = E n.k0 n.gates.xs (twinsN n) (n.nexts.getD j 0) := by
 have hl := twins_len n
 obtain ⟨hgo, hrn, _⟩ := valid_lits hv
 have hkN : n.kN = 1 + n.ins.xs.length + (twinsN n).length := by rw [hl]; rfl
 exact stable_E (nins := n.ins.xs.length) (by rw [hl]; simp [GNet.nexts]) (twins_class n).canon (by rw [<- hkN]; exact hgo) (fun l hl => by
  rw [<- hkN]
  obtain ⟨r, hr, rfl⟩ := List.mem_map.1 hl
  exact hrn r hr) (twins_rel n).2 (by omega) (by omega) hij
theorem merge_twins (hv : validM n = true) : ∀ p, p < (mergeP n).regs.xs.length -> (twinsN (mergeP n)).getD p 0 = p := fun p hp => by
 have hs := merge_stand n
 have hl := twins_len n
 have hC := twins_class n
 have hcan := hC.canon
 have hmv := mergeP_valid hv
 have hdl := twins_len (mergeP n)
 have hD := twins_class (mergeP n)
 have hdan := hD.canon
 have hM := merge_regs (n := n)
 have hrp := reps (k0_pos n) (keepT (twinsN n)) (twinsN n).length
 have hmk0 : (mergeP n).k0 = n.k0 := by
  have e : (mergeP n).ins.xs = n.ins.xs := (lay_xs (n := againM n (keepT (twinsN n)) (litT n.k0 (twinsN n))) (s := cleanS (againM n (keepT (twinsN n)) (litT n.k0 (twinsN n))))).1.trans (clone_xs _)
  unfold GNet.k0; rw [e]
 have hmN : (mergeP n).kN = n.kk (keepT (twinsN n)) := lay_kN.trans (netOf_kN (clone_xs _))
 have heval := fun {U : List Lt} (hU : U.length = n.kk (keepT (twinsN n))) (h0 : U.getD 0 trA.z = trA.z) {r i : Nat} (hri : (repL (keepT (twinsN n)) (twinsN n).length)[r]? = some i) => again_eval hv hs hU h0 (r := r) (i := i) (by rw [<- hl]; exact hri)
 have hmm : againN n (keepT (twinsN n)) (litT n.k0 (twinsN n)) = mergeP n := rfl
 rw [hmm] at heval
 have hkk : n.kk (keepT (twinsN n)) = n.k0 + (repL (keepT (twinsN n)) (twinsN n).length).length := by
  have h := ((reps (k0_pos n) (keepT (twinsN n)) n.regs.xs.length).pick n.regs.xs rfl).1
  unfold GNet.kk
  rw [hl, <- h]; rfl
 have hget := again_get hv
 have hlow := fun j hj => again_low (n := n) j hj (keepT (twinsN n)) (litT n.k0 (twinsN n))
 have hlen := againL_len n (keepT (twinsN n)) (litT n.k0 (twinsN n))
 have hmst := fun {i j : Nat} => rel_stable hmv (i := i) (j := j)
 have hnst := fun {i j : Nat} => rel_stable hv (i := i) (j := j)
 have hmini := fun {r i : Nat} (h1 : (repL (keepT (twinsN n)) (twinsN n).length)[r]? = some i) (h2 : i < n.regs.xs.length) => merge_inits h1 h2
 have hrho := fun i (hi : i < n.regs.xs.length) => rho_at hcan (i := i) (by omega)
 have hrholt := fun i (hi : i < n.regs.xs.length) => rho_lt hcan (i := i) (by omega)
 have hrhoc : ∀ i, i < n.regs.xs.length -> rhoT (twinsN n) ((twinsN n).getD i 0) = rhoT (twinsN n) i := fun i hi => by
  unfold rhoT
  rw [(hcan i (by omega)).2]
 have hreach0 := reach_class0 (by simp [GNet.inits, GNet.nexts]) (twins_rel n).1
 have hreachm := reach_class0 (by simp [GNet.inits, GNet.nexts]) (twins_rel (mergeP n)).1
 have hreachn := (twins_rel n).1
 generalize hcd : twinsN n = c at *
 generalize hdd : twinsN (mergeP n) = d at *
 generalize hrep : repL (keepT c) c.length = rp at *
 generalize hmg : mergeP n = m at *
 rw [hmk0] at hmst
 -- the classes, lifted
 have hfl : ∀ p, p < rp.length -> d.getD p 0 < rp.length /\ d.getD p 0 <= p /\ d.getD (d.getD p 0) 0 = d.getD p 0 := fun p hp => by
  obtain ⟨a, b⟩ := hdan p (by omega)
  exact ⟨by omega, a, b⟩
 have hrpi : ∀ r, r < rp.length -> rp[r]? = some (rp.getD r 0) := fun r hr => by
  rw [List.getD_eq_getElem?_getD, List.getElem?_eq_getElem hr]; rfl
 have hrpin : ∀ r, r < rp.length -> rp.getD r 0 < n.regs.xs.length /\ c.getD (rp.getD r 0) 0 = rp.getD r 0 := fun r hr => by
  obtain ⟨i, a, b, e⟩ := hrp.onto r (by rw [hrep]; exact hr)
  rw [hrep, hrpi r hr] at e
  cases e
  exact ⟨by omega, (keepT_true a).1 b⟩
 have hrhor : ∀ r, r < rp.length -> rhoT c (rp.getD r 0) = r := fun r hr => by
  have h1 := hrho _ (hrpin r hr).1
  rw [(hrpin r hr).2] at h1
  have := hrp.inj (r := rhoT c (rp.getD r 0)) (r' := r) (i := rp.getD r 0) (by rw [hrep]; exact h1) (by rw [hrep]; exact hrpi r hr)
  exact this
 have hrpc : ∀ i, i < n.regs.xs.length -> rp.getD (rhoT c i) 0 = c.getD i 0 := fun i hi => by
  have := hrho i hi
  rw [hrpi _ (hrholt i hi)] at this
  exact Option.some.inj this
 have hrpmono : ∀ r r', r <= r' -> r' < rp.length -> rp.getD r 0 <= rp.getD r' 0 := fun r r' h h' => by
  rcases Nat.lt_or_ge r r' with e | e
  ·exact Nat.le_of_lt (hrp.mono r r' _ _ e (by rw [hrep]; exact hrpi r (by omega)) (by rw [hrep]; exact hrpi r' h'))
  ·rw [show r = r' by omega]; exact Nat.le_refl _
 have hrpinj : ∀ r r', r < rp.length -> r' < rp.length -> rp.getD r 0 = rp.getD r' 0 -> r = r' := fun r r' h h' e => by
  rw [<- hrhor r h, <- hrhor r' h', e]
 obtain ⟨f, hf⟩ : ∃ f, f = (List.range n.regs.xs.length).map fun i => d.getD (rhoT c i) 0 := ⟨_, rfl⟩
 obtain ⟨e, he⟩ : ∃ e, e = (List.range n.regs.xs.length).map fun i => rp.getD (d.getD (rhoT c i) 0) 0 := ⟨_, rfl⟩
 have hflen : f.length = n.regs.xs.length := by rw [hf]; simp
 have helen : e.length = n.regs.xs.length := by rw [he]; simp
 have fget : ∀ i, i < n.regs.xs.length -> f.getD i 0 = d.getD (rhoT c i) 0 := fun i hi => by rw [hf]; exact mapR_get hi
 have eget : ∀ i, i < n.regs.xs.length -> e.getD i 0 = rp.getD (d.getD (rhoT c i) 0) 0 := fun i hi => by rw [he]; exact mapR_get hi
 have ecanon : Canon e := fun i hi => by
  have hi : i < n.regs.xs.length := by omega
  obtain ⟨a, b, g⟩ := hfl _ (hrholt i hi)
  have h1 := hrpmono _ _ b (hrholt i hi)
  rw [hrpc i hi] at h1
  have h2 := (hcan i (by omega)).1
  have h3 := (hrpin _ a).1
  rw [eget i hi]
  refine ⟨by omega, ?_⟩
  rw [eget _ h3, hrhor _ a, g]
 -- what registers take
 have hTB : (againL n (keepT c) (litT n.k0 c)).map (litA trA (TB n.k0 d)) = TB n.k0 f := by
  refine ext_getL (by rw [List.length_map, hlen, TB_len, hflen]; rfl) fun j hj => ?_
  rw [List.length_map, hlen] at hj
  rw [getD_mapL (d := 0) (by rw [hlen]; exact hj)]
  by_cases c0 : j < n.k0
  ·rw [hlow j c0, lit_even, TB_low c0, TB_low c0]
  ·have ej : j = n.k0 + (j - n.k0) := by omega
   have hj2 : j - n.k0 < n.regs.xs.length := by
    have : n.kN = n.k0 + n.regs.xs.length := rfl
    omega
   rw [ej, hget _ hj2, lit_even, TB_reg (by have := hrholt _ hj2; omega), TB_reg (by omega), fget _ hj2]
 have hEf : ∀ r, r < rp.length -> E n.k0 n.gates.xs f (n.nexts.getD (rp.getD r 0) 0) = E n.k0 m.gates.xs d (m.nexts.getD r 0) := fun r hr => by
  have := heval (U := TB n.k0 d) (by rw [TB_len, hdl, hM, hkk]) (by rw [TB_low (k0_pos n)]; rfl) (hrpi r hr)
  rw [hTB] at this
  exact this.symm
 have hEe : ∀ x, E n.k0 n.gates.xs e x = homL trA (ren n.k0 fun k => rp.getD k 0) (E n.k0 n.gates.xs f x) := fun x => E_hom (h := fun k => rp.getD k 0) (by omega) (fun i hi => by rw [eget i (by omega), fget i (by omega)]) x
 have hEc : ∀ x, E n.k0 n.gates.xs e x = homL trA (ren n.k0 fun k => e.getD k 0) (E n.k0 n.gates.xs c x) := fun x => E_hom (h := fun k => e.getD k 0) (by omega) (fun i hi => by
  have hi : i < n.regs.xs.length := by omega
  have := (hcan i (by omega)).1
  show e.getD i 0 = e.getD (c.getD i 0) 0
  rw [eget i hi, eget _ (by omega), hrhoc i hi]) x
 have hdij : ∀ i j, i < n.regs.xs.length -> j < n.regs.xs.length -> e.getD i 0 = e.getD j 0 -> d.getD (rhoT c i) 0 = d.getD (rhoT c j) 0 := fun i j hi hj h => by
  rw [eget i hi, eget j hj] at h
  exact hrpinj _ _ (hfl _ (hrholt i hi)).1 (hfl _ (hrholt j hj)).1 h
 have H2 : ∀ i j, i < e.length -> j < e.length -> e.getD i 0 = e.getD j 0 -> E n.k0 n.gates.xs e (n.nexts.getD i 0) = E n.k0 n.gates.xs e (n.nexts.getD j 0) := fun i j hi hj h => by
  have hi : i < n.regs.xs.length := by omega
  have hj : j < n.regs.xs.length := by omega
  have hd := hdij i j hi hj h
  have key : ∀ i, i < n.regs.xs.length -> E n.k0 n.gates.xs e (n.nexts.getD i 0) = homL trA (ren n.k0 fun k => rp.getD k 0) (E n.k0 m.gates.xs d (m.nexts.getD (rhoT c i) 0)) := fun i hi => by
   have h1 := (hcan i (by omega))
   rw [hEc, hnst hi (show c.getD i 0 < n.regs.xs.length by omega) h1.2.symm, <- hEc, hEe, <- hrpc i hi, hEf _ (hrholt i hi)]
  rw [key i hi, key j hj, hmst (by rw [hM]; exact hrholt i hi) (by rw [hM]; exact hrholt j hj) hd]
 have H1 : ∀ i j, i < e.length -> j < e.length -> e.getD i 0 = e.getD j 0 -> (class0 n.inits).getD i 0 = (class0 n.inits).getD j 0 := fun i j hi hj h => by
  have hi : i < n.regs.xs.length := by omega
  have hj : j < n.regs.xs.length := by omega
  have hil := ini_len n
  have hml := ini_len m
  have hd := hdij i j hi hj h
  have ai := (hcan i (by omega))
  have aj := (hcan j (by omega))
  have c1 := hreach0 i (c.getD i 0) (by omega) (by omega) ai.2.symm
  have c2 := hreach0 j (c.getD j 0) (by omega) (by omega) aj.2.symm
  rw [c1, c2]
  have hp := hrholt i hi
  have hq := hrholt j hj
  have h0 := hreachm _ _ (by omega) (by omega) hd
  have i1 := hmini (hrho i hi) (by omega)
  have i2 := hmini (hrho j hj) (by omega)
  have o1 := (class0_old (inits := m.inits) (i := rhoT c i) (by omega)).2
  have o2 := (class0_old (inits := m.inits) (i := rhoT c j) (by omega)).2
  have hin : m.inits.getD (rhoT c i) 0 = m.inits.getD (rhoT c j) 0 := by rw [<- o1, <- o2, h0]
  by_cases hX : m.inits.getD (rhoT c i) 0 = 2
  ·rw [class0_get (by omega), class0_get (by omega), if_pos hX, if_pos (by rw [<- hin]; exact hX)] at h0
   rw [<- hrpc i hi, <- hrpc j hj, h0]
  ·rw [class0_get (by omega), class0_get (by omega), <- i1, <- i2, <- hin, if_neg hX, if_neg hX]
 have hfin := coarsest (nins := n.ins.xs.length) (next := n.nexts) (inits := n.inits) (by simp [GNet.inits, GNet.nexts]) (gs := n.gates.xs) (by rw [ini_len]; exact (valid_lits hv).1) (fun l hl => by
  rw [ini_len]
  obtain ⟨r, hr, rfl⟩ := List.mem_map.1 hl
  exact (valid_lits hv).2.1 r hr) (by rw [ini_len]; exact helen) ecanon H1 H2 hreachn
 have hp : p < rp.length := by omega
 obtain ⟨a, b, g⟩ := hfl p hp
 have x1 := hrpin p hp
 have x2 := hrpin _ a
 have hee : e.getD (rp.getD p 0) 0 = e.getD (rp.getD (d.getD p 0) 0) 0 := by
  rw [eget _ x1.1, eget _ x2.1, hrhor p hp, hrhor _ a, g]
 have := hfin _ _ (by omega) (by omega) hee
 rw [x1.2, x2.2] at this
 exact (hrpinj _ _ hp a this).symm
end
end Go.OptEnv
namespace Go.OptEnv
open Go Go.Proofs Go.Abs Go.RowKit Go.NetM
set_option maxRecDepth 10000
theorem fill_all' {k0 R : Nat} {keep : List Bool} {lits : List Int} (hk : ∀ i, i < R -> keep.getD i false = true) : ∀ i, i <= R -> fillZ 0 k0 R keep lits i = (selZ 0 k0 keep R).1
 | 0, _ => rfl
 | i + 1, h => by rw [fillZ_yes (hk i (by omega)), fill_all' hk i (by omega)]
theorem again_all {n : GNet} {keep : List Bool} {lits : List Int} (hk : ∀ i, i < n.regs.xs.length -> keep.getD i false = true) : SameC (againM n keep lits) (shareN n) := by
 have e1 : selZ 0 n.k0 keep n.regs.xs.length = (idL n.kN, n.regs.xs.length) := by
  rw [selZ_RM, sel_all _ fun j hj => by rw [frontK_get]; exact hk j hj]; rfl
 have eL : againL n keep lits = idL n.kN := by
  unfold againL
  rw [fill_all' hk _ (Nat.le_refl _), e1]
 have ek : n.kk keep = n.kN := by rw [kk_sel (z := 0), e1]; rfl
 have ep : keptL n keep = n.regs.xs := by
  unfold keptL
  rw [<- pick_front (k0 := n.k0) _ (Nat.le_refl _), pick_all _ (Nat.le_refl _) fun j hj => by rw [frontK_get]; exact hk j hj, List.take_length]
 have eS : againS n keep lits = shareS n := by
  unfold againS shareS
  rw [ek, eL]
 obtain ⟨l1, l2, l3, l4⟩ := lay_xs (n := n) (s := shareS n)
 refine ⟨?_, ?_, ?_, ?_⟩
 ·show (cloneG n.ins).xs = (layN _ _).ins.xs
  rw [clone_xs, l1]
 ·show (GSl.of ((keptL n keep).map (withNext (againS n keep lits).1))).xs = (layN _ _).regs.xs
  rw [gof_xs, ep, eS, l2]
 ·show (GSl.of (againS n keep lits).2).xs = (layN _ _).gates.xs
  rw [gof_xs, eS, l3]
 ·show (GSl.of (n.outs.xs.map (withLit (againS n keep lits).1))).xs = (layN _ _).outs.xs
  rw [gof_xs, eS, l4]
structure MergeFin (n m : GNet) : Prop where
 v : validM m = true
 f : Folded m
 g : m.gates.xs.length <= n.gates.xs.length
 r : m.regs.xs.length <= n.regs.xs.length
 i : m.ins.xs = n.ins.xs
theorem merge_fin {n : GNet} (hv : validM n = true) : MergeFin n (mergeP n) := by
 have hs := merge_stand n
 refine ⟨mergeP_valid hv, again_folded hv hs, again_le hs, ?_, ?_⟩
 ·have e : (mergeP n).regs.xs.length = (keptL n (keepT (twinsN n))).length := by
   show (cleanN _).regs.xs.length = _
   rw [(clean_same _).1]
   show (GSl.of ((keptL n (keepT (twinsN n))).map _)).xs.length = _
   rw [gof_xs, List.length_map]
  rw [e]
  exact (keptL_sub n _).length_le
 ·show (cleanN _).ins.xs = _
  rw [(clean_same _).2]
  exact clone_xs _
theorem need_id {m : GNet} (hv : validM m = true) (hf : Folded m) (ha : AllNeed m) : SameC (needP m) m := by
 have h := fold_id hv hf
 have hfv := fold_valid hv
 have ha := h.allNeed ha
 have ho := only_id hfv (keep := needN (foldN m)) fun j h1 h2 => (need_get h2).2 (ha j h1 h2)
 rw [needP_eq hv]
 exact ho.fold.trans ((fold_id hfv (h.folded hf)).trans h)
theorem settle_id {m : GNet} (hv : validM m = true) (hf : Folded m) (hs : stayAll m) (j : Nat) : SameC (settleP j (foldN m)) m := by
 have h := fold_id hv hf
 rw [settleP_stay (h.stay.2 hs)]
 exact h
theorem SameC.twins {a b : GNet} (h : SameC a b) : twinsN a = twinsN b := by
 refine twins_eq ?_
 have := twins_rel b
 unfold Rel27 GNet.nexts GNet.inits at this ⊢
 rw [h.gates, h.ins, h.regs]
 exact this
theorem merge_id {m : GNet} (hv : validM m = true) (hf : Folded m) (ht : ∀ p, p < m.regs.xs.length -> (twinsN m).getD p 0 = p) : SameC (mergeP m) m := by
 have hl := twins_len m
 have hk : ∀ i, i < m.regs.xs.length -> (keepT (twinsN m)).getD i false = true := fun i hi => (keepT_true (by omega)).2 (ht i hi)
 exact ((again_all (lits := litT m.k0 (twinsN m)) hk).cleaned).trans (fold_id hv hf)
structure TwiceAt (F : GNet -> GNet) (n : GNet) : Prop where
 v : validM (F n) = true
 f : FitsN (F n)
 i : (F n).ins.xs.length = n.ins.xs.length
 g : (F n).gates.xs.length <= n.gates.xs.length
 r : (F n).regs.xs.length <= n.regs.xs.length
 same : ∀ m, SameC m (F n) -> SameC (F n) (F m)
def TwiceF (F : GNet -> GNet) : Prop := ∀ n, validM n = true -> FitsN n -> TwiceAt F n
theorem fold_twice : TwiceF foldN := fun n hv hn => ⟨fold_valid hv, fold_fits hv hn, by rw [(fold_regs' n).2], fold_le n, by rw [(fold_regs' n).1]; exact Nat.le_refl _, fun m h => (h.symm.trans (fold_id (h.valid.trans (fold_valid hv)) (h.folded (fold_folded hv))).symm)⟩
theorem need_twice : TwiceF needP := fun n hv hn => by
 have h := need_fin hv
 refine ⟨h.v, ?_, ?_, h.g, h.r, fun m hm => (hm.symm.trans (need_id (hm.valid.trans h.v) (hm.folded h.f) (hm.allNeed h.a)).symm)⟩
 ·rw [needP_eq hv]
  exact fold_fits (only_valid (fold_valid hv) _) ((only_same _ _).fits (kept_fits (fold_valid hv) (fold_fits hv hn)))
 ·rw [needP_eq hv, (fold_regs' _).2]
  show (foldN n).ins.xs.length = _
  rw [(fold_regs' n).2]
theorem settle_twice : TwiceF fun n => settleP n.regs.xs.length (foldN n) := fun n hv hn => by
 have h := settle_fin0 hv
 have hs : stayAll (settleP n.regs.xs.length (foldN n)) := settle_stay _ (by rw [(fold_regs' n).1]; exact Nat.le_refl _)
 exact ⟨h.v, settleP_fits _ (fold_valid hv) (fold_fits hv hn), by rw [h.i], h.g, h.r, fun m hm => (hm.symm.trans (settle_id (hm.valid.trans h.v) (hm.folded h.f) (hm.stay.2 hs) _).symm)⟩
theorem merge_twice : TwiceF mergeP := fun n hv hn => by
 have h := merge_fin hv
 have ht := merge_twins hv
 exact ⟨h.v, mergeP_fits hv hn, by rw [h.i], h.g, h.r, fun m hm => (hm.symm.trans (merge_id (hm.valid.trans h.v) (hm.folded h.f) (by rw [hm.twins, hm.regs]; exact ht)).symm)⟩
end Go.OptEnv
namespace Go.OptEnv
open Go Go.Proofs Go.Abs Go.RowKit Go.NetM
set_option maxRecDepth 10000
theorem get_left {α : Type} {L M : List α} {k : Nat} {x : α} (h : L[k]? = some x) : (L ++ M)[k]? = some x := by
 rw [List.getElem?_append_left (List.getElem?_eq_some_iff.1 h).1]; exact h
theorem set3 {α : Type} {a b c p q : α} {L : List α} : ((a :: b :: c :: L) ++ [p]).set (L.length + 3) q = (a :: b :: c :: L) ++ [q] := by
 show a :: b :: c :: ((L ++ [p]).set L.length q) = _
 rw [set_last]; rfl
theorem set3' {α : Type} {a b c p q : α} {L : List α} : (a :: b :: c :: (L ++ [p])).set (L.length + 3) q = (a :: b :: c :: L) ++ [q] := set3
theorem set2 {α : Type} {b c p q : α} {L : List α} : ((b :: c :: L) ++ [p]).set (L.length + 2) q = (b :: c :: L) ++ [q] := by
 show b :: c :: ((L ++ [p]).set L.length q) = _
 rw [set_last]; rfl
theorem set2' {α : Type} {b c p q : α} {L : List α} : (b :: c :: (L ++ [p])).set (L.length + 2) q = (b :: c :: L) ++ [q] := set2
theorem use67s {pr : Prims} {L : List (Nat × AObj)} {K : List (Nat × Bool)} {st : St} (h : Has pr 67 Rel67) {kl lb N : Nat} {k : Int} {v : List Int} (hL : L[kl]? = some (lb, .row 1 (v.map intAV))) (hN : N = v.length) (hS : SFa L K st) (hk : 0 <= k /\ k < 4611686018427387904 /\ k / 2 < v.length) (hv : 0 <= v.getD (k / 2).toNat 0 /\ v.getD (k / 2).toNat 0 < 4611686018427387904) : primOf Rel67 [.sl 1 lb 0 N, .int .i64 k] st = some (.int .i64 (atL v k), st) := by
 subst hN
 have hg := (hS.obj kl lb _ hL).1
 have hf2 : AV.free (.sl 1 lb 0 v.length) = false := rfl
 have e1 : viewA st 9 (.sl 1 lb 0 v.length) = some ((GSl.some v).av 1 intAV) := by
  simp only [viewA, hf2, hg, Bool.false_eq_true, if_false]
  rw [if_pos ⟨trivial, by simp⟩, List.drop_zero, List.take_of_length_le (by simp)]
  have : mapO (viewA st 8) (v.map intAV) = some (v.map intAV) := by
   have h := mapO_free (st := st) 7 (xs := v.map intAV) (freeL_map int_free v)
   rw [plainL_map int_plain] at h
   exact h
  simp only [viewA] at this
  rw [this]; unfold GSl.av; rfl
 have e2 : viewA st 9 (.int .i64 k) = some (.int .i64 k) := viewA_free 8 rfl
 exact h.view (a := [(GSl.some v).av 1 intAV, .int .i64 k]) (r := .int .i64 (atL v k)) (by simp only [mapO, e1, e2]) ⟨(GSl.some v, k), ⟨hk, hv⟩, rfl, rfl⟩ rfl
theorem use67w {pr : Prims} {P : List (Nat × AObj)} {K : List (Nat × Bool)} {st : St} (h : Has pr 67 Rel67) {ab : Nat} {k : Int} {v : List Int} (hS : SFa (P ++ litO 1 ab (v.map intAV)) K st) (hk : 0 <= k /\ k < 4611686018427387904 /\ k / 2 < v.length) (hv : 0 <= v.getD (k / 2).toNat 0 /\ v.getD (k / 2).toNat 0 < 4611686018427387904) : primOf Rel67 [litV 1 ab (v.map intAV), .int .i64 k] st = some (.int .i64 (atL v k), st) := by
 by_cases h2 : 2 <= v.length
 ·obtain ⟨e1, e2⟩ := litV_long (sz := 1) (b := ab) (xs := v.map intAV) (by rw [List.length_map]; exact h2)
  rw [e2] at hS
  rw [e1, List.length_map]
  exact use67s h get_last rfl hS hk hv
 ·have : litV 1 ab (v.map intAV) = .vs 1 .full (v.map intAV) := by
   match v, h2 with
   | [], _ => rfl
   | [x], _ => rfl
   | x :: y :: v, h2 => simp at h2
  rw [this]
  exact h.use ⟨(GSl.some v, k), ⟨hk, hv⟩, by simp only [AV.plainL, AV.plain, plainL_map int_plain]; rfl, rfl⟩ st
theorem c80acc {pr : Prims} {L : List (Nat × AObj)} {st : St} (h80 : pr 80 = none) {tp : Nat} {P : List GPin} (hP : P.length <= 1000000) (hS : SFa L [] st) : CW (En pr) 80 [accA tp 2 (P.map pinAV)] st fun r st' => ∃ (v : AV) (st2 : St), (v.cellOk = true /\ AV.plain v = (GSl.of P).av 2 pinAV /\ AV.free v = true) /\ freezeA st' r = some (v, st2) /\ SFa L [] st2 := by
 by_cases h : P = []
 ·subst h
  exact (run80n h80 hS).mono fun r st' ⟨e, hs⟩ => ⟨.nilsl, st', ⟨rfl, rfl, rfl⟩, by subst e; rfl, hs⟩
 ·have e : accA tp 2 (P.map pinAV) = .vs 2 (.tok tp) (P.map pinAV) := acc_vs (fun c => h (List.map_eq_nil_iff.1 c))
  rw [e]
  exact (run80o h80 (xs := P) (sz' := 2) (fun _ _ => rfl) rfl (fun st _ => rfl) (by simp [Nat.beq_refl]) hP hS).mono fun r st' ⟨b, _, e, hs⟩ => by
   obtain ⟨z1, z2⟩ := freeze_sl (n := P.length) (by rw [List.length_map]) hs
   refine ⟨_, _, ⟨rfl, ?_, ?_⟩, by rw [e]; exact z1, z2⟩
   ·rw [plain_some pin_plain, gof_some h]; rfl
   ·simp only [AV.free]; exact freeL_map pin_free P
theorem SFa.left {L M : List (Nat × AObj)} {st : St} (h : SFa (L ++ M) [] st) : SFa L [] st :=
 ⟨fun k b' o' hk => h.obj k b' o' (get_left hk), fun k k' b' o1 o2 h1 h2 => h.uniq k k' b' o1 o2 (get_left h1) (get_left h2), fun _ _ h => by simp at h, fun _ _ _ h => by simp at h⟩
theorem bare_kept {n : GNet} (hv : validM n = true) (hn : FitsN n) {keep : List Bool} {lits : List Int} (hs : Stand n.k0 n.regs.xs.length keep lits) : FitsN (bareN (cloneG n.ins) ((keptL n keep).map zeroR)) /\ validM (bareN (cloneG n.ins) ((keptL n keep).map zeroR)) = true := by
 have h0 := ShOk.zero (againL_range hs)
 have h1 : ShOk (n.kk keep) (againL n keep lits).length n.gates.xs.length (againL n keep lits, []) := ⟨h0.len, h0.range, Nat.zero_le _, h0.ok⟩
 have a := bare_fits (netOf_fits (ins := n.ins) rfl hv hn h1)
 have b := bare_valid (netOf_valid (ins := n.ins) rfl hv h1)
 have e : (netOf n.ins n keep (againL n keep lits, [])).regs.xs.map zeroR = (keptL n keep).map zeroR := by
  unfold netOf
  rw [gof_xs, List.map_map]; rfl
 rw [e] at a b
 exact ⟨a, b⟩
attribute [local irreducible] WS QS OS OD Abs.Sub SubO SubK CW GSl.av accA growA
section
variable {pr : Prims} {L : List (Nat × AObj)} {K : List (Nat × Bool)} {st : St}
set_option maxHeartbeats 4000000 in
theorem run61 (h1 : pr 61 = none) (h67 : Has pr 67 Rel67) (h66 : pr 66 = none) (h112 : Has pr 112 Rel112) (h57 : Has pr 57 Rel57) (h62 : pr 62 = none) (h95 : pr 95 = none) (h117 : pr 117 = none) (h94 : pr 94 = none) (h81 : pr 81 = none) (h118 : pr 118 = none) (h137 : pr 137 = none) (h138 : Has pr 138 Rel138) (h80 : pr 80 = none) (h51 : Has pr 51 Rel51)
  (kk kl : Nat) {kb lb : Nat} {kr : List Bool} {ls : List Int} (hk : L[kk]? = some (kb, .row 1 (kr.map boolAV))) (hl : L[kl]? = some (lb, .row 1 (ls.map intAV))) (n : GNet) (hV : validM n = true) (hn : FitsN n) (hkr : kr.length = n.regs.xs.length) (hls : ls.length = n.regs.xs.length) (hs : Stand n.k0 n.regs.xs.length kr ls) (hS : SFa L [] st) :
  CW (En pr) 61 [netAV n, .sl 1 kb 0 n.regs.xs.length, .sl 1 lb 0 n.regs.xs.length, .fn 62 [] []] st fun r st' => r = netAV (againN n kr ls) /\ SFa L [] st' := by
 obtain ⟨f1, f2, f3, f4⟩ := valid_len hV
 obtain ⟨hgo, hrn, hol⟩ := valid_lits hV
 have hk0 : (n.k0 : Int) = 1 + n.ins.xs.length := by unfold GNet.k0; omega
 have hk0n : n.k0 = 1 + n.ins.xs.length := rfl
 have hk01 : 0 < n.k0 := k0_pos n
 have hk' : n.kN = n.k0 + n.regs.xs.length := rfl
 have hw0 : IntKind.i64.wrap (1 + (n.ins.xs.length : Int)) = (n.k0 : Int) := by rw [wrap64 (by omega) (by omega)]; omega
 have hk3 : ∀ (a b c : Nat × AObj) (M : List (Nat × AObj)), (a :: ((b :: c :: L) ++ M))[kk + 3]? = some (kb, .row 1 (kr.map boolAV)) := fun a b c M => (get_left hk : (L ++ M)[kk]? = _)
 have hk2 : ∀ (b c : Nat × AObj) (M : List (Nat × AObj)), ((b :: c :: L) ++ M)[kk + 2]? = some (kb, .row 1 (kr.map boolAV)) := fun b c M => (get_left hk : (L ++ M)[kk]? = _)
 have hl2 : ∀ (b c : Nat × AObj) (M : List (Nat × AObj)), ((b :: c :: L) ++ M)[kl + 2]? = some (lb, .row 1 (ls.map intAV)) := fun b c M => (get_left hl : (L ++ M)[kl]? = _)
 have hp3 : ∀ (a b c p : Nat × AObj), (a :: ((b :: c :: L) ++ [p]))[L.length + 3]? = some p := fun a b c p => (get_last : (L ++ [p])[L.length]? = _)
 have hp2 : ∀ (b c p : Nat × AObj), ((b :: c :: L) ++ [p])[L.length + 2]? = some p := fun b c p => (get_last : (L ++ [p])[L.length]? = _)
 refine CW.startS (N := 204) h1 rfl rfl hS ?_
 repeat' (first | (refine OS.do rfl ?_; first | refine OD.box rfl rfl rfl rfl (net_ok _) rfl (fun b4 => ?_) | refine OD.auto rfl rfl ?_ | refine OD.loadP 1 rfl rfl rfl rfl rfl rfl ?_ | refine OD.len rfl rfl (fun _ => lenTy_av rfl rfl) ?_ | refine OD.alloc rfl rfl rfl rfl (fun _ => ?_)) | refine OS.nil ?_ | refine WS.seq ?_ | refine QS.seqN ?_ | refine WS.region ?_ | refine WS.block ?_)
 rename_i b8
 refine WS.objs (L' := ((b8, .row ty27.size [ty27.zeroV]) :: (b4, .row ty27.size [netAV n]) :: L) ++ litO 1 0 (([0] : List Int).map intAV)) (by rw [show litO 1 0 (([0] : List Int).map intAV) = [] from rfl, List.append_nil]; exact SubO.refl _) ?_
 refine WS.rangeX (A := Nat × List Int) (n := n.ins.xs.length) ⟨32, _, fun a => [(11, litV 1 a.1 (a.2.map intAV))], fun a => ((b8, .row ty27.size [ty27.zeroV]) :: (b4, .row ty27.size [netAV n]) :: L) ++ litO 1 a.1 (a.2.map intAV), fun _ => [], fun i a => a.2 = idL (1 + i)⟩ ((0, [0])) [1, 2, 3, 4, 8, 9, 10, 31] (rfl) ?_ ?_
 ·rintro i ⟨ab, A⟩ hi hA
  try dsimp only at hA
  have hAl : A.length = 1 + i := by rw [hA, idL_len]
  have hne : ∀ _ : Unit, A.map intAV ≠ [] := fun _ c => by rw [List.map_eq_nil_iff] at c; rw [c] at hAl; simp at hAl; omega
  have hw : IntKind.i64.wrap (2 * IntKind.i64.wrap (1 + (i : Int))) = 2 * ((1 + i : Nat) : Int) := by
   rw [wrap64 (n := 1 + (i : Int)) (by omega) (by omega), wrap64 (by omega) (by omega)]; omega
  have hgm : A.map intAV ++ [.int .i64 (2 * ((1 + i : Nat) : Int))] = (A ++ [2 * ((1 + i : Nat) : Int)]).map intAV := by rw [List.map_append]; rfl
  have hlw : ∀ b, litV 1 b ((A ++ [2 * ((1 + i : Nat) : Int)]).map intAV) = .sl 1 b 0 ((A ++ [2 * ((1 + i : Nat) : Int)]).map intAV).length /\ litO 1 b ((A ++ [2 * ((1 + i : Nat) : Int)]).map intAV) = [(b, .row 1 ((A ++ [2 * ((1 + i : Nat) : Int)]).map intAV))] := fun b => litV_long (by simp; omega)
  dsimp only [RSt.at, List.cons_append, List.nil_append]
  repeat' (first | (refine OS.do rfl ?_; first | refine OD.auto rfl rfl ?_ | (refine OD.appendW (L := _ :: _ :: L) (xs := A.map intAV) (y := .int .i64 (IntKind.i64.wrap (2 * IntKind.i64.wrap (1 + (i : Int))))) rfl rfl rfl rfl (hne ()) rfl rfl rfl rfl rfl rfl ⟨⟨_, rfl⟩, rfl⟩ (fun _ => rfl) rfl rfl (roomB rfl (by simp only [List.length_map]; omega)) (fun ab' => ?_); rw [hw, hgm, <- (hlw _).1, <- (hlw _).2])) | refine OS.nil ?_ | refine WS.seq ?_ | refine QS.seqN ?_ | refine WS.region ?_)
  exact QS.rangeX ((ab', A ++ [2 * ((1 + i : Nat) : Int)])) (by (try dsimp only) <;> exact (by rw [hA, show 1 + (i + 1) = (1 + i) + 1 by omega, idL_succ])) (hL := by (try dsimp only); exact SubO.refl _)
 rintro ⟨ab, A⟩ hA
 try dsimp only at hA
 have hA : A = idL n.k0 := hA
 dsimp only [RSt.at, List.cons_append, List.nil_append]
 repeat' (first | (refine OS.do rfl ?_; first | refine OD.auto rfl rfl ?_ | refine OD.loadP 1 rfl rfl rfl rfl rfl rfl ?_ | refine OD.len rfl rfl (fun _ => lenTy_av rfl rfl) ?_) | refine OS.nil ?_ | refine WS.seq ?_ | refine QS.seqN ?_ | refine WS.region ?_ | refine WS.block ?_)
 refine WS.newK (WS.newK ?_)
 refine WS.rangeX (A := (Nat × List Int) × Nat × Nat × List GReg) (n := n.regs.xs.length) ⟨45, _, fun a => [(11, litV 1 a.1.1 (a.1.2.map intAV)), (9, accA a.2.1 1 ((a.2.2.2.map (·.name)).map strAV)), (10, accA a.2.2.1 1 ((a.2.2.2.map (·.init)).map bitAV))], fun a => ((b8, .row ty27.size [ty27.zeroV]) :: (b4, .row ty27.size [netAV n]) :: L) ++ litO 1 a.1.1 (a.1.2.map intAV), fun a => [(a.2.1, !a.2.2.2.isEmpty), (a.2.2.1, !a.2.2.2.isEmpty)], fun i a => (a.1.2, a.2.2.2.length) = selZ 0 n.k0 kr i /\ a.2.2.2 = pickL 0 kr n.regs.xs i⟩ (((ab, A), 0, 0, [])) [1, 2, 3, 4, 8, 43, 44] (⟨by rw [hA]; rfl, by simp [pickL]⟩) ?_ ?_ (hm := by (try dsimp only); repeat' (first | exact Sub.nil _ | refine Sub.cons (congrArg some (accA_nil2 _ _).symm) ?_ | refine Sub.cons (congrArg (fun z => some (AV.int .i64 z)) (wrap_succ (by omega))) ?_ | refine Sub.cons rfl ?_))
 ·rintro i ⟨⟨ab, A⟩, tn, ti, R⟩ hi ⟨hA, hR⟩
  try dsimp only at hA hR
  have hAl : A.length = n.k0 + i := by
   have := selZ_len (z := 0) (k0 := n.k0) (keep := kr) i
   rw [<- hA] at this; exact this
  have hRl : R.length <= i := by
   have := selZ_le (z := 0) (k0 := n.k0) (keep := kr) i
   rw [<- hA] at this; exact this
  have hne : ∀ _ : Unit, A.map intAV ≠ [] := fun _ c => by rw [List.map_eq_nil_iff] at c; rw [c] at hAl; simp at hAl; omega
  have hkb : (kr.map boolAV)[i]? = some (.bool (kr.getD i false)) := by
   rw [List.getElem?_map, List.getD_eq_getElem?_getD, List.getElem?_eq_getElem (by omega)]; rfl
  have hgm : A.map intAV ++ [.int .i64 0] = (A ++ [0]).map intAV := by rw [List.map_append]; rfl
  have hgl : ((A ++ [0]).map intAV).length = A.length + 1 := by simp
  have hlw : ∀ (v : Int) (b : Nat), litV 1 b ((A ++ [v]).map intAV) = .sl 1 b 0 (A.length + 1) /\ litO 1 b ((A ++ [v]).map intAV) = [(b, .row 1 ((A ++ [v]).map intAV))] := fun v b => by
   have := litV_long (sz := 1) (b := b) (xs := (A ++ [v]).map intAV) (by simp; omega)
   rw [show ((A ++ [v]).map intAV).length = A.length + 1 by simp] at this
   exact this
  dsimp only [RSt.at, List.cons_append, List.nil_append]
  repeat' (first | (refine OS.do rfl ?_; first | refine OD.loadP (kk + 3) rfl rfl (hk3 _ _ _ _) hkb rfl rfl ?_ | refine OD.auto rfl rfl ?_ | refine OD.indexAddr rfl rfl rfl (indexAddrA_nat rfl rfl rfl rfl (by first | assumption | exact List.getElem?_eq_getElem (by omega))) ?_ | refine OD.alloc rfl rfl rfl rfl (fun _ => ?_) | refine OD.storeW 0 rfl rfl rfl rfl (by first | rfl | exact net_ok _) rfl rfl rfl ?_ | (refine OD.appendW (L := _ :: _ :: _ :: L) (xs := A.map intAV) (y := .int .i64 0) rfl rfl rfl rfl (hne ()) rfl rfl rfl rfl rfl rfl ⟨⟨_, rfl⟩, rfl⟩ (fun _ => rfl) rfl rfl (roomB rfl (by simp only [List.length_map]; omega)) (fun ab' => ?_); rw [hgm, hgl]) | refine OD.indexAddr rfl rfl rfl (indexAddrA_sl rfl rfl rfl rfl (by omega)) ?_) | refine OS.nil ?_ | refine WS.seq ?_ | refine QS.seqN ?_ | refine WS.region ?_ | refine WS.skip ?_ | refine WS.condB rfl (fun _ => ?_) (fun _ => ?_))
  ·rename_i hb
   have hm1 : (R.map (·.name)).map strAV ++ [strAV n.regs.xs[i].name] = ((R ++ [n.regs.xs[i]]).map (·.name)).map strAV := by simp
   have hm2 : (R.map (·.init)).map bitAV ++ [bitAV n.regs.xs[i].init] = ((R ++ [n.regs.xs[i]]).map (·.init)).map bitAV := by simp
   have hnl : ((R ++ [n.regs.xs[i]]).map (·.name)).length = R.length + 1 := by simp
   have hwv : IntKind.i64.wrap (2 * IntKind.i64.wrap ((n.ins.xs.length : Int) + ((R.length + 1 : Nat) : Int))) = 2 * ((n.k0 + R.length : Nat) : Int) := by
    rw [wrap64 (n := (n.ins.xs.length : Int) + ((R.length + 1 : Nat) : Int)) (by omega) (by omega), wrap64 (by omega) (by omega)]; omega
   have hki : ∀ ab' : Nat, indexAddrA (En pr) 38 (.sl 1 ab' 0 (A.length + 1)) (.int .i64 (IntKind.i64.wrap (((A.length + 1 : Nat) : Int) - 1))) = some (.ptr ab' A.length 0) := fun ab' => by
    rw [show IntKind.i64.wrap (((A.length + 1 : Nat) : Int) - 1) = ((A.length : Nat) : Int) by rw [wrap64 (by omega) (by omega)]; omega]
    exact indexAddrA_sl rfl rfl rfl rfl (by omega)
   have hz0 : ((A ++ [0]).map intAV)[A.length]? = some (.int .i64 0) := by rw [List.getElem?_map, List.getElem?_append_right (Nat.le_refl _), Nat.sub_self]; rfl
   have hset : ∀ v : Int, ((A ++ [0]).map intAV).set A.length (.int .i64 v) = (A ++ [v]).map intAV := fun v => by
    rw [show (.int .i64 v : AV) = intAV v from rfl, <- List.map_set, set_last]
   refine WS.drawY 8 [(tn, !R.isEmpty), (ti, !R.isEmpty)] (K := []) rfl rfl rfl rfl ?_; (repeat' (first | refine SegY.nil ?_ | refine SegY.auto rfl rfl rfl rfl ?_ | refine SegY.loadP 0 rfl rfl rfl rfl rfl rfl rfl ?_ | refine SegY.loadP 1 rfl rfl rfl rfl rfl rfl rfl ?_ | refine SegY.loadP 2 rfl rfl rfl rfl rfl rfl rfl ?_ | refine SegY.indexAddr rfl rfl rfl rfl rfl ?_ | refine SegY.append 0 (xs := (R.map (·.name)).map strAV) (ys := [strAV n.regs.xs[i].name]) rfl rfl rfl rfl rfl (by simp only [List.isEmpty_map]; rfl) rfl rfl rfl rfl rfl rfl (.inr ⟨⟨_, rfl⟩, rfl⟩) (fun _ => rfl) rfl rfl (roomB rfl (by simp only [List.length_map, List.length_singleton]; omega)) (by simp) (fun tn' => ?_)))
   dsimp only [RSt.at, List.cons_append, List.nil_append]
   repeat' (first | (refine OS.do rfl ?_; first | refine OD.len rfl rfl (fun _ => (lenTy_accm rfl rfl).trans (by rw [hnl])) ?_ | refine OD.indexAddr rfl rfl rfl (hki _) ?_ | refine OD.auto rfl rfl ?_ | refine OD.len rfl rfl (fun _ => lenTy_av rfl rfl) ?_ | refine OD.len rfl rfl (fun _ => rfl) ?_ | refine OD.loadP 2 rfl rfl rfl rfl rfl rfl ?_ | (refine OD.append 1 (xs := (R.map (·.init)).map bitAV) (ys := [bitAV n.regs.xs[i].init]) rfl rfl rfl rfl (by simp only [List.isEmpty_map]; rfl) rfl rfl rfl rfl rfl rfl (.inr ⟨⟨_, rfl⟩, rfl⟩) (fun _ => rfl) rfl rfl (roomB rfl (by simp only [List.length_map, List.length_singleton]; omega)) (fun ti' => ?_); rw [hm1, hm2]) | (rw [hwv]; refine OD.storeI (L.length + 3) rfl rfl rfl rfl (hp3 _ _ _ _) hz0 ?_; first | rw [set3, hset] | rw [set3', hset])) | refine OS.nil ?_ | refine QS.seqN ?_ | refine WS.region ?_)
   rw [<- (hlw (2 * ((n.k0 + R.length : Nat) : Int)) ab').1, <- (hlw (2 * ((n.k0 + R.length : Nat) : Int)) ab').2]
   exact QS.rangeX (((ab', A ++ [2 * ((n.k0 + R.length : Nat) : Int)]), tn', ti', R ++ [n.regs.xs[i]])) (by (try dsimp only) <;> exact (⟨by rw [selZ_yes hA hb, List.length_append]; rfl, by rw [pickL_succ hi, Nat.zero_add, if_pos hb, hR]⟩)) (hL := by (try dsimp only); exact SubO.drop (SubO.refl _))
  ·rename_i hb
   rw [<- (hlw 0 ab').1, <- (hlw 0 ab').2]
   exact QS.rangeX (((ab', A ++ [0]), tn, ti, R)) (by (try dsimp only) <;> exact (⟨by rw [selZ_no hA hb], by rw [pickL_succ hi, Nat.zero_add, if_neg (by rw [hb]; simp), hR]⟩)) (hL := by (try dsimp only); exact SubO.drop (SubO.refl _))
 rintro ⟨⟨ab, A⟩, tn, ti, R⟩ ⟨hA, hR⟩
 try dsimp only at hA hR
 have hR : R = keptL n kr := hR
 have hA0 : A = fillZ 0 n.k0 n.regs.xs.length kr ls 0 := by show A = (selZ 0 n.k0 kr n.regs.xs.length).1; rw [<- hA]
 have hAl : A.length = n.kN := by rw [hA0, fillZ_len]; rfl
 dsimp only [RSt.at, List.cons_append, List.nil_append]
 repeat' (first | (refine OS.do rfl ?_; first | refine OD.auto rfl rfl ?_ | refine OD.loadP 1 rfl rfl rfl rfl rfl rfl ?_ | refine OD.len rfl rfl (fun _ => lenTy_av rfl rfl) ?_) | refine OS.nil ?_ | refine WS.seq ?_ | refine QS.seqN ?_ | refine WS.region ?_ | refine WS.block ?_)
 refine WS.rangeX (A := List Int) (n := n.regs.xs.length) ⟨83, _, fun _ => [], fun a => ((b8, .row ty27.size [ty27.zeroV]) :: (b4, .row ty27.size [netAV n]) :: L) ++ litO 1 ab (a.map intAV), fun _ => [], fun i a => a = fillZ 0 n.k0 n.regs.xs.length kr ls i⟩ (A) [1, 2, 3, 4, 8, 9, 10, 11, 82] (hA0) ?_ ?_
 ·rintro i a hi ha
  try dsimp only at ha
  have hal : a.length = n.kN := by rw [ha, fillZ_len]; rfl
  have hlA := litV_long (sz := 1) (b := ab) (xs := A.map intAV) (by rw [List.length_map]; omega)
  have hla := litV_long (sz := 1) (b := ab) (xs := a.map intAV) (by rw [List.length_map]; omega)
  rw [List.length_map, hAl] at hlA
  have hkb : (kr.map boolAV)[i]? = some (.bool (kr.getD i false)) := by
   rw [List.getElem?_map, List.getD_eq_getElem?_getD, List.getElem?_eq_getElem (by omega)]; rfl
  have hlb : (ls.map intAV)[i]? = some (.int .i64 (ls.getD i 0)) := by
   rw [List.getElem?_map, List.getD_eq_getElem?_getD, List.getElem?_eq_getElem (by omega)]; rfl
  have hki : indexAddrA (En pr) 38 (.sl 1 ab 0 n.kN) (.int .i64 (IntKind.i64.wrap (IntKind.i64.wrap (1 + (n.ins.xs.length : Int)) + (i : Int)))) = some (.ptr ab (n.k0 + i) 0) := by
   rw [hw0, show IntKind.i64.wrap ((n.k0 : Int) + (i : Int)) = ((n.k0 + i : Nat) : Int) by rw [wrap64 (by omega) (by omega)]; omega]
   exact indexAddrA_sl rfl rfl rfl rfl (by omega)
  have haj : ∀ b : List Int, b.length = n.kN -> (b.map intAV)[n.k0 + i]? = some (.int .i64 (b.getD (n.k0 + i) 0)) := fun b hb => by
   rw [List.getElem?_map, List.getD_eq_getElem?_getD, List.getElem?_eq_getElem (by omega)]; rfl
  have hset : ∀ (b : List Int) (v : Int), (b.map intAV).set (n.k0 + i) (.int .i64 v) = (b.set (n.k0 + i) v).map intAV := fun b v => by rw [List.map_set]; rfl
  dsimp only [RSt.at, List.cons_append, List.nil_append]
  rw [hlA.1, hla.2]
  repeat' (first | (refine OS.do rfl ?_; first | refine OD.loadP (kk + 2) rfl rfl (hk2 _ _ _) hkb rfl rfl ?_ | refine OD.auto rfl rfl ?_ | refine OD.indexAddr rfl rfl rfl (indexAddrA_sl rfl rfl rfl rfl (by omega)) ?_) | refine OS.nil ?_ | refine WS.seq ?_ | refine QS.seqN ?_ | refine WS.region ?_ | refine WS.skip ?_ | refine WS.condN rfl (fun _ => ?_) (fun _ => ?_))
  ·rename_i hb
   have hb : kr.getD i false = false := by simpa using hb
   obtain ⟨l0, l1, l2⟩ := hs i hi hb
   have hne : (ls.getD i 0 / 2).toNat ≠ n.k0 + i := fun c => by
    rcases l2 with l2 | l2
    ·omega
    ·rw [c, Nat.add_sub_cancel_left, hb] at l2; cases l2
   have hga : 0 <= a.getD (ls.getD i 0 / 2).toNat 0 /\ a.getD (ls.getD i 0 / 2).toNat 0 < 5000 := by
    rw [ha, fillZ_stays l2]
    have h1 := selZ_range (z := 0) hk01 (keep := kr) n.regs.xs.length _ l2
    have h2 := selZ_le (z := 0) (k0 := n.k0) (keep := kr) n.regs.xs.length
    omega
   have hg1 : (a.set (n.k0 + i) (ls.getD i 0)).getD (ls.getD i 0 / 2).toNat 0 = a.getD (ls.getD i 0 / 2).toNat 0 := by rw [getD_setI, if_neg (fun c => hne c.1.symm)]
   have hat : atL (a.set (n.k0 + i) (ls.getD i 0)) (ls.getD i 0) = atL a (ls.getD i 0) := atL_congr hg1
   have hfin : a.set (n.k0 + i) (atL a (ls.getD i 0)) = fillZ 0 n.k0 n.regs.xs.length kr ls (i + 1) := by rw [fillZ_no hs hi hb, <- ha]
   have hla2 := fun b : List Int => litV_long (sz := 1) (b := ab) (xs := (a.set (n.k0 + i) (ls.getD i 0)).map intAV) (by rw [List.length_map, List.length_set]; omega)
   refine WS.drawY 0 [] (K := []) rfl rfl rfl rfl ?_; (repeat' (first | refine SegY.nil ?_ | refine SegY.auto rfl rfl rfl rfl ?_ | refine SegY.loadP 0 rfl rfl rfl rfl rfl rfl rfl ?_ | refine SegY.loadP 1 rfl rfl rfl rfl rfl rfl rfl ?_ | refine SegY.loadP 2 rfl rfl rfl rfl rfl rfl rfl ?_ | refine SegY.indexAddr rfl rfl rfl rfl rfl ?_))
   dsimp only [RSt.at, List.cons_append, List.nil_append]
   repeat' (first | (refine OS.do rfl ?_; first | refine OD.loadP (kl + 2) rfl rfl (hl2 _ _ _) hlb rfl rfl ?_ | refine OD.indexAddr rfl rfl rfl hki ?_ | refine OD.auto rfl rfl ?_ | refine OD.loadP 1 rfl rfl rfl rfl rfl rfl ?_ | refine OD.len rfl rfl (fun _ => lenTy_av rfl rfl) ?_ | refine OD.indexAddr rfl rfl rfl (indexAddrA_sl rfl rfl rfl rfl (by omega)) ?_ | (refine OD.storeI (L.length + 2) rfl rfl rfl rfl (hp2 _ _ _) (haj _ hal) ?_; first | rw [set2, hset] | rw [set2', hset])) | refine OS.nil ?_ | refine WS.seq ?_ | refine QS.seqN ?_ | refine WS.region ?_ | refine WS.condD rfl (fun _ => ?_) (fun _ => ?_) | refine WS.skip ?_)
   ·rename_i hc
    try dsimp only [List.cons_append, List.nil_append]
    refine WS.drawY 13 [] (K := []) rfl rfl rfl rfl ?_; (repeat' (first | refine SegY.nil ?_ | refine SegY.loadP (kl + 2) rfl rfl rfl (hl2 _ _ _) hlb rfl rfl ?_ | refine SegY.auto rfl rfl rfl rfl ?_ | refine SegY.loadP 0 rfl rfl rfl rfl rfl rfl rfl ?_ | refine SegY.loadP 1 rfl rfl rfl rfl rfl rfl rfl ?_ | refine SegY.loadP 2 rfl rfl rfl rfl rfl rfl rfl ?_ | refine SegY.indexAddr rfl rfl rfl rfl rfl ?_ | refine SegY.len rfl rfl rfl (fun _ => lenTy_av rfl rfl) ?_ | refine SegY.indexAddr rfl rfl rfl rfl (indexAddrA_sl rfl rfl rfl rfl (by omega)) ?_ | refine SegY.callW (D := Unit) (fun _ => True) (fun _ => .int .i64 (atL a (ls.getD i 0))) (fun _ => []) (fun _ => []) rfl rfl rfl rfl (fun st hS => CW.prim h67.eq (hat ▸ use67s h67 (hp2 _ _ _) (by rw [List.length_set, hal]) hS ⟨l0, by omega, by rw [List.length_set]; omega⟩ (by rw [hg1]; omega)) ⟨(), st, trivial, rfl, hS⟩) (fun _ _ => ?_)))
    dsimp only [RSt.at, List.cons_append, List.nil_append]
    repeat' (first | (refine OS.do rfl ?_; first | refine OD.indexAddr rfl rfl rfl hki ?_ | (refine OD.storeI (L.length + 2) rfl rfl rfl rfl (hp2 _ _ _) (haj _ (by rw [List.length_set]; exact hal)) ?_; first | rw [set2, hset, List.set_set, hfin] | rw [set2', hset, List.set_set, hfin])) | refine OS.nil ?_)
    have hlf := litV_long (sz := 1) (b := ab) (xs := (fillZ 0 n.k0 n.regs.xs.length kr ls (i + 1)).map intAV) (by rw [List.length_map, fillZ_len]; omega)
    rw [<- hlf.2]
    exact QS.rangeX (fillZ 0 n.k0 n.regs.xs.length kr ls (i + 1)) (by (try dsimp only) <;> exact (rfl)) (hL := by (try dsimp only); exact SubO.refl _) (hl := by (try dsimp only [RSt.at, List.cons_append, List.nil_append]); repeat' (first | exact Sub.nil _ | refine Sub.cons (congrArg some hlA.1) ?_ | refine Sub.cons (congrArg (fun z => some (AV.int .i64 z)) (wrap_succ (by omega))) ?_ | refine Sub.cons rfl ?_))
   ·rename_i hc
    have hfin2 : a.set (n.k0 + i) (ls.getD i 0) = fillZ 0 n.k0 n.regs.xs.length kr ls (i + 1) := by
     rw [<- hfin, atL_const (by rw [ha, fillZ_stays (.inl hk01)]; exact selZ_zero hk01 _) l0 (by omega)]
    have hlf := litV_long (sz := 1) (b := ab) (xs := (fillZ 0 n.k0 n.regs.xs.length kr ls (i + 1)).map intAV) (by rw [List.length_map, fillZ_len]; omega)
    rw [hfin2, <- hlf.2]
    exact QS.rangeX (fillZ 0 n.k0 n.regs.xs.length kr ls (i + 1)) (by (try dsimp only) <;> exact (rfl)) (hL := by (try dsimp only); exact SubO.refl _) (hl := by (try dsimp only [RSt.at, List.cons_append, List.nil_append]); repeat' (first | exact Sub.nil _ | refine Sub.cons (congrArg some hlA.1) ?_ | refine Sub.cons (congrArg (fun z => some (AV.int .i64 z)) (wrap_succ (by omega))) ?_ | refine Sub.cons rfl ?_))
  ·rename_i hb
   have hb : kr.getD i false = true := by simpa using hb
   rw [<- hla.2]
   exact QS.rangeX (a) (by (try dsimp only) <;> exact (by rw [fillZ_yes hb, ha])) (hL := by (try dsimp only); exact SubO.refl _) (hl := by (try dsimp only [RSt.at, List.cons_append, List.nil_append]); repeat' (first | exact Sub.nil _ | refine Sub.cons (congrArg some hlA.1) ?_ | refine Sub.cons (congrArg (fun z => some (AV.int .i64 z)) (wrap_succ (by omega))) ?_ | refine Sub.cons rfl ?_))
 rintro a ha
 try dsimp only at ha
 have ha : a = againL n kr ls := ha
 have hal : a.length = n.kN := by rw [ha]; exact againL_len _ _ _
 have hVV : litV 1 ab (A.map intAV) = litV 1 ab (a.map intAV) := by
  by_cases h0 : n.regs.xs.length = 0
  ·have : A = a := by rw [hA0, ha]; unfold againL; rw [h0]
   rw [this]
  ·have e1 := litV_long (sz := 1) (b := ab) (xs := A.map intAV) (by rw [List.length_map]; omega)
   have e2 := litV_long (sz := 1) (b := ab) (xs := a.map intAV) (by rw [List.length_map]; omega)
   rw [e1.1, e2.1, List.length_map, List.length_map, hAl, hal]
 obtain ⟨bf, bv⟩ := bare_kept hV hn hs
 have hkl : (keptL n kr).length <= n.regs.xs.length := (keptL_sub n kr).length_le
 have c66 := fun {L' : List (Nat × AObj)} {K' : List (Nat × Bool)} (st : St) (hS : SFa L' K' st) => (run66 h66 h112 h57 n.ins (keptL n kr) tn ti f1 (by omega) bf bv hS).mono fun r st' ⟨d, _, e, h⟩ => (⟨(d.1, ⟨cloneG n.ins, (keptL n kr).map zeroR, d.2.1, d.2.2⟩), ⟨rfl, rfl⟩, e, h⟩ : ∃ d : Nat × MkI, (d.2.ins = cloneG n.ins /\ d.2.regs = (keptL n kr).map zeroR) /\ r = AV.tup [.ptr d.1 0 0, .int .i64 0] /\ SFa ((d.1, mkO d.2 0 []) :: (d.2.tb, thO d.2 []) :: L') ((0, false) :: K') st')
 dsimp only [RSt.at, List.cons_append, List.nil_append]
 rw [hVV, hR]
 repeat' (first | (refine OS.do rfl ?_; first | refine OD.auto rfl rfl ?_ | refine OD.loadP 1 rfl rfl rfl rfl rfl rfl ?_ | refine OD.len rfl rfl (fun _ => lenTy_av rfl rfl) ?_ | refine OD.loadP 3 rfl rfl rfl rfl rfl rfl ?_ | (refine OD.callM (D := Nat × MkI) (fun d => d.2.ins = cloneG n.ins /\ d.2.regs = (keptL n kr).map zeroR) (fun d => .tup [.ptr d.1 0 0, .int .i64 0]) (fun d => (d.1, mkO d.2 0 []) :: (d.2.tb, thO d.2 []) :: _) (fun _ => [(0, false)]) rfl rfl rfl c66 (fun _ _ _ => rfl) ?_; rintro ⟨mb, m⟩ ⟨hmi, hmr⟩)) | refine OS.nil ?_ | refine WS.seq ?_ | refine QS.seqN ?_ | refine WS.region ?_ | refine WS.block ?_)
 try dsimp only at hmi hmr
 have hmk : m.k = n.kk kr := by unfold MkI.k GNet.kk GNet.k0; rw [hmi, hmr, clone_xs, List.length_map]
 have hmf : m.Fit := ⟨by rw [hmi, clone_xs]; exact f1, by rw [hmr, List.length_map]; omega⟩
 have hkk : n.kk kr <= 2001 := by unfold GNet.kk; omega
 dsimp only
 refine WS.rangeX (A := (Nat × List Int) × Nat × List (Int × Int)) (n := n.gates.xs.length) ⟨134, _, fun a => [(11, litV 1 a.1.1 (a.1.2.map intAV))], fun a => ((mb, mkO m a.2.1 a.2.2) :: (m.tb, thO m a.2.2) :: (b8, .row ty27.size [ty27.zeroV]) :: (b4, .row ty27.size [netAV n]) :: L) ++ litO 1 a.1.1 (a.1.2.map intAV), fun a => [(a.2.1, !a.2.2.isEmpty)], fun i a => (a.1.2, a.2.2) = shareM (n.kk kr) (againL n kr ls) (n.gates.xs.take i)⟩ (((ab, a), 0, [])) [1, 3, 4, 8, 16, 132, 133] (by rw [ha]; rfl) ?_ ?_
 ·rintro i ⟨⟨ab, R⟩, tg, G⟩ hi hA
  try dsimp only at hA
  have hsh := again_sh hs (Nat.le_of_lt hi)
  rw [<- hA] at hsh
  have hRl := hsh.len
  have hGl := hsh.gates
  try dsimp only at hRl hGl
  have hne : R.map intAV ≠ [] := fun c => by rw [List.map_eq_nil_iff] at c; rw [c] at hRl; simp at hRl; omega
  obtain ⟨⟨g1, g2⟩, g3, g4⟩ := hgo i hi
  have r1 := hsh.range (n.gates.xs[i].1 / 2).toNat
  have r2 := hsh.range (n.gates.xs[i].2 / 2).toNat
  have a1 := hsh.at_ n.gates.xs[i].1
  have a2 := hsh.at_ n.gates.xs[i].2
  try dsimp only at r1 r2 a1 a2
  rw [<- hmk] at a1 a2
  have c62 := fun {L' : List (Nat × AObj)} {K : List (Nat × Bool)} (km kt kg : Nat) (hm : L'[km]? = some (mb, mkO m tg G)) (ht : L'[kt]? = some (m.tb, thO m G)) (hg : K[kg]? = some (tg, !G.isEmpty)) (hne : km ≠ kt) (st : St) (hS : SFa L' K st) => run62 h62 h95 h117 h94 km kt kg hm ht hg hne hmf (by omega) a1 a2 hS
  obtain ⟨⟨lit, G'⟩, hAnd⟩ : ∃ res, res = andG m.k G (atL R n.gates.xs[i].1) (atL R n.gates.xs[i].2) := ⟨_, rfl⟩
  simp only [<- hAnd] at c62
  have hstep : (R ++ [lit], G') = stepM (n.kk kr) (R, G) n.gates.xs[i] := by unfold stepM; rw [<- hmk, <- hAnd]
  have hgm : R.map intAV ++ [.int .i64 lit] = (R ++ [lit]).map intAV := by rw [List.map_append]; rfl
  have hlw : ∀ b, litV 1 b ((R ++ [lit]).map intAV) = .sl 1 b 0 ((R ++ [lit]).map intAV).length /\ litO 1 b ((R ++ [lit]).map intAV) = [(b, .row 1 ((R ++ [lit]).map intAV))] := fun b => litV_long (by simp; omega)
  dsimp only [RSt.at, List.cons_append, List.nil_append]
  repeat' (first | (refine OS.do rfl ?_; first | refine OD.auto rfl rfl ?_ | refine OD.indexAddr rfl rfl rfl (indexAddrA_nat rfl rfl rfl rfl (by first | assumption | exact List.getElem?_eq_getElem (by omega))) ?_ | refine OD.alloc rfl rfl rfl rfl (fun _ => ?_) | refine OD.storeW 0 rfl rfl rfl rfl (by first | rfl | exact net_ok _) rfl rfl rfl ?_) | refine OS.nil ?_ | refine WS.seq ?_ | refine QS.seqN ?_ | refine WS.region ?_)
  refine WS.drawY 10 [] (K := [(tg, !G.isEmpty)]) rfl rfl rfl rfl ?_; (repeat' (first | refine SegY.nil ?_ | refine SegY.auto rfl rfl rfl rfl ?_ | refine SegY.loadP 0 rfl rfl rfl rfl rfl rfl rfl ?_ | refine SegY.loadP 1 rfl rfl rfl rfl rfl rfl rfl ?_ | refine SegY.loadP 2 rfl rfl rfl rfl rfl rfl rfl ?_ | refine SegY.indexAddr rfl rfl rfl rfl rfl ?_ | refine SegY.callW (D := Unit) (fun _ => True) (fun _ => .int .i64 (atL R n.gates.xs[i].1)) (fun _ => []) (fun _ => []) rfl rfl rfl rfl (fun st hS => CW.prim h67.eq (use67w h67 (P := _ :: _ :: _ :: _ :: _ :: L) hS ⟨g1, by omega, by omega⟩ (by omega)) ⟨(), st, trivial, rfl, hS⟩) (fun _ _ => ?_)))
  dsimp only [RSt.at, List.cons_append, List.nil_append]
  repeat' (first | (refine OS.do rfl ?_; first | refine OD.auto rfl rfl ?_ | (refine OD.callV rfl rfl rfl h67.eq (fun st hS => use67w h67 (P := _ :: _ :: _ :: _ :: _ :: L) hS ⟨g3, by omega, by omega⟩ (by omega)) (fun _ => rfl) ?_) | (refine OD.callM (D := Nat) (fun _ => True) (fun _ => .int .i64 lit) _ _ rfl rfl rfl (c62 1 2 0 rfl rfl rfl (by decide)) (fun _ _ _ => rfl) ?_; rintro tg' _) | (refine OD.appendW (L := _ :: _ :: _ :: _ :: _ :: L) (xs := R.map intAV) (y := .int .i64 lit) rfl rfl rfl rfl hne rfl rfl rfl rfl rfl rfl ⟨⟨_, rfl⟩, rfl⟩ (fun _ => rfl) rfl rfl (roomB rfl (by simp only [List.length_map]; omega)) (fun ab' => ?_); rw [hgm, <- (hlw _).1, <- (hlw _).2])) | refine OS.nil ?_)
  exact QS.rangeX (((ab', R ++ [lit]), tg', G')) (by (try dsimp only) <;> exact (by rw [hstep, hA, shareM_succ hi])) (hL := by (try dsimp only); exact SubO.drop (SubO.refl _))
 rintro ⟨⟨ab, R⟩, tg, G⟩ hA
 try dsimp only at hA
 rw [List.take_of_length_le (Nat.le_refl _)] at hA
 have hA : (R, G) = againS n kr ls := hA
 have hsh := againS_sh hs
 rw [<- hA] at hsh
 have hRl := hsh.len
 have hGl := hsh.gates
 try dsimp only at hRl hGl
 have uw : ∀ {P : List (Nat × AObj)} {K : List (Nat × Bool)} (l : Int), (0 <= l /\ l < 2 * ((n.kN + n.gates.xs.length : Nat) : Int)) -> ∀ st, SFa (P ++ litO 1 ab (R.map intAV)) K st -> primOf Rel67 [litV 1 ab (R.map intAV), .int .i64 l] st = some (.int .i64 (atL R l), st) := fun l hl st hS => by
  have hr := hsh.range (l / 2).toNat
  dsimp only at hr
  exact use67w h67 hS ⟨hl.1, by omega, by omega⟩ (by omega)
 have hk5 : ∀ (a b c d e : Nat × AObj) (M : List (Nat × AObj)), ((a :: b :: c :: d :: e :: L) ++ M)[kk + 5]? = some (kb, .row 1 (kr.map boolAV)) := fun a b c d e M => (get_left hk : (L ++ M)[kk]? = _)
 dsimp only [RSt.at, List.cons_append, List.nil_append]
 repeat' (first | (refine OS.do rfl ?_; first | refine OD.auto rfl rfl ?_ | refine OD.len rfl rfl (fun _ => lenTy_av rfl rfl) ?_ | refine OD.loadP 3 rfl rfl rfl rfl rfl rfl ?_) | refine OS.nil ?_ | refine WS.seq ?_ | refine QS.seqN ?_ | refine WS.region ?_ | refine WS.block ?_)
 refine WS.newK ?_
 refine WS.rangeX (A := Nat × List Int) (n := n.regs.xs.length) ⟨156, _, fun a => [(20, accA a.1 1 (a.2.map intAV))], fun _ => ((mb, mkO m tg G) :: (m.tb, thO m G) :: (b8, .row ty27.size [ty27.zeroV]) :: (b4, .row ty27.size [netAV n]) :: L) ++ litO 1 ab (R.map intAV), fun a => [(a.1, !a.2.isEmpty)], fun i a => a.2 = (pickL 0 kr n.regs.xs i).map (fun r => atL R r.next)⟩ ((0, [])) [1, 4, 8, 11, 16, 154, 155] (by simp [pickL]) ?_ ?_ (hm := by (try dsimp only); repeat' (first | exact Sub.nil _ | refine Sub.cons (congrArg some (accA_nil2 _ _).symm) ?_ | refine Sub.cons (congrArg (fun z => some (AV.int .i64 z)) (wrap_succ (by omega))) ?_ | refine Sub.cons rfl ?_))
 ·rintro i ⟨tx, X⟩ hi hX
  try dsimp only at hX
  have hXl : X.length <= i := by
   rw [hX, List.length_map, pick_cnt (z := 0) (k0 := n.k0) _ (by omega)]; exact selZ_le _
  have hrn' := hrn _ (List.getElem_mem hi)
  have hkb : (kr.map boolAV)[i]? = some (.bool (kr.getD i false)) := by
   rw [List.getElem?_map, List.getD_eq_getElem?_getD, List.getElem?_eq_getElem (by omega)]; rfl
  have hgm : X.map intAV ++ [.int .i64 (atL R n.regs.xs[i].next)] = (X ++ [atL R n.regs.xs[i].next]).map intAV := by rw [List.map_append]; rfl
  dsimp only [RSt.at, List.cons_append, List.nil_append]
  repeat' (first | (refine OS.do rfl ?_; first | refine OD.loadP (kk + 5) rfl rfl (hk5 _ _ _ _ _ _) hkb rfl rfl ?_ | refine OD.loadP 0 rfl rfl rfl rfl rfl rfl ?_ | refine OD.auto rfl rfl ?_ | refine OD.indexAddr rfl rfl rfl (indexAddrA_nat rfl rfl rfl rfl (by first | assumption | exact List.getElem?_eq_getElem (by omega))) ?_ | refine OD.alloc rfl rfl rfl rfl (fun _ => ?_) | refine OD.storeW 0 rfl rfl rfl rfl (by first | rfl | exact net_ok _) rfl rfl rfl ?_ | refine OD.indexAddr rfl rfl rfl (indexAddrA_sl rfl rfl rfl rfl (by omega)) ?_ | (refine OD.callV rfl rfl rfl h67.eq (fun st hS => uw (P := _ :: _ :: _ :: _ :: _ :: L) _ hrn' st hS) (fun _ => rfl) ?_) | (refine OD.append 0 (xs := X.map intAV) (ys := [.int .i64 (atL R n.regs.xs[i].next)]) rfl rfl rfl rfl (by rw [List.isEmpty_map]; rfl) rfl rfl rfl rfl rfl rfl (.inr ⟨⟨_, rfl⟩, rfl⟩) (fun _ => rfl) rfl rfl (roomB rfl (by simp only [List.length_map, List.length_singleton]; omega)) (fun t' => ?_); rw [hgm])) | refine OS.nil ?_ | refine WS.seq ?_ | refine QS.seqN ?_ | refine WS.region ?_ | refine WS.skip ?_ | refine WS.condB rfl (fun _ => ?_) (fun _ => ?_))
  ·rename_i hb
   rw [List.isEmpty_map]
   exact QS.rangeX ((t', X ++ [atL R n.regs.xs[i].next])) (by (try dsimp only) <;> exact (by rw [pickL_succ hi, Nat.zero_add, if_pos hb, List.map_append, hX]; rfl)) (hL := by (try dsimp only); exact SubO.drop (SubO.refl _))
  ·rename_i hb
   exact QS.rangeX ((tx, X)) (by (try dsimp only) <;> exact (by rw [pickL_succ hi, Nat.zero_add, if_neg (by rw [hb]; simp), hX])) (hL := by (try dsimp only); exact SubO.drop (SubO.refl _))
 rintro ⟨tx, X⟩ hX
 try dsimp only at hX
 have hX : X = (keptL n kr).map (fun r => atL R r.next) := hX
 dsimp only [RSt.at, List.cons_append, List.nil_append]
 repeat' (first | (refine OS.do rfl ?_; first | refine OD.auto rfl rfl ?_ | refine OD.len rfl rfl (fun _ => lenTy_av rfl rfl) ?_ | refine OD.loadP 3 rfl rfl rfl rfl rfl rfl ?_) | refine OS.nil ?_ | refine WS.seq ?_ | refine QS.seqN ?_ | refine WS.region ?_ | refine WS.block ?_)
 refine WS.newK ?_
 refine WS.rangeX (A := Nat × List GPin) (n := n.outs.xs.length) ⟨176, _, fun a => [(23, accA a.1 2 (a.2.map pinAV))], fun _ => ((mb, mkO m tg G) :: (m.tb, thO m G) :: (b8, .row ty27.size [ty27.zeroV]) :: (b4, .row ty27.size [netAV n]) :: L) ++ litO 1 ab (R.map intAV), fun a => [(a.1, !a.2.isEmpty)], fun i a => a.2 = (n.outs.xs.take i).map (withLit R)⟩ ((0, [])) [8, 11, 16, 20, 174, 175] (rfl) ?_ ?_ (hm := by (try dsimp only); repeat' (first | exact Sub.nil _ | refine Sub.cons (congrArg some (accA_nil2 _ _).symm) ?_ | refine Sub.cons (congrArg (fun z => some (AV.int .i64 z)) (wrap_succ (by omega))) ?_ | refine Sub.cons rfl ?_))
 ·rintro i ⟨tp, P⟩ hi hP
  try dsimp only at hP
  have hol' := hol _ (List.getElem_mem hi)
  have hPl : P.length = i := by rw [hP, List.length_map, List.length_take]; omega
  have hgm : P.map pinAV ++ [pinAV (withLit R n.outs.xs[i])] = (P ++ [withLit R n.outs.xs[i]]).map pinAV := by rw [List.map_append]; rfl
  dsimp only [RSt.at, List.cons_append, List.nil_append]
  repeat' (first | (refine OS.do rfl ?_; first | refine OD.auto rfl rfl ?_ | refine OD.indexAddr rfl rfl rfl (indexAddrA_nat rfl rfl rfl rfl (by first | assumption | exact List.getElem?_eq_getElem (by omega))) ?_ | refine OD.alloc rfl rfl rfl rfl (fun _ => ?_) | refine OD.storeW 0 rfl rfl rfl rfl (by first | rfl | exact net_ok _) rfl rfl rfl ?_) | refine OS.nil ?_ | refine WS.seq ?_ | refine QS.seqN ?_ | refine WS.region ?_)
  refine WS.drawY 7 [] (K := [(tp, !P.isEmpty)]) rfl rfl rfl rfl ?_; (repeat' (first | refine SegY.nil ?_ | refine SegY.auto rfl rfl rfl rfl ?_ | refine SegY.loadP 0 rfl rfl rfl rfl rfl rfl rfl ?_ | refine SegY.loadP 1 rfl rfl rfl rfl rfl rfl rfl ?_ | refine SegY.loadP 2 rfl rfl rfl rfl rfl rfl rfl ?_ | refine SegY.indexAddr rfl rfl rfl rfl rfl ?_ | refine SegY.callW (D := Unit) (fun _ => True) (fun _ => .int .i64 (atL R n.outs.xs[i].lit)) (fun _ => []) (fun _ => []) rfl rfl rfl rfl (fun st hS => CW.prim h67.eq (uw (P := _ :: _ :: _ :: _ :: _ :: L) _ hol' st hS) ⟨(), st, trivial, rfl, hS⟩) (fun _ _ => ?_)))
  dsimp only [RSt.at, List.cons_append, List.nil_append]
  repeat' (first | (refine OS.do rfl ?_; first | refine OD.auto rfl rfl ?_ | (refine OD.append 0 (xs := P.map pinAV) (ys := [pinAV (withLit R n.outs.xs[i])]) rfl rfl rfl rfl (by rw [List.isEmpty_map]; rfl) rfl rfl rfl rfl rfl rfl (.inr ⟨⟨_, rfl⟩, rfl⟩) (fun _ => rfl) rfl rfl (roomB rfl (by simp only [List.length_map, List.length_singleton]; omega)) (fun t' => ?_); rw [hgm])) | refine OS.nil ?_)
  rw [List.isEmpty_map]
  exact QS.rangeX ((t', P ++ [withLit R n.outs.xs[i]])) (by (try dsimp only) <;> exact (by rw [map_take_succ hi, hP])) (hL := by (try dsimp only); exact SubO.drop (SubO.refl _))
 rintro ⟨tp, P⟩ hP
 try dsimp only at hP
 rw [List.take_of_length_le (Nat.le_refl _)] at hP
 have hPl : P.length = n.outs.xs.length := by rw [hP, List.length_map]
 have hnet : netN m X G (GSl.of P) = againM n kr ls := by
  unfold netN againM netOf nextR
  rw [hmi, hmr, hX, hP, cloneG_clone, List.zipWith_map, List.zipWith_self, <- hA]
  rfl
 have hMV := again_valid hV hs
 have hMF := again_fits hV hn hs
 have u51 : ∀ (q : Quad), QOk q (againM n kr ls) -> ∀ st, primOf Rel51 [qAV q] st = some (.tup [netAV (againN n kr ls), .int .i64 0], st) := fun q hq st => by
  have := h51.use (args := [qAV q]) (r := resAV (againM n kr ls) (cleanN (againM n kr ls))) ⟨againM n kr ls, hMF, by simp [AV.plainL, hq.plain], rfl⟩ st
  rw [res_yes hMV] at this
  exact this
 have z : ∀ (q : GNet) (st : St), freezeA st (.tup [netAV q, .int .i64 0]) = some (.tup [netAV q, .int .i64 0], st) := fun q st => freeze_free (by simp [AV.free, AV.freeL, net_free])
 dsimp only [RSt.at, List.cons_append, List.nil_append]
 repeat' (first | (refine OS.do rfl ?_; first | refine OD.storeW 0 rfl rfl rfl rfl hq.ok rfl rfl rfl ?_ | refine OD.storeW 0 rfl rfl rfl rfl (net_ok _) rfl rfl rfl ?_ | refine OD.loadP 0 rfl rfl rfl rfl rfl rfl ?_ | refine OD.auto rfl rfl ?_ | refine OD.alloc rfl rfl rfl rfl (fun _ => ?_) | (refine OD.callZ (D := Quad) (fun q => QOk q (againM n kr ls)) (fun q => .tup [qAV q, .int .i64 0]) (fun _ => _) (fun _ => []) rfl rfl rfl rfl (fun st hS => (hnet ▸ run81 h81 h117 h118 h112 h137 h138 h80 h57 0 rfl hmf (by omega) (by rw [hX, hmr, List.length_map, List.length_map]) (fun X st hS => c80acc h80 (by omega) hS) (hnet ▸ hMF) (hnet ▸ hMV) hS.noK)) ?_; rintro q hq) | refine OD.call rfl rfl rfl h51.eq (u51 q hq) (z _) ?_ | refine OD.storeW 3 rfl rfl rfl rfl (net_ok _) rfl rfl rfl ?_) | refine OS.nil ?_ | refine WS.seq ?_ | refine QS.seqN ?_ | refine WS.region ?_ | refine WS.ret ?_)
 exact QS.retO (ResO.cell 3 (by rfl) (by rfl) (by rfl) (by rfl) (by rfl) .nil) fun st hs => ⟨rfl, SFa.left (hs.subO (.drop (.drop (.drop (.drop (.drop (.refl _)))))))⟩
end
end Go.OptEnv
namespace Go.Abs
section
variable {E : Env} {N : Nat} {l : List (Nat × AV)} {K : List (Nat × Bool)} {Q : AExit -> TM -> St -> Prop}
variable {pol : Nat -> Nat} {ops : Array Oper} {r : List Oper} {i : Nat} {d : Nat} {ty : TypeId} {pos : String} {after : Array Edge} {guard : Option (Nat × Bool)}
end
end Go.Abs
namespace Go.OptEnv
open Go Go.Proofs Go.Abs Go.RowKit Go.NetM
set_option maxRecDepth 10000
attribute [local irreducible] WS QS OS OD Abs.Sub SubO SubK CW GSl.av accA growA
section
variable {pr : Prims}
end
end Go.OptEnv
namespace Go.OptEnv
open Go Go.Proofs Go.Abs Go.RowKit Go.NetM
set_option maxRecDepth 10000
attribute [local irreducible] WS QS OS OD Abs.Sub SubO SubK CW GSl.av accA growA
section
variable {pr : Prims}
end
end Go.OptEnv
namespace Go.OptEnv
open Go Go.Proofs Go.Abs Go.RowKit Go.NetM
set_option maxRecDepth 10000
attribute [local irreducible] WS QS OS OD Abs.Sub SubO SubK CW GSl.av accA growA
section
variable {pr : Prims}
end
end Go.OptEnv
namespace Go.Abs
section
variable {E : Env} {N : Nat} {l : List (Nat × AV)} {L X : List (Nat × AObj)} {K Y : List (Nat × Bool)} {pol : Nat -> Nat} {ops : Array Oper} {r : List Oper} {i : Nat} {d : Nat} {ty : TypeId} {pos : String} {after : Array Edge} {guard : Option (Nat × Bool)}
variable {k : List (Nat × AV) -> List (Nat × AObj) -> List (Nat × Bool) -> Prop}
end
end Go.Abs
namespace Go.Abs
section
variable {E : Env} {fid N : Nat} {l : List (Nat × AV)} {L : List (Nat × AObj)} {K : List (Nat × Bool)} {Q : AExit -> TM -> St -> Prop} {pol : Nat -> Nat} {ops : Array Oper} {r : List Oper} {i b d : Nat} {o : Oper}
def RunsM (E : Env) (ops : Array Oper) (pol : Nat -> Nat) (N : Nat) (L : List (Nat × AObj)) (K : List (Nat × Bool)) (b : Nat) (r : List Oper) (i : Nat) (l : List (Nat × AV)) (vs : List AV) (l' : List (Nat × AV)) : Prop :=
 ∀ (call : Call1) (tm : TM) (st : St), Fa N l L K tm st -> ∃ tr tm', runOpsT E call (some (b, true)) pol ops r i tm st = some (tr, tm', st) /\ tr.map (·.v) = vs /\ Fa N l' L K tm' st
theorem RunsM.nil : RunsM E ops pol N L K b [] i l [] l := fun _ tm st hF => ⟨[], tm, rfl, rfl, hF⟩
theorem RunsM.step {v : AV} {vs : List AV} {l' : List (Nat × AV)} (hw : wantS ops l o = some true) (hd : o.dst = some d) (hn : Nat.blt d N = true) (hs : ∀ (call : Call1) (tm : TM) (st : St), Fa N l L K tm st -> stepPre E call (some (b, true)) (pol i) i tm st o = some (v, st)) (h : RunsM E ops pol N L K b r (i + 1) ((d, v) :: l) vs l') : RunsM E ops pol N L K b (o :: r) i l (v :: vs) l' := by
 intro call tm st hF
 obtain ⟨tr, tm', h1, h2, h3⟩ := h call (tm.put d v) st (hF.put hn v)
 refine ⟨⟨tm, st, st, v, true⟩ :: tr, tm', ?_, by simp [h2], h3⟩
 simp only [runOpsT]
 rw [hF.want hw]
 dsimp only
 rw [hs call tm st hF, hd]
 dsimp only [putO]
 rw [h1]
theorem RunsM.quiet {v : AV} {vs : List AV} {l' : List (Nat × AV)} (hw : wantS ops l o = some true) (hd : o.dst = some d) (hn : Nat.blt d N = true) (hl : isLoud o.op = false) (hq : ∀ tm st, Fa N l L K tm st -> Abs.quiet E tm st o = some v) (h : RunsM E ops pol N L K b r (i + 1) ((d, v) :: l) vs l') : RunsM E ops pol N L K b (o :: r) i l (v :: vs) l' :=
 .step hw hd hn (fun _ tm st hF => stepPre_quiet hl (hq tm st hF)) h
theorem RunsM.make {t e : TypeId} {x : Operand} {ty : TypeId} {pos : String} {after : Array Edge} {guard : Option (Nat × Bool)} {y et : Ty} {n : Nat} {vs : List AV} {l' : List (Nat × AV)} (hw : wantS ops l { dst := some d, op := .makeSlice t x x, type := ty, pos := pos, after := after, guard := guard } = some true) (hn : Nat.blt d N = true) (hx : evL l x = some (.int .i64 (n : Int))) (hc : isConstO x = false) (ht : E.ty t = some y) (hd : y.d = .slice e) (he : E.ty e = some et) (hs : Nat.blt 0 et.size = true) (hroom : roomA et n = true)
  (h : RunsM E ops pol N L K b r (i + 1) ((d, .sl et.size (b + i) 0 n) :: l) vs l') : RunsM E ops pol N L K b ({ dst := some d, op := .makeSlice t x x, type := ty, pos := pos, after := after, guard := guard } :: r) i l (.sl et.size (b + i) 0 n :: vs) l' := by
 refine .step hw rfl hn (fun call tm st hF => ?_) h
 have e0 : stepPre E call (some (b, true)) (pol i) i tm st { dst := some d, op := .makeSlice t x x, type := ty, pos := pos, after := after, guard := guard } = (makePre E (b + i) (isConstO x) t (evalO tm x) (evalO tm x)).map fun v => (v, st) := rfl
 rw [e0]
 unfold makePre
 rw [ht, hF.ev hx, hc]
 dsimp only
 rw [hd]
 dsimp only
 rw [he]
 dsimp only
 rw [if_pos ⟨⟨Eq.mp Nat.blt_eq hs, by omega, by omega, by simpa using hroom⟩, rfl⟩]
 simp
theorem runOpsT_take {call : Call1} {pre : Pre} : ∀ (m : Nat) (r : List Oper) (i : Nat) (tm : TM) (st : St) {tr : List Tr} {tm' : TM} {st' : St}, runOpsT E call pre pol ops r i tm st = some (tr, tm', st') -> ∃ q, runOpsT E call pre pol ops (r.take m) i tm st = some (tr.take m, q)
 | 0, _, _, tm, st, _, _, _, _ => ⟨(tm, st), by simp [runOpsT]⟩
 | m + 1, [], i, tm, st, tr, tm', st', h => by
  simp only [runOpsT, Option.some.injEq, Prod.mk.injEq] at h
  obtain ⟨rfl, rfl, rfl⟩ := h
  exact ⟨_, by simp [runOpsT]; rfl⟩
 | m + 1, o :: r, i, tm, st, tr, tm', st', h => by
  simp only [runOpsT, List.take_succ_cons] at h ⊢
  split at h
  ·rename_i hw
   split at h
   ·rename_i v s1 hs
    split at h
    ·rename_i l q hq
     simp only [Option.some.injEq, Prod.mk.injEq] at h
     obtain ⟨rfl, rfl⟩ := h
     obtain ⟨q', hq'⟩ := runOpsT_take m r (i + 1) _ _ hq
     exact ⟨q', by rw [hq']; rfl⟩
    ·cases h
   ·cases h
  ·rename_i hw
   split at h
   ·rename_i l q hq
    simp only [Option.some.injEq, Prod.mk.injEq] at h
    obtain ⟨rfl, rfl⟩ := h
    obtain ⟨q', hq'⟩ := runOpsT_take m r (i + 1) _ _ hq
    exact ⟨q', by rw [hq']; rfl⟩
   ·cases h
  ·cases h
theorem Fa.layAt {tm : TM} {st : St} (h : Fa N l L K tm st) {k : Nat} (hk : k < st.next) (hf : ∀ (j c : Nat) (o : AObj), L[j]? = some (c, o) -> c ≠ k) (ob : AObj) : Fa N l ((k, ob) :: L) K tm (st.put k ob) := by
 refine ⟨h.n, h.get, fun j c o' hj => ?_, fun j j' c o1 o2 hj hj' => ?_, fun j t hj => ⟨(h.tok j t hj).1, (h.tok j t hj).2⟩, h.uniqT⟩
 ·cases j with
  | zero =>
   simp only [List.getElem?_cons_zero, Option.some.injEq, Prod.mk.injEq] at hj
   obtain ⟨rfl, rfl⟩ := hj
   exact ⟨by simp, hk⟩
  | succ j =>
   simp only [List.getElem?_cons_succ] at hj
   have h1 := h.obj j c o' hj
   refine ⟨?_, h1.2⟩
   rw [St.get_put, if_neg (fun e => hf j c o' hj e.symm)]
   exact h1.1
 ·cases j with
  | zero =>
   simp only [List.getElem?_cons_zero, Option.some.injEq, Prod.mk.injEq] at hj
   cases j' with
   | zero => rfl
   | succ j' =>
    simp only [List.getElem?_cons_succ] at hj'
    exact absurd hj.1.symm (hf j' c o2 hj')
  | succ j =>
   simp only [List.getElem?_cons_succ] at hj
   cases j' with
   | zero =>
    simp only [List.getElem?_cons_zero, Option.some.injEq, Prod.mk.injEq] at hj'
    exact absurd hj'.1.symm (hf j c o1 hj)
   | succ j' =>
    simp only [List.getElem?_cons_succ] at hj'
    rw [h.uniq j j' c o1 o2 hj hj']
theorem fill_skip {b i : Nat} {o : Oper} {r : List Oper} {e : Tr} {q : List Tr} {s : St} (h : isMake o.op = false) : fillMakes E b (o :: r) (e :: q) i s = fillMakes E b r q (i + 1) s := by
 show (match o.op, e.v with
  | .makeSlice t _ _, .sl sz _ _ n =>
   match E.ty t with
   | some ty =>
    match ty.d with
    | .slice a => match E.ty a with | some et => fillMakes E b r q (i + 1) (s.put (b + i) (.row sz (List.replicate n et.zeroV))) | none => fillMakes E b r q (i + 1) s
    | _ => fillMakes E b r q (i + 1) s
   | none => fillMakes E b r q (i + 1) s
  | .makeMap t none, .map _ =>
   match E.ty t with
   | some ty =>
    match ty.d with
    | .map kt et => fillMakes E b r q (i + 1) (s.put (b + i) (.map kt et []))
    | _ => fillMakes E b r q (i + 1) s
   | none => fillMakes E b r q (i + 1) s
  | _, _ => fillMakes E b r q (i + 1) s) = _
 split
 ·rename_i h1 h2; rw [h1] at h; cases h
 ·rename_i h1 h2; rw [h1] at h; cases h
 ·rfl
theorem makeOk_skip {b i : Nat} {o : Oper} {e : Tr} {s : St} (h : isMake o.op = false) : makeOk E b s i o e = true := by
 unfold makeOk
 split <;> simp_all [isMake]
theorem makeOk_row {b i n : Nat} {o : Oper} {e : Tr} {s : St} {t a : TypeId} {x c : Operand} {y et : Ty} (ho : o.op = .makeSlice t x c) (hv : e.v = .sl et.size (b + i) 0 n) (ht : E.ty t = some y) (hd : y.d = .slice a) (he : E.ty a = some et) (hg : s.get (b + i) = some (.row et.size (List.replicate n et.zeroV))) : makeOk E b s i o e = true := by
 unfold makeOk
 rw [ho, hv]
 dsimp only
 rw [ht, hg]
 dsimp only
 rw [hd]
 dsimp only
 rw [he]
 simp [AV.beqL_refl]
theorem fill_row {b i n c0 : Nat} {o : Oper} {r : List Oper} {e : Tr} {q : List Tr} {s : St} {t a : TypeId} {x c : Operand} {y et : Ty} (ho : o.op = .makeSlice t x c) (hv : e.v = .sl et.size c0 0 n) (ht : E.ty t = some y) (hd : y.d = .slice a) (he : E.ty a = some et) : fillMakes E b (o :: r) (e :: q) i s = fillMakes E b r q (i + 1) (s.put (b + i) (.row et.size (List.replicate n et.zeroV))) := by
 show (match o.op, e.v with
  | .makeSlice t _ _, .sl sz _ _ n =>
   match E.ty t with
   | some ty =>
    match ty.d with
    | .slice a => match E.ty a with | some et => fillMakes E b r q (i + 1) (s.put (b + i) (.row sz (List.replicate n et.zeroV))) | none => fillMakes E b r q (i + 1) s
    | _ => fillMakes E b r q (i + 1) s
   | none => fillMakes E b r q (i + 1) s
  | .makeMap t none, .map _ =>
   match E.ty t with
   | some ty =>
    match ty.d with
    | .map kt et => fillMakes E b r q (i + 1) (s.put (b + i) (.map kt et []))
    | _ => fillMakes E b r q (i + 1) s
   | none => fillMakes E b r q (i + 1) s
  | _, _ => fillMakes E b r q (i + 1) s) = _
 rw [ho, hv]
 dsimp only
 rw [ht]
 dsimp only
 rw [hd]
 dsimp only
 rw [he]
theorem list8 {tr : List Tr} {v0 v1 v2 v3 v4 v5 v6 v7 : AV} (h : tr.map (·.v) = [v0, v1, v2, v3, v4, v5, v6, v7]) : ∃ e0 e1 e2 e3 e4 e5 e6 e7, tr = [e0, e1, e2, e3, e4, e5, e6, e7] /\ e2.v = v2 /\ e5.v = v5 := by
 obtain ⟨e0, tr, rfl, _, h⟩ := List.map_eq_cons_iff.1 h
 obtain ⟨e1, tr, rfl, _, h⟩ := List.map_eq_cons_iff.1 h
 obtain ⟨e2, tr, rfl, h2, h⟩ := List.map_eq_cons_iff.1 h
 obtain ⟨e3, tr, rfl, _, h⟩ := List.map_eq_cons_iff.1 h
 obtain ⟨e4, tr, rfl, _, h⟩ := List.map_eq_cons_iff.1 h
 obtain ⟨e5, tr, rfl, h5, h⟩ := List.map_eq_cons_iff.1 h
 obtain ⟨e6, tr, rfl, _, h⟩ := List.map_eq_cons_iff.1 h
 obtain ⟨e7, tr, rfl, _, h⟩ := List.map_eq_cons_iff.1 h
 obtain rfl := List.map_eq_nil_iff.1 h
 exact ⟨e0, e1, e2, e3, e4, e5, e6, e7, rfl, h2, h5⟩
theorem WS.makes2 {id : Nat} {ops : Array Oper} (hd : E.dyn fid id = []) (hk : E.mks fid id = true) (ho : hasAlloc ops = false) {o0 o1 o2 o3 o4 o5 o6 o7 : Oper} (hops : ops.toList = [o0, o1, o2, o3, o4, o5, o6, o7]) (hend : makeEnd ops.toList 0 0 = 6)
  (s0 : isMake o0.op = false) (s1 : isMake o1.op = false) (s3 : isMake o3.op = false) (s4 : isMake o4.op = false) (s6 : isMake o6.op = false) (s7 : isMake o7.op = false)
  {t2 e2 t5 e5 : TypeId} {x2 c2 x5 c5 : Operand} {y2 et2 y5 et5 : Ty} (p2 : o2.op = .makeSlice t2 x2 c2) (p5 : o5.op = .makeSlice t5 x5 c5) (h2 : E.ty t2 = some y2) (d2 : y2.d = .slice e2) (k2 : E.ty e2 = some et2) (h5 : E.ty t5 = some y5) (d5 : y5.d = .slice e5) (k5 : E.ty e5 = some et5)
  {n m : Nat} {a0 a1 a3 a4 : AV} {v6 v7 : Nat -> AV} {l' : Nat -> List (Nat × AV)}
  (h : ∀ b, RunsM E ops (E.pol fid id) N L K b ops.toList 0 l [a0, a1, .sl et2.size (b + 2) 0 n, a3, a4, .sl et5.size (b + 5) 0 m, v6 b, v7 b] (l' b))
  (k : ∀ b, QS N .normal (l' b) ((b + 5, .row et5.size (List.replicate m et5.zeroV)) :: (b + 2, .row et2.size (List.replicate n et2.zeroV)) :: L) K Q) : WS E fid N (.region id ops true) l L K Q := by
 intro tm st hF
 have hsz : ops.size = 8 := by have := congrArg List.length hops; simpa using this
 have hF0 := hF.at (m := st.next + ops.size) (by omega)
 have hfree : ∀ (q : Nat), ∀ (j c : Nat) (o : AObj), L[j]? = some (c, o) -> c ≠ st.next + q := fun q j c o hj => by have := (hF.obj j c o hj).2; omega
 have hF2 := (hF0.layAt (k := st.next + 2) (by show st.next + 2 < st.next + ops.size; omega) (hfree 2) (.row et2.size (List.replicate n et2.zeroV))).layAt (k := st.next + 5) (by show st.next + 5 < st.next + ops.size; omega) (fun j c o hj => by
  cases j with
  | zero =>
   simp only [List.getElem?_cons_zero, Option.some.injEq, Prod.mk.injEq] at hj
   omega
  | succ j => exact hfree 5 j c o (by simpa using hj)) (.row et5.size (List.replicate m et5.zeroV))
 have hF2' : Fa N l L K tm ((((st.at (st.next + ops.size)).put (st.next + 2) (.row et2.size (List.replicate n et2.zeroV)))).put (st.next + 5) (.row et5.size (List.replicate m et5.zeroV))) := hF2.sub (fun _ _ h => h) (.drop (.drop (.refl _))) (.refl _)
 have hpre : preObjs E st.next ops.toList 0 st.objs = some st.objs := preObjs_none _ _ _ ho
 obtain ⟨tr, tm1, r1, r2, r3⟩ := h st.next (callF E 1) tm _ hF0
 obtain ⟨e0, e1, e2, e3, e4, e5, e6, e7, rfl, g2, g5⟩ := list8 r2
 obtain ⟨q', hq'⟩ := runOpsT_take 6 _ _ _ _ r1
 obtain ⟨tr2, tm2, q1, q2, q3⟩ := h st.next (callF E 1) tm _ hF2'
 obtain ⟨f0, f1, f2, f3, f4, f5, f6, f7, rfl, w2, w5⟩ := list8 q2
 have hfill : ∀ s : St, fillMakes E st.next ops.toList [e0, e1, e2, e3, e4, e5] 0 s = (s.put (st.next + 2) (.row et2.size (List.replicate n et2.zeroV))).put (st.next + 5) (.row et5.size (List.replicate m et5.zeroV)) := fun s => by
  rw [hops, fill_skip s0, fill_skip s1, fill_row p2 g2 h2 d2 k2, fill_skip s3, fill_skip s4, fill_row p5 g5 h5 d5 k5]
  rfl
 have hmk : makesOk E st.next ((((st.at (st.next + ops.size)).put (st.next + 2) (.row et2.size (List.replicate n et2.zeroV)))).put (st.next + 5) (.row et5.size (List.replicate m et5.zeroV))) ops.toList [f0, f1, f2, f3, f4, f5, f6, f7] 0 = true := by
  rw [hops]
  have z2 : makeOk E st.next ((((st.at (st.next + ops.size)).put (st.next + 2) (.row et2.size (List.replicate n et2.zeroV)))).put (st.next + 5) (.row et5.size (List.replicate m et5.zeroV))) 2 o2 f2 = true := makeOk_row p2 w2 h2 d2 k2 (hF2.obj 1 _ _ rfl).1
  have z5 : makeOk E st.next ((((st.at (st.next + ops.size)).put (st.next + 2) (.row et2.size (List.replicate n et2.zeroV)))).put (st.next + 5) (.row et5.size (List.replicate m et5.zeroV))) 5 o5 f5 = true := makeOk_row p5 w5 h5 d5 k5 (hF2.obj 0 _ _ rfl).1
  simp only [makesOk, makeOk_skip s0, makeOk_skip s1, makeOk_skip s3, makeOk_skip s4, makeOk_skip s6, makeOk_skip s7, Nat.zero_add, Nat.reduceAdd, z2, z5, Bool.and_self]
 refine ⟨1, .normal, tm2, _, ?_, k st.next tm2 _ (q3.withS2 hF2.s)⟩
 unfold St.at at hq' q1 hmk
 simp only [exec, execReg, if_true, hpre, hd, hk, hend]
 rw [hq']
 dsimp only [List.take]
 rw [hfill, q1]
 dsimp only
 rw [if_pos (by rw [hmk]; rfl)]
 rfl
end
end Go.Abs
