/- Own text of this claim: part 3 of an interpreter that is proved sound against the model, and of what it shows of the law. -/
import Derived.Laws.Slices
import Derived.Deep.AppendSrc
import Derived.Deep.Upon
import Derived.Laws.CopyRow
import Derived.Lib.AppendZeros
import Derived.Test.YtnipphfkiikbdaaDoorAbs2
/- The quiet operations: addresses, slices, parts. -/
namespace Go.Abs
open Go.RowKit

section
variable {P : Program}

theorem moved_sound {Γ : Ghost} {x r : AV} {off : Nat} {v : Value} (h : movedA x off = some r) (hx : R Γ x v) :
    ∃ b o, v = .pointer (some ⟨b, o, none⟩) ∧ R Γ r (.pointer (some ⟨b, o + off, none⟩)) := by
  unfold movedA at h
  split at h
  · cases h
    simp only [R] at hx ⊢
    obtain ⟨blk, base, sz, tot, h1, rfl⟩ := hx
    exact ⟨blk, _, rfl, blk, base, sz, tot, h1, by rw [Nat.add_assoc]⟩
  · cases h
    simp only [R] at hx ⊢
    obtain ⟨blk, o, vs, rfl, h1, h2⟩ := hx
    refine ⟨blk, o, rfl, blk, o + off, vs.drop off, rfl, h1.drop off, fun j u hj => ?_⟩
    rw [List.getElem?_drop] at hj
    rw [Nat.add_assoc]
    exact h2 _ u hj
  · cases h

theorem fsOf_get {U : TypeDesc} {f : Nat} {ft off : Nat} (h : (fsOf U)[f]? = some (ft, off)) : ∃ (F : Array Field) (g : Field), U = .struct F ∧ F[f]? = some g ∧ g.type = ft ∧ g.offset = off := by
  cases U with
  | struct F =>
    simp only [fsOf, List.getElem?_map, Option.map_eq_some_iff] at h
    obtain ⟨g, hg, e⟩ := h
    rw [Array.getElem?_toList] at hg
    simp only [Prod.mk.injEq] at e
    exact ⟨F, g, rfl, hg, e.1, e.2⟩
  | _ => simp [fsOf] at h

theorem fieldAddr_sound {E : Env} (hE : ∀ t y, E.ty t = some y → TyOk P t y) {Γ : Ghost} {s f ft off : Nat} {sty fty : Ty} {x r : AV} {v : Value}
    (hs : E.ty s = some sty) (hf : sty.fs[f]? = some (ft, off)) (hft : E.ty ft = some fty) (hz : fty.size ≠ 0) (h : movedA x off = some r) (hx : R Γ x v) (w : World) :
    ∃ u, (Instr.fieldAt s v f).run P w = .ok u w ∧ R Γ r u := by
  obtain ⟨U, i, z, hu, hi, hz', g1, g2, g3, g4, g5, _⟩ := (hE s sty hs).ex
  rw [← g5] at hf
  obtain ⟨F, g, rfl, hg, e1, e2⟩ := fsOf_get hf
  obtain ⟨b, o, rfl, hr⟩ := moved_sound h hx
  obtain ⟨i', z', hi', _, hs', _⟩ := (hE ft fty hft).zero
  have hsz : ¬ (i'.size = 0) := by rw [hs']; exact hz
  subst e1; subst e2
  simp only [Instr.fieldAt, Sem.run_bind, run_under hu, Result.andThen_ok, hg, Instr.sureAddr, Sem.run_pure, fieldPlace, run_size hi', Sem.run_ite, if_neg hsz, add_mk]
  exact ⟨_, rfl, hr⟩

theorem field_sound {E : Env} (hE : ∀ t y, E.ty t = some y → TyOk P t y) {Γ : Ghost} {s f ft off : Nat} {sty : Ty} {cs : List AV} {r : AV} {v : Value}
    (hs : E.ty s = some sty) (hf : sty.fs[f]? = some (ft, off)) (h : partA E ft cs off = some r) (hx : R Γ (.agg cs) v) (w : World) :
    ∃ u, (Instr.field s v f).run P w = .ok u w ∧ R Γ r u := by
  obtain ⟨U, i, z, hu, hi, hz', g1, g2, g3, g4, g5, _⟩ := (hE s sty hs).ex
  rw [← g5] at hf
  obtain ⟨F, g, rfl, hg, e1, e2⟩ := fsOf_get hf
  simp only [R] at hx
  obtain ⟨vs, rfl, hvs⟩ := hx
  subst e1; subst e2
  obtain ⟨u, h1, h2⟩ := part_sound hE h hvs w
  simp only [Instr.field, Sem.run_bind, run_under hu, Result.andThen_ok, hg, asAgg, Sem.run_pure, h1]
  exact ⟨_, rfl, h2⟩

theorem elemAddr_sound {Γ : Ghost} {x r : AV} {size : Nat} {i : Int} {v : Value} (h : elemAddrA size x i = some r) (hx : R Γ x v) :
    ∃ b o n c, v = .slice (some ⟨b, o, none⟩) n c ∧ 0 ≤ i ∧ i < n ∧ R Γ r (.pointer (some ⟨b, o + i.toNat * size, none⟩)) := by
  unfold elemAddrA at h
  split at h
  · rename_i sz own xs
    split at h
    · rename_i hc
      obtain ⟨rfl, h0⟩ := hc
      split at h
      · rename_i y hy
        cases h
        simp only [R] at hx ⊢
        obtain ⟨blk, o, cap, rfl, h1, h2, h3, h4⟩ := hx
        have hi : i.toNat < xs.length := by
          rcases Nat.lt_or_ge i.toNat xs.length with k | k
          · exact k
          · rw [List.getElem?_eq_none k] at hy; cases hy
        obtain ⟨u, k1, k2, k3, k4⟩ := h4.get i.toNat y hy
        exact ⟨blk, o, _, _, rfl, h0, by omega, blk, _, u.cells.toList, rfl, k1.cells (AV.ne_junk_of_ok k2), k4⟩
      · cases h
    · cases h
  · rename_i sz b off len
    split at h
    · rename_i hc
      obtain ⟨rfl, h0, h1⟩ := hc
      cases h
      simp only [R] at hx ⊢
      obtain ⟨blk, base, tot, o, cap, k1, rfl, k2, k3⟩ := hx
      refine ⟨blk, o, _, _, rfl, h0, h1, blk, base, size, tot, k1, ?_⟩
      rcases k3 with k3 | ⟨rfl, _⟩
      · omega
      · rw [Nat.add_mul, Nat.add_zero, Nat.add_assoc]
    · cases h
  · cases h

theorem indexAddr_slice_sound {E : Env} (hE : ∀ t y, E.ty t = some y → TyOk P t y) {Γ : Ghost} {t e : TypeId} {ty et : Ty} {x r : AV} {i : Int} {k : IntKind} {v : Value}
    (ht : E.ty t = some ty) (hd : ty.d = .slice e) (he : E.ty e = some et) (h : elemAddrA et.size x i = some r) (hx : R Γ x v) (w : World) :
    ∃ u, (Instr.indexAt t v (.int k i)).run P w = .ok u w ∧ R Γ r u := by
  obtain ⟨U, i', z, hu, hi, hz', g1, _⟩ := (hE t ty ht).ex
  have gi := tdOf_inv g1
  rw [hd] at gi
  simp only [TDIs] at gi
  subst gi
  obtain ⟨b, o, n, c, rfl, h0, h1, hr⟩ := elemAddr_sound h hx
  obtain ⟨ei, ez, hei, _, hes, _⟩ := (hE e et he).zero
  simp only [Instr.indexAt, Sem.run_bind, asIntOf, Sem.run_pure, Result.andThen_ok, run_under hu]
  rw [if_pos ⟨h0, h1⟩]
  simp only [Sem.run_bind, run_size hei, Result.andThen_ok, Sem.run_pure, add_mk, hes]
  exact ⟨_, rfl, hr⟩

theorem indexAddr_array_sound {E : Env} (hE : ∀ t y, E.ty t = some y → TyOk P t y) {Γ : Ghost} {t e n : Nat} {ty et : Ty} {x r : AV} {i : Int} {k : IntKind} {v : Value}
    (ht : E.ty t = some ty) (hd : ty.d = .array n e) (he : E.ty e = some et) (hi : 0 ≤ i ∧ i < n) (h : movedA x (i.toNat * et.size) = some r) (hx : R Γ x v) (w : World) :
    ∃ u, (Instr.indexAt t v (.int k i)).run P w = .ok u w ∧ R Γ r u := by
  obtain ⟨U, i', z, hu, _, hz', g1, _⟩ := (hE t ty ht).ex
  have gi := tdOf_inv g1
  rw [hd] at gi
  simp only [TDIs] at gi
  subst gi
  obtain ⟨b, o, rfl, hr⟩ := moved_sound h hx
  obtain ⟨ei, ez, hei, _, hes, _⟩ := (hE e et he).zero
  simp only [Instr.indexAt, Sem.run_bind, asIntOf, Sem.run_pure, Result.andThen_ok, run_under hu, Instr.sureAddr]
  rw [if_pos hi]
  simp only [Sem.run_bind, run_size hei, Result.andThen_ok, Sem.run_pure, add_mk, hes]
  exact ⟨_, rfl, hr⟩

theorem index_array_sound {E : Env} (hE : ∀ t y, E.ty t = some y → TyOk P t y) {Γ : Ghost} {t e n : Nat} {ty et : Ty} {cs : List AV} {r : AV} {i : Int} {k : IntKind} {v : Value}
    (ht : E.ty t = some ty) (hd : ty.d = .array n e) (he : E.ty e = some et) (hi : 0 ≤ i ∧ i < n) (h : partA E e cs (i.toNat * et.size) = some r) (hx : R Γ (.agg cs) v) (w : World) :
    ∃ u, (Instr.index t v (.int k i)).run P w = .ok u w ∧ R Γ r u := by
  obtain ⟨U, i', z, hu, _, hz', g1, _⟩ := (hE t ty ht).ex
  have gi := tdOf_inv g1
  rw [hd] at gi
  simp only [TDIs] at gi
  subst gi
  simp only [R] at hx
  obtain ⟨vs, rfl, hvs⟩ := hx
  obtain ⟨ei, ez, hei, _, hes, _⟩ := (hE e et he).zero
  obtain ⟨u, h1, h2⟩ := part_sound hE h hvs w
  simp only [Instr.index, Sem.run_bind, asIntOf, Sem.run_pure, Result.andThen_ok, run_under hu]
  rw [if_pos hi]
  simp only [Sem.run_bind, run_size hei, Result.andThen_ok, hes, h1]
  exact ⟨_, rfl, h2⟩

theorem index_string_sound {E : Env} (hE : ∀ t y, E.ty t = some y → TyOk P t y) {t : Nat} {ty : Ty} {s : ByteArray} {i : Int} {k : IntKind} {b : UInt8}
    (ht : E.ty t = some ty) (hd : ty.d = .string) (h0 : 0 ≤ i) (h : s[i.toNat]? = some b) (w : World) :
    (Instr.index t (.string s) (.int k i)).run P w = .ok (.int .u8 b.toNat) w := by
  obtain ⟨U, i', z, hu, _, hz', g1, _⟩ := (hE t ty ht).ex
  have gi := tdOf_inv g1
  rw [hd] at gi
  simp only [TDIs] at gi
  subst gi
  simp only [Instr.index, Sem.run_bind, asIntOf, Sem.run_pure, Result.andThen_ok, run_under hu, if_pos h0, h]

/-! ### Slices -/
theorem asNat_sound {x : AV} {y n : Nat} {Γ : Ghost} {v : Value} (h : asNat x y = some n) (hx : R Γ x v) (w : World) (m : Nat) (hm : y ≤ m) (code : BoundsCode) :
    (Instr.sliceBound v m code).run P w = .ok n w ∧ n ≤ y := by
  unfold asNat at h
  split at h
  · rename_i k i
    split at h
    · rename_i hc
      cases h
      simp only [R] at hx; subst hx
      refine ⟨?_, by omega⟩
      simp only [Instr.sliceBound, asIntOf, Sem.run_bind, Sem.run_pure, Result.andThen_ok]
      rw [if_pos ⟨hc.1, by omega⟩]
      rfl
    · cases h
  · cases h

/-- Options side by side. -/
def RO (Γ : Ghost) : Option AV → Option Value → Prop
  | none, none => True
  | some x, some v => R Γ x v
  | _, _ => False
theorem RT.evalO? {Γ : Ghost} {tm : TM} {a : Act} (h : RT Γ tm a.tmps) (x : Option Operand) : RO Γ (x.map (evalO tm)) (x.map a.eval) := by
  cases x with
  | none => trivial
  | some x => exact h.eval x

theorem cutA_sound {Γ : Ghost} {len cap : Nat} {lo hi mx : Option AV} {lo' hi' mx' : Option Value} {l h : Nat} {f : Bool} (hc : cutA len lo hi mx = some (l, h, f))
    (h1 : RO Γ lo lo') (h2 : RO Γ hi hi') (h3 : RO Γ mx mx') (hlen : len ≤ cap) (isSl : Bool) (w : World) :
    ∃ m, (Instr.sliceBounds isSl len cap lo' hi' mx').run P w = .ok (l, h, m) w ∧ l ≤ h ∧ h ≤ len ∧ h ≤ m ∧ m ≤ cap ∧ (f = true → m = h) ∧ (f = false → m = cap) := by
  unfold cutA at hc
  cases mx with
  | none =>
    cases mx' with
    | some _ => exact h3.elim
    | none =>
      simp only at hc
      split at hc
      · cases hc
      · rename_i h' hh
        split at hc
        · cases hc
        · rename_i l' hl
          cases hc
          refine ⟨cap, ?_⟩
          have hhi : (match hi', (none : Option Value) with
            | some v, some _ => Instr.sliceBound v cap .slice3B
            | some v, none => Instr.sliceBound v cap (if isSl then .sliceAcap else .sliceAlen)
            | none, none => pure len
            | none, some _ => stuck "Slice: max without high").run P w = .ok h w ∧ h ≤ len := by
            cases hi with
            | none =>
              cases hi' with
              | some _ => exact h2.elim
              | none => simp only [optNat, Option.some.injEq] at hh; subst hh; exact ⟨rfl, Nat.le_refl _⟩
            | some y =>
              cases hi' with
              | none => exact h2.elim
              | some v => exact asNat_sound hh h2 w cap hlen _
          have hlo : (match lo' with
            | some v => Instr.sliceBound v h (if (none : Option Value).isSome then .slice3C else .sliceB)
            | none => pure 0).run P w = .ok l w ∧ l ≤ h := by
            cases lo with
            | none =>
              cases lo' with
              | some _ => exact h1.elim
              | none => simp only [optNat, Option.some.injEq] at hl; subst hl; exact ⟨rfl, Nat.zero_le _⟩
            | some y =>
              cases lo' with
              | none => exact h1.elim
              | some v => exact asNat_sound hl h1 w h (Nat.le_refl _) _
          refine ⟨?_, hlo.2, hhi.2, Nat.le_trans hhi.2 hlen, Nat.le_refl _, (fun e => by cases e), fun _ => rfl⟩
          have e1 := hhi.1
          have e2 := hlo.1
          cases hi' <;> cases lo' <;> simp_all [Instr.sliceBounds]
  | some m =>
    cases mx' with
    | none => exact h3.elim
    | some mv =>
      cases hi with
      | none => simp only at hc; split at hc <;> first | contradiction | cases hc
      | some y =>
        cases hi' with
        | none => exact h2.elim
        | some hv =>
          cases hm : asNat m len with
          | none => simp only [hm] at hc; cases hc
          | some m' =>
            simp only [hm] at hc
            split at hc
            · cases hc
            · rename_i h' hh
              split at hc
              · cases hc
              · rename_i l' hl
                split at hc
                · rename_i he
                  cases hc
                  obtain ⟨a1, a2⟩ := asNat_sound (P := P) hm h3 w cap hlen (if isSl then .slice3Acap else .slice3Alen)
                  obtain ⟨b1, b2⟩ := asNat_sound (P := P) hh h2 w m' (Nat.le_refl _) .slice3B
                  have hlo : (match lo' with
                    | some v => Instr.sliceBound v h (if (some mv : Option Value).isSome then .slice3C else .sliceB)
                    | none => pure 0).run P w = .ok l w ∧ l ≤ h := by
                    cases lo with
                    | none =>
                      cases lo' with
                      | some _ => exact h1.elim
                      | none => simp only [optNat, Option.some.injEq] at hl; subst hl; exact ⟨rfl, Nat.zero_le _⟩
                    | some y =>
                      cases lo' with
                      | none => exact h1.elim
                      | some v => exact asNat_sound hl h1 w h (Nat.le_refl _) _
                  subst he
                  refine ⟨m', ?_, hlo.2, a2, Nat.le_refl _, Nat.le_trans a2 hlen, fun _ => rfl, (fun e => by cases e)⟩
                  have e2 := hlo.1
                  cases lo' <;> simp_all [Instr.sliceBounds]
                · cases hc
end
end Go.Abs

/- The quiet operations: slicing, conversions, literals. -/
namespace Go.Abs
open Go.RowKit

section
variable {P : Program}

theorem sliceAt_eq {t : TypeId} {u : TypeDesc} (hu : P.underlying t = some u) (hn : ∀ n e, u ≠ .array n e) (v : Value) (lo hi mx : Option Value) (w : World) :
    (Instr.sliceAt t v lo hi mx).run P w = (Instr.slice t v lo hi mx).run P w := by
  simp only [Instr.sliceAt, Sem.run_bind, run_under hu, Result.andThen_ok]

theorem slice_sound {E : Env} (hE : ∀ t y, E.ty t = some y → TyOk P t y) {Γ : Ghost} {t : TypeId} {x r : AV} {lo hi mx : Option AV} {v : Value} {lo' hi' mx' : Option Value}
    (h : sliceA E t x lo hi mx = some r) (hx : R Γ x v) (h1 : RO Γ lo lo') (h2 : RO Γ hi hi') (h3 : RO Γ mx mx') (w : World) :
    ∃ u, (Instr.sliceAt t v lo' hi' mx').run P w = .ok u w ∧ R Γ r u := by
  unfold sliceA at h
  split at h
  · cases h
  · rename_i ty ht
    obtain ⟨U, i', z, hu, _, hz', g1, _⟩ := (hE t ty ht).ex
    have gi := tdOf_inv g1
    split at h
    · -- a string
      rename_i s hd
      rw [hd] at gi; simp only [TDIs] at gi; subst gi
      rw [sliceAt_eq hu (by intro n e k; cases k)]
      cases mx with
      | some _ => simp only at h; cases h
      | none =>
        cases mx' with
        | some _ => exact h3.elim
        | none =>
          simp only at h
          split at h
          · rename_i l hh f hc
            cases h
            simp only [R] at hx; subst hx
            obtain ⟨m, hr, _⟩ := cutA_sound (P := P) (mx' := none) hc h1 h2 trivial (Nat.le_refl _) false w
            simp only [Instr.slice, Sem.run_bind, run_under hu, Result.andThen_ok, Option.isSome_none, Bool.false_eq_true, if_false, Sem.run_pure, hr]
            exact ⟨.string (s.extract l hh), rfl, by simp only [R]⟩
          · cases h
    · -- nil
      rename_i e hd
      rw [hd] at gi; simp only [TDIs] at gi; subst gi
      rw [sliceAt_eq hu (by intro n e k; cases k)]
      split at h
      · rename_i et q he hc
        cases h
        simp only [R] at hx; subst hx
        obtain ⟨l, hh, f⟩ := q
        obtain ⟨m, hr, a1, a2, a3, a4, _⟩ := cutA_sound (P := P) hc h1 h2 h3 (Nat.le_refl 0) true w
        obtain ⟨ei, ez, hei, _, hes, _⟩ := (hE e et he).zero
        simp only [Instr.slice, Sem.run_bind, run_under hu, Result.andThen_ok, hr, run_size hei, Sem.run_pure]
        refine ⟨_, rfl, ?_⟩
        simp only [R]
        have : m = 0 := by omega
        have : l = 0 := by omega
        have : hh = 0 := by omega
        subst_vars
        simp
      · cases h
    · -- an empty slice
      rename_i e hd
      rw [hd] at gi; simp only [TDIs] at gi; subst gi
      rw [sliceAt_eq hu (by intro n e k; cases k)]
      split at h
      · rename_i et q he hc
        cases h
        simp only [R] at hx
        obtain ⟨a, cap, rfl⟩ := hx
        obtain ⟨l, hh, f⟩ := q
        obtain ⟨m, hr, a1, a2, a3, a4, _⟩ := cutA_sound (P := P) hc h1 h2 h3 (Nat.zero_le cap) true w
        obtain ⟨ei, ez, hei, _, hes, _⟩ := (hE e et he).zero
        simp only [Instr.slice, Sem.run_bind, run_under hu, Result.andThen_ok, hr, run_size hei, Sem.run_pure, Option.map_some]
        refine ⟨_, rfl, ?_⟩
        simp only [R]
        have : l = 0 := by omega
        have : hh = 0 := by omega
        subst_vars
        split <;> exact ⟨_, _, rfl⟩
      · cases h
    · -- a slice whose content stands inline
      rename_i e sz own xs hd
      rw [hd] at gi; simp only [TDIs] at gi; subst gi
      rw [sliceAt_eq hu (by intro n e k; cases k)]
      split at h
      · cases h
      · rename_i et he
        obtain ⟨ei, ez, hei, _, hes, _⟩ := (hE e et he).zero
        split at h
        · rename_i hsz
          simp only [R] at hx
          obtain ⟨blk, o, cap, rfl, k1, k2, k3, k4⟩ := hx
          have main : ∀ l hh f own', cutA xs.length lo hi mx = some (l, hh, f) → r = .vs sz own' ((xs.drop l).take (hh - l)) →
              (∀ m, l ≤ hh → hh ≤ xs.length → hh ≤ m → m ≤ cap → (f = true → m = hh) → (f = false → m = cap) → m ≠ l → OwnOk Γ own' blk (o + l * sz) sz (hh - l) (m - l)) →
              ((∀ t, own' = .tok t → True) ∧ (own' = .full ∨ own' = .any ∨ ∃ t, own' = .tok t)) →
              ∃ u, (Instr.slice t (.slice (some ⟨blk, o, none⟩) xs.length cap) lo' hi' mx').run P w = .ok u w ∧ R Γ r u := by
            intro l hh f own' hc hr hown _
            obtain ⟨m, hrun, a1, a2, a3, a4, a5, a6⟩ := cutA_sound (P := P) hc h1 h2 h3 k1 true w
            simp only [Instr.slice, Sem.run_bind, run_under hu, Result.andThen_ok, hrun, run_size hei, Sem.run_pure, Option.map_some, add_mk, hes, hsz]
            refine ⟨_, rfl, ?_⟩
            subst hr
            have hlen : ((xs.drop l).take (hh - l)).length = hh - l := by rw [List.length_take, List.length_drop]; omega
            by_cases hml : m = l
            · rw [if_pos hml]
              simp only [R]
              refine ⟨blk, o, m - l, ?_, by omega, k2, ?_, ?_⟩
              · rw [hlen]
              · rw [hlen]
                have e1 : m - l = hh - l := by omega
                rw [e1]
                cases own' with
                | full => rfl
                | any => trivial
                | tok t => exact .inl (by omega)
              · have : (xs.drop l).take (hh - l) = [] := by
                  have : hh - l = 0 := by omega
                  rw [this]; rfl
                rw [this]; simp only [RE]
            · rw [if_neg hml]
              simp only [R]
              refine ⟨blk, o + l * sz, m - l, ?_, by omega, k2, ?_, ?_⟩
              · rw [hlen]
              · rw [hlen]; exact hown m a1 a2 a3 a4 a5 a6 hml
              · exact (k4.drop l).take (hh - l)
          split at h
          · rename_i l hh hc
            cases h
            exact main l hh true .full hc rfl (fun m b1 b2 b3 b4 b5 b6 b7 => by have := b5 rfl; subst this; rfl) ⟨fun _ _ => trivial, .inl rfl⟩
          · rename_i l hh hc
            cases h
            refine main l hh false _ hc rfl (fun m b1 b2 b3 b4 b5 b6 b7 => ?_) ⟨fun _ _ => trivial, ?_⟩
            · have hm := b6 rfl
              subst hm
              split
              · rename_i he'
                subst he'
                cases own with
                | full => have : m = xs.length := k3; subst this; rfl
                | any => trivial
                | tok tk =>
                  rcases k3 with k3 | ⟨e', tot, c1, c2, c3⟩
                  · exact .inl (by omega)
                  · refine .inr ⟨e', tot, c1, ?_, ?_⟩
                    · rw [← c2, Nat.add_assoc, ← Nat.add_mul]; congr 2; omega
                    · have : o + l * sz + (m - l) * sz = o + m * sz := by rw [Nat.add_assoc, ← Nat.add_mul]; congr 2; omega
                      omega
              · trivial
            · split
              · cases own <;> simp
              · exact .inr (.inl rfl)
          · cases h
        · cases h
    · -- a slice of a row
      rename_i e sz b off len hd
      rw [hd] at gi; simp only [TDIs] at gi; subst gi
      rw [sliceAt_eq hu (by intro n e k; cases k)]
      split at h
      · cases h
      · rename_i et he
        obtain ⟨ei, ez, hei, _, hes, _⟩ := (hE e et he).zero
        split at h
        · rename_i hsz
          split at h
          · rename_i l hh f hc
            cases h
            simp only [R] at hx
            obtain ⟨blk, base, tot, o, cap, k1, rfl, k2, k3⟩ := hx
            obtain ⟨m, hrun, a1, a2, a3, a4, a5, a6⟩ := cutA_sound (P := P) hc h1 h2 h3 k2 true w
            simp only [Instr.slice, Sem.run_bind, run_under hu, Result.andThen_ok, hrun, run_size hei, Sem.run_pure, Option.map_some, add_mk, hes, hsz]
            refine ⟨_, rfl, ?_⟩
            simp only [R]
            by_cases hml : m = l
            · rw [if_pos hml]
              exact ⟨blk, base, tot, o, m - l, k1, rfl, by omega, .inl (by omega)⟩
            · rw [if_neg hml]
              refine ⟨blk, base, tot, o + l * sz, m - l, k1, rfl, by omega, ?_⟩
              rcases k3 with k3 | ⟨k3, k4⟩
              · omega
              · refine .inr ⟨?_, by omega⟩
                rw [k3, Nat.add_assoc, ← Nat.add_mul]
          · cases h
        · cases h
    · cases h

/-! ### Literals of structs and arrays -/
theorem foldl_set (l : List Value) : ∀ (j off : Nat) (cs : Array Value), off + j + l.length ≤ cs.size →
    ((l.zipIdx j).foldl (fun cs (p : Value × Nat) => cs.setIfInBounds (off + p.2) p.1) cs).toList = cs.toList.take (off + j) ++ l ++ cs.toList.drop (off + j + l.length) := by
  induction l with
  | nil => intro j off cs h; simp
  | cons v l ih =>
    intro j off cs h
    simp only [List.length_cons] at h
    simp only [List.zipIdx_cons, List.foldl_cons]
    rw [ih (j + 1) off _ (by rw [Array.size_setIfInBounds]; omega)]
    rw [Array.toList_setIfInBounds]
    apply List.ext_getElem?
    intro k
    simp only [List.getElem?_append, List.length_take, List.length_set, Array.length_toList, List.length_append, List.getElem?_take, List.getElem?_set, List.getElem?_drop, List.length_cons]
    have hm : min (off + (j + 1)) cs.size = off + j + 1 := by omega
    have hm' : min (off + j) cs.size = off + j := by omega
    rw [hm, hm']
    by_cases c1 : k < off + j
    · have : k < off + j + 1 + l.length := by omega
      have d1 : k < off + j + 1 := by omega
      have d2 : k < off + j + (l.length + 1) := by omega
      have d3 : ¬ off + j = k := by omega
      have d4 : k < off + (j + 1) := by omega
      simp [c1, this, d1, d2, d3, d4]
    · by_cases c2 : k = off + j
      · subst c2
        have d1 : off + j < off + j + 1 + l.length := by omega
        have d2 : off + j < off + (j + 1) := by omega
        have d4 : off + j < cs.size := by omega
        simp [d1, d2, d4]
      · have d1 : ¬ k < off + j + 1 := by omega
        have d3 : ¬ off + j = k := by omega
        have e1 : k - (off + j) = (k - (off + j + 1)) + 1 := by omega
        by_cases c3 : k < off + j + 1 + l.length
        · have d5 : k < off + j + (l.length + 1) := by omega
          simp [c1, c3, d1, d5, e1]
        · have d5 : ¬ k < off + j + (l.length + 1) := by omega
          have e2 : off + (j + 1) + l.length + (k - (off + j + 1 + l.length)) = off + j + (l.length + 1) + (k - (off + j + (l.length + 1))) := by omega
          have e3 : ¬ off + j = off + j + (l.length + 1) + (k - (off + j + (l.length + 1))) := by omega
          simp only [c1, c3, d5, if_false, e2, e3]

theorem fill_cells (vs cs : Array Value) (off : Nat) (h : off + vs.size ≤ cs.size) :
    (vs.zipIdx.foldl (fun cs (p : Value × Nat) => cs.setIfInBounds (off + p.2) p.1) cs).toList = cs.toList.take off ++ vs.toList ++ cs.toList.drop (off + vs.size) := by
  have := foldl_set vs.toList 0 off cs (by simpa using h)
  rw [← Array.foldl_toList, Array.toList_zipIdx]
  simpa using this

theorem fill_sound {Γ : Ghost} {place : Nat → Option (Nat × Nat)} {place' : Nat → Option (Nat × Nat)} (hp : ∀ i x, place i = some x → place' i = some x) :
    ∀ (parts : List (Nat × AV)) (vparts : List (Nat × Value)) (cells cs : List AV) (vc : Array Value), fillA place cells parts = some cs →
      parts.map Prod.fst = vparts.map Prod.fst → RL Γ (parts.map Prod.snd) (vparts.map Prod.snd) → RL Γ cells vc.toList →
      ∃ vcs, Instr.fill place' vc vparts = some vcs ∧ RL Γ cs vcs.toList := by
  intro parts
  induction parts with
  | nil =>
    intro vparts cells cs vc h h1 h2 h3
    cases vparts with
    | nil => simp only [fillA, Option.some.injEq] at h; subst h; exact ⟨vc, rfl, h3⟩
    | cons _ _ => simp at h1
  | cons p parts ih =>
    intro vparts cells cs vc h h1 h2 h3
    obtain ⟨i, x⟩ := p
    cases vparts with
    | nil => simp at h1
    | cons q vparts =>
      obtain ⟨j, v⟩ := q
      simp only [List.map_cons, List.cons.injEq] at h1
      obtain ⟨rfl, h1⟩ := h1
      simp only [List.map_cons] at h2
      obtain ⟨v', r', e', hv, h2⟩ := h2.of_cons
      simp only [List.cons.injEq] at e'
      obtain ⟨rfl, rfl⟩ := e'
      simp only [fillA] at h
      split at h
      · cases h
      · rename_i off size hpl
        split at h
        · rename_i hc
          simp only [Bool.and_eq_true, beq_iff_eq, decide_eq_true_eq] at hc
          obtain ⟨⟨c1, c2⟩, c3⟩ := hc
          have hcl := hv.cells (AV.ne_junk_of_ok c1)
          have hvs : v.cells.size = size := by rw [← c2, ← hcl.length, Array.length_toList]
          have hlen := h3.length
          rw [Array.length_toList] at hlen
          have hoff : off + v.cells.size ≤ vc.size := by omega
          simp only [Instr.fill, hp _ _ hpl]
          rw [if_neg (by simp; omega)]
          refine ih vparts _ cs _ h h1 h2 ?_
          rw [fill_cells v.cells vc off hoff, hvs]
          exact ((h3.take off).append hcl).append (h3.drop (off + size))
        · cases h

theorem places_sound {E : Env} (hE : ∀ t y, E.ty t = some y → TyOk P t y) : ∀ (F : List Field), ((F.map fun f => (f.type, f.offset)).all fun f => (E.ty f.1).isSome) = true →
    ∃ places, F.mapM (fun f => (P.info? f.type).map fun i => (f.offset, i.size)) = some places ∧
      ∀ i x, fieldPlaces E (F.map fun f => (f.type, f.offset)) i = some x → places[i]? = some x
  | [], _ => ⟨[], rfl, fun i x h => by simp [fieldPlaces] at h⟩
  | f :: F, h => by
    simp only [List.map_cons, List.all_cons, Bool.and_eq_true] at h
    obtain ⟨y, hy⟩ := Option.isSome_iff_exists.1 h.1
    obtain ⟨i, z, hi, _, hs, _⟩ := (hE f.type y hy).zero
    obtain ⟨places, h1, h2⟩ := places_sound hE F h.2
    refine ⟨(f.offset, i.size) :: places, by simp [List.mapM_cons, hi, h1], fun k x hx => ?_⟩
    cases k with
    | zero =>
      simp only [fieldPlaces, List.map_cons, List.getElem?_cons_zero, hy, Option.map_some, Option.some.injEq] at hx
      simp [← hx, hs]
    | succ k => simpa [fieldPlaces] using h2 k x (by simpa [fieldPlaces] using hx)

theorem build_sound {E : Env} (hE : ∀ t y, E.ty t = some y → TyOk P t y) {Γ : Ghost} {t : TypeId} {parts : List (Nat × AV)} {vparts : Array (Nat × Value)} {r : AV}
    (h : buildA E t parts = some r) (h1 : parts.map Prod.fst = vparts.toList.map Prod.fst) (h2 : RL Γ (parts.map Prod.snd) (vparts.toList.map Prod.snd)) (w : World) :
    ∃ u, (Instr.build t vparts).run P w = .ok u w ∧ R Γ r u := by
  unfold buildA at h
  split at h
  · cases h
  · rename_i ty ht
    obtain ⟨U, i', z, hu, hi', hz', g1, g2, g3, g4, g5, g6, g7, g8, g9⟩ := (hE t ty ht).ex
    have gi := tdOf_inv g1
    have hzc : RL Γ ty.zero z.cells.toList := by rw [← g6]; exact RL.ofCells _
    split at h
    · rename_i hd
      rw [hd] at gi; simp only [TDIs] at gi
      obtain ⟨F, rfl⟩ := gi
      split at h
      · rename_i hall
        simp only [Option.map_eq_some_iff] at h
        obtain ⟨cs, hc, rfl⟩ := h
        have hfs : ty.fs = F.toList.map fun f => (f.type, f.offset) := g5.symm
        obtain ⟨places, hpl, hpl'⟩ := places_sound hE F.toList (by rw [← hfs]; exact hall)
        rw [← hfs] at hpl'
        obtain ⟨vcs, k1, k2⟩ := fill_sound (place' := (places.toArray[·]?)) (fun i x hx => by simpa using hpl' i x hx) parts vparts.toList ty.zero cs z.cells hc h1 h2 hzc
        refine ⟨.agg vcs, run_build w t vparts vcs ?_, by simp only [R]; exact ⟨vcs, rfl, k2⟩⟩
        unfold Program.built
        simp only [hi', hu, hz', hpl, k1]
      · cases h
    · rename_i n e hd
      rw [hd] at gi; simp only [TDIs] at gi; subst gi
      split at h
      · cases h
      · rename_i et he
        obtain ⟨ei, ez, hei, _, hes, _⟩ := (hE e et he).zero
        simp only [Option.map_eq_some_iff] at h
        obtain ⟨cs, hc, rfl⟩ := h
        obtain ⟨vcs, k1, k2⟩ := fill_sound (place' := fun i => some (i * ei.size, ei.size)) (fun i x hx => by rw [hes]; exact hx) parts vparts.toList ty.zero cs z.cells hc h1 h2 hzc
        simp only [Instr.build, Sem.run_bind, run_zero hi' hz', Result.andThen_ok, run_under hu, run_size hei, k1, Sem.run_pure]
        exact ⟨_, rfl, by simp only [R]; exact ⟨vcs, rfl, k2⟩⟩
    · cases h
end
end Go.Abs

/- The quiet operations: slice literals, conversions, maps that are read; all of them. -/
namespace Go.Abs
open Go.RowKit

section
variable {P : Program}

theorem drop_set_cells {cells v : List Value} {o sz : Nat} (h1 : o + sz ≤ cells.length) (h2 : v.length = sz) (k : Nat) :
    (cells.take o ++ v ++ cells.drop (o + sz))[k]? = if k < o then cells[k]? else if k < o + sz then v[k - o]? else cells[k]? := by
  rw [List.getElem?_append, List.getElem?_append]
  simp only [List.length_append, List.length_take, List.getElem?_take, List.getElem?_drop, h2]
  have hm : min o cells.length = o := by omega
  rw [hm]
  by_cases c1 : k < o
  · have : k < o + sz := by omega
    simp [c1, this]
  · by_cases c2 : k < o + sz
    · simp [c1, c2]
    · simp only [c1, c2, if_false]
      congr 1
      omega

/-- A slice literal: each place named once, in order; the others hold the zero. -/
theorem lit_sound {Γ : Ghost} {et : Ty} {z : Value} (hz1 : z.cells.size = et.size) (hz2 : et.zeroV.ok = true) (hz3 : R Γ et.zeroV z) :
    ∀ (n i : Nat) (parts : List (Nat × AV)) (vparts : List (Nat × Value)) (xs : List AV) (cells : Array Value), litA et i n parts = some xs →
      parts.map Prod.fst = vparts.map Prod.fst → RL Γ (parts.map Prod.snd) (vparts.map Prod.snd) → cells.size = (i + n) * et.size →
      (∀ j k, i ≤ j → j < i + n → k < et.size → cells[j * et.size + k]? = z.cells[k]?) →
      ∃ cells', Instr.fill (fun i => some (i * et.size, et.size)) cells vparts = some cells' ∧ cells'.size = cells.size ∧
        (∀ k, k < i * et.size → cells'[k]? = cells[k]?) ∧ RE Γ xs (fun k => cells'[k]?) (i * et.size) et.size ∧ xs.length = n := by
  intro n
  induction n with
  | zero =>
    intro i parts vparts xs cells h h1 h2 hs hc
    cases parts with
    | cons p r => simp [litA] at h
    | nil =>
      cases vparts with
      | cons _ _ => simp at h1
      | nil =>
        simp only [litA, Option.some.injEq] at h; subst h
        exact ⟨cells, rfl, rfl, fun _ _ => rfl, by simp only [RE], rfl⟩
  | succ n ih =>
    intro i parts vparts xs cells h h1 h2 hs hc
    have hmul : (i + 1) * et.size = i * et.size + et.size := by rw [Nat.add_mul, Nat.one_mul]
    -- an element that is not named
    have zeroCase : ∀ ys, litA et (i + 1) n parts = some ys → xs = et.zeroV :: ys →
        ∃ cells', Instr.fill (fun i => some (i * et.size, et.size)) cells vparts = some cells' ∧ cells'.size = cells.size ∧
          (∀ k, k < i * et.size → cells'[k]? = cells[k]?) ∧ RE Γ xs (fun k => cells'[k]?) (i * et.size) et.size ∧ xs.length = n + 1 := by
      intro ys hy hxs
      subst hxs
      obtain ⟨cells', k1, k2, k3, k4, k5⟩ := ih (i + 1) parts vparts ys cells hy h1 h2 (by rw [hs]; congr 1; omega) (fun j k h3 h4 h5 => hc j k (by omega) (by omega) h5)
      refine ⟨cells', k1, k2, fun k hk => k3 k (by omega), ?_, by simp [k5]⟩
      simp only [RE]
      refine ⟨⟨z, hz3, hz2, hz1, fun j v hj => ?_⟩, by rw [← hmul]; exact k4⟩
      have hj' : j < et.size := by
        rw [← hz1, ← Array.length_toList]
        exact (List.getElem?_eq_some_iff.1 hj).1
      show cells'[i * et.size + j]? = some v
      rw [k3 _ (by omega), hc i j (Nat.le_refl _) (by omega) hj', ← Array.getElem?_toList]
      exact hj
    cases parts with
    | nil =>
      simp only [litA, Option.map_eq_some_iff] at h
      obtain ⟨ys, hy, e⟩ := h
      exact zeroCase ys hy e.symm
    | cons p r =>
      obtain ⟨j, x⟩ := p
      simp only [litA] at h
      split at h
      · rename_i hji
        subst hji
        split at h
        · rename_i hok
          simp only [Bool.and_eq_true, beq_iff_eq] at hok
          obtain ⟨c1, c2⟩ := hok
          simp only [Option.map_eq_some_iff] at h
          obtain ⟨ys, hy, e⟩ := h
          subst e
          cases vparts with
          | nil => simp at h1
          | cons q vr =>
            obtain ⟨j', v⟩ := q
            simp only [List.map_cons, List.cons.injEq] at h1
            obtain ⟨rfl, h1⟩ := h1
            simp only [List.map_cons] at h2
            obtain ⟨v', r', e', hv, h2⟩ := h2.of_cons
            simp only [List.cons.injEq] at e'
            obtain ⟨rfl, rfl⟩ := e'
            have hcl := hv.cells (AV.ne_junk_of_ok c1)
            have hvs : v.cells.size = et.size := by rw [← c2, ← hcl.length, Array.length_toList]
            have hle : (j + 1) * et.size ≤ (j + (n + 1)) * et.size := Nat.mul_le_mul_right _ (by omega)
            have hoff : j * et.size + v.cells.size ≤ cells.size := by omega
            have hfill : Instr.fill (fun i => some (i * et.size, et.size)) cells ((j, v) :: vr) =
                Instr.fill (fun i => some (i * et.size, et.size)) (v.cells.zipIdx.foldl (fun cs (p : Value × Nat) => cs.setIfInBounds (j * et.size + p.2) p.1) cells) vr := by
              simp only [Instr.fill]
              rw [if_neg (by simp; omega)]
            rw [hfill]
            have hcs := fill_cells v.cells cells (j * et.size) hoff
            generalize v.cells.zipIdx.foldl (fun cs (p : Value × Nat) => cs.setIfInBounds (j * et.size + p.2) p.1) cells = cells1 at hcs
            have hget : ∀ k : Nat, cells1[k]? = if k < j * et.size then cells[k]? else if k < j * et.size + et.size then v.cells[k - j * et.size]? else cells[k]? := by
              intro k
              rw [← Array.getElem?_toList, hcs, hvs, drop_set_cells (by rw [Array.length_toList]; omega) (by rw [Array.length_toList]; exact hvs)]
              simp only [Array.getElem?_toList]
            have hsz : cells1.size = cells.size := by
              rw [← Array.length_toList, hcs, List.length_append, List.length_append, List.length_take, List.length_drop, Array.length_toList, Array.length_toList]
              omega
            obtain ⟨cells', k1, k2, k3, k4, k5⟩ := ih (j + 1) r vr ys cells1 hy h1 h2 (by rw [hsz, hs]; congr 1; omega) (fun q k h3 h4 h5 => by
              rw [hget]
              have hq : (j + 1) * et.size ≤ q * et.size := Nat.mul_le_mul_right _ h3
              rw [if_neg (by omega), if_neg (by omega)]
              exact hc q k (by omega) (by omega) h5)
            refine ⟨cells', k1, by rw [k2, hsz], fun k hk => by rw [k3 k (by omega), hget, if_pos hk], ?_, by simp [k5]⟩
            simp only [RE]
            refine ⟨⟨v, hv, c1, hvs, fun q u hq => ?_⟩, by rw [← hmul]; exact k4⟩
            have hq' : q < et.size := by
              rw [← hvs, ← Array.length_toList]
              exact (List.getElem?_eq_some_iff.1 hq).1
            show cells'[j * et.size + q]? = some u
            rw [k3 _ (by omega), hget, if_neg (by omega), if_pos (by omega), ← Array.getElem?_toList]
            have : j * et.size + q - j * et.size = q := by omega
            rw [this]; exact hq
        · cases h
      · simp only [Option.map_eq_some_iff] at h
        obtain ⟨ys, hy, e⟩ := h
        exact zeroCase ys hy e.symm

theorem buildSlice_sound {E : Env} (hE : ∀ t y, E.ty t = some y → TyOk P t y) {B : Nat} {w0 w : World} {Γ : Ghost} {st : St} (hI : Inv B w0 Γ st w) {t e : TypeId} {ty et : Ty} {len : Nat}
    {parts : List (Nat × AV)} {vparts : Array (Nat × Value)} {xs : List AV} (ht : E.ty t = some ty) (hd : ty.d = .slice e) (he : E.ty e = some et)
    (hc : 0 < et.size ∧ len * et.size ≤ 2 ^ 24) (h : litA et 0 len parts = some xs) (h1 : parts.map Prod.fst = vparts.toList.map Prod.fst) (h2 : RL Γ (parts.map Prod.snd) (vparts.toList.map Prod.snd)) :
    ∃ u w' Γ', (Instr.buildSlice t len vparts).run P w = .ok u w' ∧ Out B w0 Γ st Γ' st w' ∧ R Γ' (.vs et.size .full xs) u := by
  obtain ⟨U, i', z', hu, _, _, g1, _⟩ := (hE t ty ht).ex
  have gi := tdOf_inv g1
  rw [hd] at gi; simp only [TDIs] at gi; subst gi
  obtain ⟨ei, ez, hei, hez, hes, _, hzs, hzo, hzr⟩ := (hE e et he).zero
  let c0 : Array Value := (Array.range (len * et.size)).map (ez.cells[· % ez.cells.size]!)
  have hc0 : c0.size = len * et.size := by simp [c0]
  obtain ⟨cells', k1, k2, k3, k4, k5⟩ := lit_sound hzs hzo (hzr Γ) len 0 parts vparts.toList xs c0 h h1 h2 (by rw [hc0]; congr 1; omega) (fun j k _ hj hk => by
    have hlt : j * et.size + k < len * et.size := by
      have : (j + 1) * et.size ≤ len * et.size := Nat.mul_le_mul_right _ (by omega)
      rw [Nat.add_mul, Nat.one_mul] at this; omega
    show ((Array.range (len * et.size)).map (ez.cells[· % ez.cells.size]!))[j * et.size + k]? = _
    rw [Array.getElem?_map, Array.getElem?_range, if_pos hlt, hzs]
    have hmod : (j * et.size + k) % et.size = k := by
      rw [Nat.add_comm, Nat.add_mul_mod_self_right, Nat.mod_eq_of_lt hk]
    simp only [Option.map_some, hmod]
    have hk' : k < ez.cells.size := by omega
    rw [getElem!_pos ez.cells k hk', Array.getElem?_eq_getElem hk'])
  have hrun : (Instr.buildSlice t len vparts).run P w = .ok (.slice (some ⟨w.heap.size, 0, none⟩) len len) (w.alloc (.cells cells' e)) := by
    have hlim : ¬ (len * ei.size > 2 ^ 24) := by rw [hes]; omega
    have hfill : Instr.fill (fun i => some (i * ei.size, ei.size)) c0 vparts.toList = some cells' := by rw [hes]; exact k1
    unfold Instr.buildSlice
    simp only [Sem.run_bind, run_under hu, Result.andThen_ok, run_size hei, Sem.run_ite, if_neg hlim, Sem.run_pure]
    by_cases h0 : len * ei.size = 0
    · have hcells : (Array.range (len * ei.size)).map ((#[] : Array Value)[· % (#[] : Array Value).size]!) = c0 := by
        rw [h0]
        have : len * et.size = 0 := by rw [← hes]; exact h0
        simp [c0, this]
      rw [if_pos h0, hcells, hfill]
      simp [newRow]
    · have hcells : (Array.range (len * ei.size)).map (ez.cells[· % ez.cells.size]!) = c0 := by rw [hes]
      rw [if_neg h0, run_zero hei hez]
      simp only [Result.andThen_ok]
      rw [hcells, hfill]
      simp [newRow]
  have hat := alloc_at w (.cells cells' e)
  have out := hI.inertNew (Touch.alloc w _) hat cells'.size
  refine ⟨_, _, _, hrun, out, ?_⟩
  simp only [R]
  refine ⟨w.heap.size, 0, len, by rw [k5], by rw [k5]; exact Nat.le_refl _, hc.1, by rw [k5]; rfl, ?_⟩
  have := RE.mono out.le xs _ (fun o => (Γ.addInert w.heap.size (fun o => if o < cells'.size then cells'[o]? else none)).inert w.heap.size o) (0 * et.size) et.size (fun k v hk => by
    simp only [Ghost.addInert, if_pos]
    rw [if_pos]
    · exact hk
    · rcases Nat.lt_or_ge k cells'.size with q | q
      · exact q
      · rw [Array.getElem?_eq_none q] at hk; cases hk) k4
  simpa using this
end
end Go.Abs

/- Maps: looking up, and writing. -/
namespace Go.Abs
open Go.RowKit

section
variable {P : Program}

/-- Entries side by side. -/
def REn (Γ : Ghost) (es : List (AV × AV)) (en : List MapEntry) : Prop :=
  en.length = es.length ∧ ∀ (i : Nat) (k v : AV), es[i]? = some (k, v) → ∃ e : MapEntry, en[i]? = some e ∧ R Γ k e.key ∧ R Γ v e.val ∧ k.ok = true ∧ v.ok = true
theorem REn.tail {Γ : Ghost} {x : AV × AV} {es : List (AV × AV)} {e : MapEntry} {en : List MapEntry} (h : REn Γ (x :: es) (e :: en)) : REn Γ es en :=
  ⟨by simpa using h.1, fun i k v hi => by simpa using h.2 (i + 1) k v (by simpa using hi)⟩
theorem REn.head {Γ : Ghost} {k v : AV} {es : List (AV × AV)} {en : List MapEntry} (h : REn Γ ((k, v) :: es) en) : ∃ e r, en = e :: r ∧ R Γ k e.key ∧ R Γ v e.val := by
  obtain ⟨e, he, h1, h2, _⟩ := h.2 0 k v rfl
  cases en with
  | nil => simp at he
  | cons a r => simp at he; subst he; exact ⟨a, r, rfl, h1, h2⟩

def Found (Γ : Ghost) (es : List (AV × AV)) (i : Nat) : Option (Nat × AV) → Option (Nat × Value) → Prop
  | none, none => True
  | some (j, x), some (j', v) => j = j' ∧ i ≤ j ∧ j < i + es.length ∧ R Γ x v ∧ ∃ q, es[j - i]? = some (q, x)
  | _, _ => False
theorem Found.cons {Γ : Ghost} {x : AV × AV} {es : List (AV × AV)} {i : Nat} {r : Option (Nat × AV)} {r' : Option (Nat × Value)} (h : Found Γ es (i + 1) r r') : Found Γ (x :: es) i r r' := by
  cases r with
  | none => cases r' <;> exact h
  | some q =>
    obtain ⟨jj, xx⟩ := q
    cases r' with
    | none => exact h
    | some q' =>
      obtain ⟨jj', vv⟩ := q'
      obtain ⟨a1, a2, a3, a4, qq, a5⟩ := h
      refine ⟨a1, by omega, by simp; omega, a4, qq, ?_⟩
      have : jj - i = (jj - (i + 1)) + 1 := by omega
      rw [this]; simpa using a5

theorem checkKey_scalar {t : TypeId} {u : TypeDesc} (hu : P.underlying t = some u) (hk : u = .bool ∨ u = .string ∨ ∃ k, u = .int k) (empty : Bool) (n : Nat) (v : Value) (w : World) :
    (Instr.checkKey empty (n + 1) t v).run P w = .ok () w := by
  rw [Instr.checkKey]
  simp only [Sem.run_bind, run_under hu, Result.andThen_ok]
  rcases hk with rfl | rfl | ⟨k, rfl⟩ <;> rfl

theorem checkKey_sound {E : Env} (hE : ∀ t y, E.ty t = some y → TyOk P t y) {Γ : Ghost} {kt : TypeId} {kty : Ty} {k : AV} {kv : Value} (hkt : E.ty kt = some kty) (hok : keyOkA E kty k = true) (hk : R Γ k kv)
    (empty : Bool) (w : World) : (Instr.checkKey empty 10000 kt kv).run P w = .ok () w := by
  obtain ⟨U, i', z', hu, _, _, g1, _⟩ := (hE kt kty hkt).ex
  have gi := tdOf_inv g1
  unfold keyOkA at hok
  split at hok
  · rename_i hd; rw [hd] at gi; simp only [TDIs] at gi; exact checkKey_scalar hu (.inr (.inr ⟨_, gi⟩)) _ _ _ w
  · rename_i hd; rw [hd] at gi; simp only [TDIs] at gi; exact checkKey_scalar hu (.inl gi) _ _ _ w
  · rename_i hd; rw [hd] at gi; simp only [TDIs] at gi; exact checkKey_scalar hu (.inr (.inl gi)) _ _ _ w
  · rename_i n e cs hd
    rw [hd] at gi; simp only [TDIs] at gi; subst gi
    split at hok
    · rename_i et he
      split at hok
      · rename_i l hl
        simp only [Bool.and_eq_true, beq_iff_eq] at hok
        obtain ⟨⟨c1, c2⟩, c3⟩ := hok
        simp only [R] at hk
        obtain ⟨vs, rfl, hvs⟩ := hk
        obtain ⟨U2, ei, ez, hu2, hei, hez, q1, q2, q3, q4, _⟩ := (hE e et he).ex
        have qi := tdOf_inv q1
        rw [hl] at qi; simp only [TDIs] at qi; subst qi
        have hlen := hvs.length
        rw [Array.length_toList] at hlen
        have loop : ∀ m i, i + m ≤ n → (forIn (m := Sem) (List.range' i m) PUnit.unit fun (j : Nat) (_ : PUnit) => do
            Instr.checkKey empty 9999 e (← part e vs (j * (← sizeOf e)))
            pure (ForInStep.yield PUnit.unit)).run P w = .ok PUnit.unit w := by
          intro m
          induction m with
          | zero => intro i _; rfl
          | succ m ih =>
            intro i him
            have hi : i < vs.size := by omega
            have hp : (part e vs (i * ei.size)).run P w = .ok vs[i] w := by
              simp only [part, Sem.run_bind, run_isAgg hu2, Result.andThen_ok, isAggD, Bool.false_eq_true, if_false, q2, c2, Nat.mul_one, Array.getElem?_eq_getElem hi, Sem.run_pure]
            simp only [List.range'_succ, List.forIn_cons, Sem.run_bind, run_size hei, Result.andThen_ok, hp, checkKey_scalar hu2 (.inr (.inr ⟨_, rfl⟩)) empty 9998, Sem.run_pure]
            exact ih (i + 1) (by omega)
        rw [show (10000 : Nat) = 9999 + 1 from rfl, Instr.checkKey]
        simp only [Sem.run_bind, run_under hu, Result.andThen_ok, Std.Legacy.Range.forIn_eq_forIn_range', Std.Legacy.Range.size, Nat.sub_zero, Nat.add_sub_cancel, Nat.div_one]
        have := loop n 0 (by omega)
        first
          | exact this
          | (rw [this]; rfl)
      · cases hok
    · cases hok
  · cases hok

theorem findNow_sound {E : Env} {Γ : Ghost} {kt : TypeId} {kty : Ty} {k : AV} {kv : Value} (hkt : E.ty kt = some kty) (hk : R Γ k kv)
    {u : TypeDesc} (hu : P.underlying kt = some u) (hsc : (∃ l, kty.d = .int l ∧ u = .int l ∧ ∃ m a, k = .int m a) ∨ (kty.d = .bool ∧ u = .bool ∧ ∃ a, k = .bool a) ∨ (kty.d = .string ∧ u = .string ∧ ∃ a, k = .str a)) :
    ∀ (es : List (AV × AV)) (en : List MapEntry) (i : Nat) (r : Option (Nat × AV)), REn Γ es en → findA (eqA E 20 kt) k es i = some r →
      ∃ r', Instr.findNow u kv en i = some r' ∧ Found Γ es i r r' := by
  intro es
  induction es with
  | nil =>
    intro en i r h hf
    have : en = [] := List.eq_nil_of_length_eq_zero h.1
    subst this
    simp only [findA, Option.some.injEq] at hf; subst hf
    exact ⟨none, rfl, trivial⟩
  | cons x es ih =>
    intro en i r h hf
    obtain ⟨j, v⟩ := x
    obtain ⟨e, rn, rfl, h1, h2⟩ := h.head
    simp only [findA] at hf
    have key : ∀ b, eqA E 20 kt k j = some b → Instr.sameNow u kv e.key = some b := by
      intro b hb
      rw [show (20 : Nat) = 19 + 1 from rfl, eqA, hkt] at hb
      simp only at hb
      rcases hsc with ⟨l, e1, rfl, m, a, rfl⟩ | ⟨e1, rfl, a, rfl⟩ | ⟨e1, rfl, a, rfl⟩
      · rw [e1] at hb
        simp only [R] at hk; subst hk
        cases j <;> simp only [reduceCtorEq] at hb
        rename_i m' a'
        simp only [R] at h1
        simp only [Instr.sameNow, h1]
        exact hb
      · rw [e1] at hb
        simp only [R] at hk; subst hk
        cases j <;> simp only [reduceCtorEq] at hb
        simp only [R] at h1
        simp only [Instr.sameNow, h1]
        exact hb
      · rw [e1] at hb
        simp only [R] at hk; subst hk
        cases j <;> simp only [reduceCtorEq] at hb
        simp only [R] at h1
        simp only [Instr.sameNow, h1, bytes_beq]
        exact hb
    split at hf
    · rename_i hb
      cases hf
      refine ⟨some (i, e.val), by simp only [Instr.findNow, key true hb], rfl, Nat.le_refl _, by simp, h2, j, by simp⟩
    · rename_i hb
      obtain ⟨r', k1, k2⟩ := ih rn (i + 1) r h.tail hf
      refine ⟨r', by simp only [Instr.findNow, key false hb]; exact k1, k2.cons⟩
    · cases hf

theorem findAsking_sound {E : Env} (hE : ∀ t y, E.ty t = some y → TyOk P t y) {Γ : Ghost} {kt : TypeId} {k : AV} {kv : Value} (hk : R Γ k kv) (w : World) :
    ∀ (es : List (AV × AV)) (en : List MapEntry) (i : Nat) (r : Option (Nat × AV)), REn Γ es en → findA (eqA E 20 kt) k es i = some r →
      ∃ r', (Instr.findAsking kt kv en i).run P w = .ok r' w ∧ Found Γ es i r r' := by
  intro es
  induction es with
  | nil =>
    intro en i r h hf
    have : en = [] := List.eq_nil_of_length_eq_zero h.1
    subst this
    simp only [findA, Option.some.injEq] at hf; subst hf
    exact ⟨none, rfl, trivial⟩
  | cons x es ih =>
    intro en i r h hf
    obtain ⟨j, v⟩ := x
    obtain ⟨e, rn, rfl, h1, h2⟩ := h.head
    simp only [findA] at hf
    have key : ∀ b, eqA E 20 kt k j = some b → (Op.equal kt kv e.key).run P w = .ok b w := fun b hb => eqA_sound hE w 20 10000 (by omega) kt k j kv e.key b hb hk h1
    split at hf
    · rename_i hb
      cases hf
      exact ⟨some (i, e.val), by simp only [Instr.findAsking, Sem.run_bind, key true hb, Result.andThen_ok, if_true, Sem.run_pure], rfl, Nat.le_refl _, by simp, h2, j, by simp⟩
    · rename_i hb
      obtain ⟨r', k1, k2⟩ := ih rn (i + 1) r h.tail hf
      refine ⟨r', by simp only [Instr.findAsking, Sem.run_bind, key false hb, Result.andThen_ok, Bool.false_eq_true, if_false]; exact k1, k2.cons⟩
    · cases hf

theorem findKey_sound {E : Env} (hE : ∀ t y, E.ty t = some y → TyOk P t y) {Γ : Ghost} {kt : TypeId} {kty : Ty} {k : AV} {kv : Value} (hkt : E.ty kt = some kty) (hok : keyOkA E kty k = true) (hk : R Γ k kv) (w : World)
    {es : List (AV × AV)} {en : List MapEntry} {r : Option (Nat × AV)} (he : REn Γ es en) (hf : findA (eqA E 20 kt) k es 0 = some r) :
    ∃ r', (Instr.findKey kt kv en).run P w = .ok r' w ∧ Found Γ es 0 r r' := by
  obtain ⟨U, i', z', hu, _, _, g1, _⟩ := (hE kt kty hkt).ex
  have gi := tdOf_inv g1
  have now : ((∃ l, kty.d = .int l ∧ U = .int l ∧ ∃ m a, k = .int m a) ∨ (kty.d = .bool ∧ U = .bool ∧ ∃ a, k = .bool a) ∨ (kty.d = .string ∧ U = .string ∧ ∃ a, k = .str a)) →
      ∃ r', (Instr.findKey kt kv en).run P w = .ok r' w ∧ Found Γ es 0 r r' := by
    intro hsc
    obtain ⟨r', k1, k2⟩ := findNow_sound hkt hk hu hsc es en 0 r he hf
    refine ⟨r', ?_, k2⟩
    simp only [Instr.findKey, Sem.run_bind, run_under hu, Result.andThen_ok, k1, Sem.run_pure]
  unfold keyOkA at hok
  split at hok
  · rename_i hd; rw [hd] at gi; simp only [TDIs] at gi; exact now (.inl ⟨_, hd, gi, _, _, rfl⟩)
  · rename_i hd; rw [hd] at gi; simp only [TDIs] at gi; exact now (.inr (.inl ⟨hd, gi, _, rfl⟩))
  · rename_i hd; rw [hd] at gi; simp only [TDIs] at gi; exact now (.inr (.inr ⟨hd, gi, _, rfl⟩))
  · rename_i n e cs hd
    rw [hd] at gi; simp only [TDIs] at gi; subst gi
    obtain ⟨r', k1, k2⟩ := findAsking_sound hE hk w es en 0 r he hf
    cases en with
    | nil =>
      have : es = [] := List.eq_nil_of_length_eq_zero (by simpa using he.1.symm)
      subst this
      simp only [findA, Option.some.injEq] at hf; subst hf
      exact ⟨none, by simp only [Instr.findKey, Sem.run_bind, run_under hu, Result.andThen_ok, Instr.findNow, Sem.run_pure], trivial⟩
    | cons a rn =>
      refine ⟨r', ?_, k2⟩
      simp only [Instr.findKey, Sem.run_bind, run_under hu, Result.andThen_ok, Instr.findNow, Instr.sameNow]
      exact k1
  · cases hok

theorem run_getObj_map {w : World} {b : Nat} {en : Array MapEntry} {clock : Nat} (h : w.heap[b]? = some (.map en clock)) : (getObj b).run P w = .ok (.map en clock) w := by
  simp only [getObj, Sem.run, h]

theorem look_sound {E : Env} (hE : ∀ t y, E.ty t = some y → TyOk P t y) {B : Nat} {w0 w : World} {Γ : Ghost} {st : St} (hI : Inv B w0 Γ st w) {t kt et : TypeId} {ty kty ety : Ty} {ok : Bool} {m k r : AV} {mv kv : Value}
    (ht : E.ty t = some ty) (hd : ty.d = .map kt et) (hkt : E.ty kt = some kty) (het : E.ty et = some ety) (h : lookA E st kty kt et ety.zeroV ok m k = some r) (hm : R Γ m mv) (hk : R Γ k kv) :
    ∃ u, (Instr.lookup t mv kv ok).run P w = .ok u w ∧ R Γ r u := by
  obtain ⟨U, i', z', hu, _, _, g1, _⟩ := (hE t ty ht).ex
  have gi := tdOf_inv g1
  rw [hd] at gi; simp only [TDIs] at gi; subst gi
  obtain ⟨ei, ez, hei, hez, hes, _, hzs, hzo, hzr⟩ := (hE et ety het).zero
  have tupOk : ∀ (x : AV) (v : Value) (b : Bool), R Γ x v → R Γ (if ok then .tup [x, .bool b] else x) (if ok then .tuple #[v, .bool b] else v) := by
    intro x v b hx
    cases ok
    · exact hx
    · simp only [if_true, R]
      exact ⟨#[v, .bool b], rfl, RL.cons hx (RL.cons (by simp only [R]) (RL.nil _))⟩
  unfold lookA at h
  split at h
  · rename_i hok
    split at h
    · cases h
      simp only [R] at hm; subst hm
      have hck := checkKey_sound hE hkt hok hk true w
      obtain ⟨r', k1, k2⟩ := findKey_sound hE hkt hok hk w (es := []) (en := []) (r := none) ⟨rfl, fun i k v hi => by simp at hi⟩ rfl
      cases r' with
      | some _ => exact k2.elim
      | none =>
        refine ⟨if ok then .tuple #[ez, .bool false] else ez, ?_, tupOk _ ez false (hzr Γ)⟩
        simp only [Instr.lookup, Sem.run_bind, run_under hu, Result.andThen_ok, Sem.run_pure, Array.isEmpty_empty, hck, k1, run_zero hei hez]
    · rename_i b
      split at h
      · rename_i kt' et' es hg
        split at h
        · rename_i hc
          obtain ⟨rfl, rfl⟩ := hc
          simp only [R] at hm
          obtain ⟨blk, hb, rfl⟩ := hm
          obtain ⟨blk', hb', en, clock, hh, hs, hre⟩ := hI.maps b kt' et' es hg
          rw [hb] at hb'; cases hb'
          have hen : REn Γ es en.toList := ⟨by rw [Array.length_toList]; exact hs, fun i k v hi => by
            obtain ⟨e, q1, q2⟩ := hre i k v hi
            exact ⟨e, by rw [Array.getElem?_toList]; exact q1, q2⟩⟩
          have hck := checkKey_sound hE hkt hok hk en.isEmpty w
          split at h
          · rename_i j v hf
            cases h
            obtain ⟨r', k1, k2⟩ := findKey_sound hE hkt hok hk w hen hf
            cases r' with
            | none => exact k2.elim
            | some q =>
              obtain ⟨j', vv⟩ := q
              refine ⟨if ok then .tuple #[vv, .bool true] else vv, ?_, tupOk v vv true k2.2.2.2.1⟩
              simp only [Instr.lookup, Sem.run_bind, run_under hu, Result.andThen_ok, run_getObj_map hh, Sem.run_pure, hck, k1]
          · rename_i hf
            cases h
            obtain ⟨r', k1, k2⟩ := findKey_sound hE hkt hok hk w hen hf
            cases r' with
            | some _ => exact k2.elim
            | none =>
              refine ⟨if ok then .tuple #[ez, .bool false] else ez, ?_, tupOk _ ez false (hzr Γ)⟩
              simp only [Instr.lookup, Sem.run_bind, run_under hu, Result.andThen_ok, run_getObj_map hh, Sem.run_pure, hck, k1, run_zero hei hez]
          · cases h
        · cases h
      · cases h
    · cases h
  · cases h
end
end Go.Abs

/- Each quiet operation does what the interpreter says. -/
namespace Go.Abs
open Go.RowKit

section
variable {P : Program}

/-- An operation that leaves the world alone and has a value. -/
def Still (P : Program) (s : Sem Value) (w : World) (Γ : Ghost) (r : AV) : Prop := ∃ u, s.run P w = .ok u w ∧ R Γ r u
theorem Still.next {s : Sem Value} {w : World} {Γ : Ghost} {r : AV} (h : Still P s w Γ r) : ∃ u, (do pure (Next.value (← s)) : Sem Next).run P w = .ok (.value u) w ∧ R Γ r u := by
  obtain ⟨u, h1, h2⟩ := h
  exact ⟨u, by simp [h1], h2⟩

theorem len_sound {E : Env} (hE : ∀ t y, E.ty t = some y → TyOk P t y) {B : Nat} {w0 w : World} {Γ : Ghost} {st : St} (hI : Inv B w0 Γ st w) {t : TypeId} {ty : Ty} {x : AV} {v : Value} {n : Nat}
    (ht : E.ty t = some ty) (h : lenT st ty.d x = some n) (hx : R Γ x v) (rt : TypeId) : (Builtin.len_ #[t] rt #[v]).run P w = .ok (.int .i64 n) w := by
  obtain ⟨U, i', z', hu, _, _, g1, _⟩ := (hE t ty ht).ex
  have gi := tdOf_inv g1
  unfold lenT at h
  split at h
  all_goals (try (rename_i hd; rw [hd] at gi; simp only [TDIs] at gi; subst gi))
  · cases h; simp only [R] at hx; subst hx
    simp [Builtin.len_, run_under hu, goInt]
  · cases h; simp only [R] at hx; subst hx
    simp [Builtin.len_, run_under hu, goInt]
  · cases h; simp only [R] at hx; obtain ⟨_, _, rfl⟩ := hx
    simp [Builtin.len_, run_under hu, goInt]
  · cases h; simp only [R] at hx; obtain ⟨_, _, _, rfl, _⟩ := hx
    simp [Builtin.len_, run_under hu, goInt]
  · cases h; simp only [R] at hx; obtain ⟨_, _, _, _, _, _, rfl, _⟩ := hx
    simp [Builtin.len_, run_under hu, goInt]
  · cases h; simp only [R] at hx; subst hx
    simp [Builtin.len_, run_under hu, goInt]
  · split at h
    · rename_i kt et es hg
      cases h
      simp only [R] at hx
      obtain ⟨blk, hb, rfl⟩ := hx
      obtain ⟨blk', hb', en, clock, hh, hs, _⟩ := hI.maps _ _ _ _ hg
      rw [hb] at hb'; cases hb'
      simp [Builtin.len_, run_under hu, goInt, run_getObj_map hh, hs]
    · cases h
  · cases h
    simp [Builtin.len_, run_under hu, goInt]
  · cases h

theorem minmax_int (k : IntKind) (x y : Int) (ts : Array TypeId) (ty : TypeId) (w : World) :
    (Builtin.max_ ts ty #[.int k x, .int k y]).run P w = .ok (.int k (if y > x then y else x)) w := by
  simp [Builtin.max_, Builtin.max2]

theorem freeze_heap (w : World) (b o n : Nat) (c : Array Value) (T : TypeId) (fr : Nat × Nat) (h : w.heap[b]? = some (.cells c T fr)) :
    ∃ fr', (w.freeze ⟨b, o, none⟩ n).heap[b]? = some (.cells c T fr') := by
  unfold World.freeze
  split
  · exact ⟨fr, h⟩
  · simp only [Array.getElem?_modify, if_pos, h, Option.map_some]
    obtain ⟨lo, hi⟩ := fr
    exact ⟨_, rfl⟩
theorem freeze_touch (w : World) (b o n : Nat) : Touch w (w.freeze ⟨b, o, none⟩ n) b := by
  unfold World.freeze
  split
  · exact Touch.refl _ _
  · refine ⟨fun k _ hne => ?_, by simp, rfl, rfl, rfl⟩
    simp only [Array.getElem?_modify]
    rw [if_neg (fun e => hne e.symm)]

theorem bytesA_RE {Γ : Ghost} {s : ByteArray} {f : Nat → Option Value} {o : Nat} (h : ∀ (j : Nat) (b : UInt8), s.data[j]? = some b → f (o + j) = some (.int .u8 b.toNat)) : RE Γ (bytesA s) f o 1 := by
  refine RE.mk fun i x hx => ?_
  unfold bytesA at hx
  simp only [List.getElem?_map, Option.map_eq_some_iff, Array.getElem?_toList] at hx
  obtain ⟨b, hb, rfl⟩ := hx
  refine ⟨.int .u8 b.toNat, by simp only [R], rfl, rfl, fun j v hj => ?_⟩
  cases j with
  | zero =>
    simp only [Value.cells, List.getElem?_cons_zero, Option.some.injEq] at hj
    subst hj
    rw [Nat.mul_one, Nat.add_zero]; exact h i b hb
  | succ j => simp [Value.cells] at hj

theorem bytes_sound {E : Env} {B : Nat} {w0 w : World} {Γ : Ghost} {st : St} (hI : Inv B w0 Γ st w) (e : TypeId) (s : ByteArray) :
    ∃ u w' Γ', (Conv.stringToBytes e s).run P w = .ok u w' ∧ Out B w0 Γ st Γ' st w' ∧ R Γ' (.vs 1 .any (bytesA s)) u := by
  let cap := grownCap w s.size 0 e
  let c : Array Value := s.data.map (fun b => Value.int .u8 b.toNat) ++ Array.replicate (cap - s.size) (.int .u8 0)
  have hat := alloc_at w.drew (.cells c e)
  have hw : w.drew.heap.size = w.heap.size := rfl
  rw [hw] at hat
  have hsh : (w.drew.alloc (.cells c e)).shape? w.heap.size = some (e, c.size) := by
    unfold World.shape?; rw [hat]
  obtain ⟨fr, hfr⟩ := freeze_heap (w.drew.alloc (.cells c e)) w.heap.size c.size 1 c e (0, 0) hat
  refine ⟨.slice (some ⟨w.heap.size, 0, none⟩) s.size cap, (w.drew.alloc (.cells c e)).freeze ⟨w.heap.size, c.size, none⟩ 1,
    Γ.addInert w.heap.size (fun o => if o < c.size then c[o]? else none), ?_, ?_, ?_⟩
  · simp only [Conv.stringToBytes, Sem.run_bind, run_choose, Question.forced, Bool.false_eq_true, if_false, Result.andThen_ok, newRow, run_newObj, Sem.run_pure, markStringish, run_shape]
    show Result.andThen (Sem.run P (match (w.drew.alloc (.cells c e)).shape? w.heap.size with | some (_, n) => freeze ⟨w.heap.size, n, none⟩ 1 | _ => pure ()) (w.drew.alloc (.cells c e))) _ = _
    rw [hsh]
    simp only [run_freeze, Result.andThen_ok]
    rfl
  · exact hI.inertNew ((Touch.drawn w _ _).trans ((Touch.alloc w.drew _).trans (freeze_touch _ _ _ _))) hfr c.size
  · simp only [R]
    have hlen : (bytesA s).length = s.size := by simp [bytesA]
    refine ⟨w.heap.size, 0, cap, by rw [hlen], ?_, Nat.one_pos, trivial, ?_⟩
    · rw [hlen]; exact grownCap_ge w s.size 0 e
    · refine bytesA_RE fun j b hb => ?_
      have hj : j < s.data.size := (Array.getElem?_eq_some_iff.1 hb).1
      have hc : c[j]? = some (.int .u8 b.toNat) := by
        show (s.data.map (fun b => Value.int .u8 b.toNat) ++ Array.replicate (cap - s.size) (.int .u8 0))[j]? = _
        rw [Array.getElem?_append_left (by simpa using hj), Array.getElem?_map, hb]; rfl
      simp only [Ghost.addInert, if_pos, Nat.zero_add]
      rw [if_pos (Array.getElem?_eq_some_iff.1 hc).1, hc]

/-- What is asked of an environment. -/
structure EnvOk (P : Program) (E : Env) : Prop where
  ty : ∀ t y, E.ty t = some y → TyOk P t y
  fns : ∀ f fi, E.fns f = some fi → ∃ fn, P.funcs[f]? = some fn ∧ fn.body = some fi.code ∧ fn.ntmps = fi.ntmps ∧ fn.results.toList = fi.results ∧ (fn.name == "runtime.NumGoroutine") = false
  mixed : P.follows .mixedOrders = true
  static : ∀ f fi, E.fns f = some fi → codeOk (E.dyn f) fi.code = true

theorem pairs_fst (tm : TM) (a : Act) (ps : Array (Nat × Operand)) : (ps.toList.map fun (p : Nat × Operand) => (p.1, evalO tm p.2)).map Prod.fst = (ps.map fun (p : Nat × Operand) => (p.1, a.eval p.2)).toList.map Prod.fst := by
  simp [Function.comp_def]
theorem pairs_snd {Γ : Ghost} {tm : TM} {a : Act} (hF : RT Γ tm a.tmps) (ps : Array (Nat × Operand)) :
    RL Γ ((ps.toList.map fun (p : Nat × Operand) => (p.1, evalO tm p.2)).map Prod.snd) ((ps.map fun (p : Nat × Operand) => (p.1, a.eval p.2)).toList.map Prod.snd) := by
  have := hF.evals (ps.toList.map Prod.snd)
  simpa [Function.comp_def] using this

set_option maxHeartbeats 1000000 in
theorem quiet_sound {E : Env} (hE : EnvOk P E) {B : Nat} {w0 w : World} {Γ : Ghost} {st : St} (hI : Inv B w0 Γ st w) {tm : TM} {a : Act} (hF : RT Γ tm a.tmps)
    {o : Oper} {r : AV} (h : quiet E tm st o = some r) :
    ∃ u w' Γ', (execOp a.eval o).run P w = .ok (.value u) w' ∧ Out B w0 Γ st Γ' st w' ∧ R Γ' r u := by
  have same : ∀ {s : Sem Value}, Still P s w Γ r → (execOp a.eval o = do pure (Next.value (← s))) → ∃ u w' Γ', (execOp a.eval o).run P w = .ok (.value u) w' ∧ Out B w0 Γ st Γ' st w' ∧ R Γ' r u := by
    intro s hs he
    obtain ⟨u, h1, h2⟩ := hs.next
    exact ⟨u, w, Γ, by rw [he]; exact h1, ⟨Ghost.Le.refl Γ, hI, Keep.refl Γ st⟩, h2⟩
  obtain ⟨dst, op, ty, pos, after, guard⟩ := o
  cases op <;> simp only [quiet] at h <;> (try (cases h; done))
  case move x => cases h; exact ⟨a.eval x, w, Γ, rfl, ⟨Ghost.Le.refl Γ, hI, Keep.refl Γ st⟩, hF.eval x⟩
  case assign x => cases h; exact ⟨a.eval x, w, Γ, rfl, ⟨Ghost.Le.refl Γ, hI, Keep.refl Γ st⟩, hF.eval x⟩
  case pick c x y =>
    split at h
    · rename_i t ht
      cases h
      have hc := hF.eval c
      rw [ht] at hc; simp only [R] at hc
      refine ⟨if t then a.eval x else a.eval y, w, Γ, ?_, ⟨Ghost.Le.refl Γ, hI, Keep.refl Γ st⟩, ?_⟩
      · simp [execOp, hc, asBool]
      · cases t
        · exact hF.eval y
        · exact hF.eval x
    · cases h
  case load t x =>
    split at h
    · cases h
    · rename_i cs hc
      exact same (load_sound hE.ty hI hc h (hF.eval x)) rfl
  case nilCheck x =>
    have hx := hF.eval x
    split at h
    · rename_i b i off he; cases h; rw [he] at hx
      have hx' := hx; simp only [R] at hx; obtain ⟨_, _, _, _, _, hv⟩ := hx
      exact ⟨a.eval x, w, Γ, by simp [execOp, hv], ⟨Ghost.Le.refl Γ, hI, Keep.refl Γ st⟩, hx'⟩
    · rename_i cs he; cases h; rw [he] at hx
      have hx' := hx; simp only [R] at hx; obtain ⟨_, _, _, hv, _⟩ := hx
      exact ⟨a.eval x, w, Γ, by simp [execOp, hv], ⟨Ghost.Le.refl Γ, hI, Keep.refl Γ st⟩, hx'⟩
    · rename_i g he; cases h; rw [he] at hx
      have hx' := hx; simp only [R] at hx
      exact ⟨a.eval x, w, Γ, by simp [execOp, hx], ⟨Ghost.Le.refl Γ, hI, Keep.refl Γ st⟩, hx'⟩
    · rename_i f cap he; cases h; rw [he] at hx
      have hx' := hx; simp only [R] at hx; obtain ⟨vf, vc, hv, _⟩ := hx
      exact ⟨a.eval x, w, Γ, by simp [execOp, hv], ⟨Ghost.Le.refl Γ, hI, Keep.refl Γ st⟩, hx'⟩
    · cases h
  case binOp op t x y yt => exact same (binA_sound hE.ty h (hF.eval x) (hF.eval y) w) rfl
  case unOp op t x => exact same (unA_sound h (hF.eval x) w) rfl
  case convert src dst x =>
    split at h
    · rename_i sy ty' hs hd
      obtain ⟨U1, _, _, hu1, _⟩ := (hE.ty src sy hs).ex
      obtain ⟨U2, _, _, hu2, _, _, g1, _⟩ := (hE.ty dst ty' hd).ex
      have gi := tdOf_inv g1
      have hx := hF.eval x
      split at h
      · rename_i k l n hk he
        cases h
        rw [hk] at gi; simp only [TDIs] at gi; subst gi
        rw [he] at hx; simp only [R] at hx
        refine same ⟨.int k (k.wrap n), ?_, by simp only [R]⟩ rfl
        rw [hx]
        simp [convert, run_under hu1, run_under hu2, Conv.intToInt]
      · rename_i s hk he
        cases h
        rw [hk] at gi; simp only [TDIs] at gi; subst gi
        rw [he] at hx; simp only [R] at hx
        refine same ⟨.string s, ?_, by simp only [R]⟩ rfl
        rw [hx]
        simp [convert, run_under hu1, run_under hu2]
      · rename_i e s hk he
        rw [hk] at gi; simp only [TDIs] at gi; subst gi
        rw [he] at hx; simp only [R] at hx
        split at h
        · rename_i et het
          split at h
          · rename_i hd8
            cases h
            obtain ⟨U3, _, _, hu3, _, _, q1, _⟩ := (hE.ty e et het).ex
            have qi := tdOf_inv q1
            rw [hd8] at qi; simp only [TDIs] at qi; subst qi
            obtain ⟨u, w', Γ', h1, h2, h3⟩ := bytes_sound (P := P) (E := E) hI e s
            refine ⟨u, w', Γ', ?_, h2, h3⟩
            simp only [execOp, hx, Sem.run_bind, convert, run_under hu1, run_under hu2, run_under hu3, Result.andThen_ok, h1, Sem.run_pure]
          · cases h
        · cases h
      · cases h
    · cases h
  case makeInterface t x =>
    split at h
    · rename_i ty' ht
      split at h
      · cases h
      · rename_i hn
        cases h
        obtain ⟨U, _, _, hu, _, _, g1, _⟩ := (hE.ty t ty' ht).ex
        refine same ⟨.iface t (a.eval x), ?_, by simp only [R]; exact ⟨_, rfl, hF.eval x⟩⟩ rfl
        simp only [Instr.makeInterface, Sem.run_bind, run_under hu, Result.andThen_ok]
        split
        · exact absurd g1.symm hn
        · rfl
    · cases h
  case makeFunc fn first cap =>
    cases fn <;> (try (cases h; done))
    rename_i f
    cases h
    refine same ⟨.func (.func f) (first.map a.eval) (cap.map a.eval), by simp [Instr.makeFunc], ?_⟩ rfl
    simp only [R]
    exact ⟨_, _, rfl, by simpa using hF.evals first.toList, by simpa using hF.evals cap.toList⟩
  case slice t x lo hi mx => exact same (slice_sound hE.ty h (hF.eval x) (hF.evalO? lo) (hF.evalO? hi) (hF.evalO? mx) w) rfl
  case fieldAddr s x f =>
    split at h
    · rename_i sty hs
      split at h
      · rename_i ft off hf
        split at h
        · rename_i fty hft
          split at h
          · cases h
          · rename_i hz
            exact same (fieldAddr_sound hE.ty hs hf hft hz h (hF.eval x) w) rfl
        · cases h
      · cases h
    · cases h
  case field t x f =>
    split at h
    · rename_i sty hs
      split at h
      · rename_i ft off cs hf he
        exact same (field_sound hE.ty hs hf h (by rw [← he]; exact hF.eval x) w) rfl
      · cases h
    · cases h
  case indexAddr t x ix =>
    split at h
    · rename_i ty' k i ht he
      have hix := hF.eval ix
      rw [he] at hix; simp only [R] at hix
      split at h
      · rename_i e hd
        split at h
        · rename_i et het
          exact same (by rw [hix]; exact indexAddr_slice_sound hE.ty ht hd het h (hF.eval x) w) rfl
        · cases h
      · rename_i n e hd
        split at h
        · rename_i et het
          split at h
          · rename_i hi
            exact same (by rw [hix]; exact indexAddr_array_sound hE.ty ht hd het hi h (hF.eval x) w) rfl
          · cases h
        · cases h
      · cases h
    · cases h
  case index t x ix =>
    split at h
    · rename_i ty' k i ht he
      have hix := hF.eval ix
      rw [he] at hix; simp only [R] at hix
      split at h
      · rename_i n e cs hd hxe
        split at h
        · rename_i et het
          split at h
          · rename_i hi
            exact same (by rw [hix]; exact index_array_sound hE.ty ht hd het hi h (by rw [← hxe]; exact hF.eval x) w) rfl
          · cases h
        · cases h
      · rename_i s hd hxe
        have hx := hF.eval x
        rw [hxe] at hx; simp only [R] at hx
        split at h
        · rename_i h0
          split at h
          · rename_i b hb
            cases h
            exact same ⟨_, by rw [hix, hx]; exact index_string_sound hE.ty ht hd h0 hb w, by simp only [R]⟩ rfl
          · cases h
        · cases h
      · cases h
    · cases h
  case lookup t x ix ok =>
    split at h
    · rename_i ty' ht
      split at h
      · rename_i kt et hd
        split at h
        · rename_i kty ety hkt het
          exact same (look_sound hE.ty hI ht hd hkt het h (hF.eval x) (hF.eval ix)) rfl
        · cases h
      · cases h
    · cases h
  case extract t ix =>
    split at h
    · rename_i xs he
      have hx := hF.eval t
      rw [he] at hx; simp only [R] at hx
      obtain ⟨vs, hv, hr⟩ := hx
      obtain ⟨v, h1, h2⟩ := hr.get ix r h
      rw [Array.getElem?_toList] at h1
      exact same ⟨v, by simp [hv, Instr.extract, h1], h2⟩ rfl
    · cases h
  case build t parts => exact same (build_sound hE.ty h (pairs_fst tm a parts) (pairs_snd hF parts) w) rfl
  case buildSlice t len parts =>
    split at h
    · rename_i ty' ht
      split at h
      · rename_i e hd
        split at h
        · rename_i et het
          split at h
          · rename_i hc
            simp only [Option.map_eq_some_iff] at h
            obtain ⟨xs, hx, rfl⟩ := h
            obtain ⟨u, w', Γ', h1, h2, h3⟩ := buildSlice_sound hE.ty hI ht hd het hc hx (pairs_fst tm a parts) (pairs_snd hF parts)
            exact ⟨u, w', Γ', by simp [execOp, h1], h2, h3⟩
          · cases h
        · cases h
      · cases h
    · cases h
  case call c =>
    obtain ⟨callee, args, argTypes⟩ := c
    cases callee <;> (try (cases h; done))
    rename_i b
    cases b <;> (try (cases h; done)) <;> dsimp only at h
    case len =>
      split at h
      · rename_i x t hargs htys
        split at h
        · rename_i ty' ht
          simp only [Option.map_eq_some_iff] at h
          obtain ⟨n, hn, rfl⟩ := h
          have ha : args = #[x] := by rw [← Array.toArray_toList (xs := args), hargs]
          have hb : argTypes = #[t] := by rw [← Array.toArray_toList (xs := argTypes), htys]
          subst ha; subst hb
          exact ⟨.int .i64 n, w, Γ, by simp [execOp, resolve, invoke, builtin, len_sound hE.ty hI ht hn (hF.eval x)], ⟨Ghost.Le.refl Γ, hI, Keep.refl Γ st⟩, by simp only [R]⟩
        · cases h
      · cases h
    case cap =>
      split at h
      · rename_i x t hargs htys
        split at h
        · rename_i ty' ht
          split at h
          · rename_i e hd he
            cases h
            have ha : args = #[x] := by rw [← Array.toArray_toList (xs := args), hargs]
            have hb : argTypes = #[t] := by rw [← Array.toArray_toList (xs := argTypes), htys]
            subst ha; subst hb
            obtain ⟨U, _, _, hu, _, _, g1, _⟩ := (hE.ty t ty' ht).ex
            have gi := tdOf_inv g1
            rw [hd] at gi; simp only [TDIs] at gi; subst gi
            have hx := hF.eval x
            rw [he] at hx; simp only [R] at hx
            exact ⟨.int .i64 0, w, Γ, by simp [execOp, resolve, invoke, builtin, Builtin.cap_, run_under hu, hx, goInt], ⟨Ghost.Le.refl Γ, hI, Keep.refl Γ st⟩, by simp only [R]⟩
          · cases h
        · cases h
      · cases h
    case max =>
      split at h
      · rename_i k x l y hargs
        split at h
        · rename_i hk
          cases h; subst hk
          obtain ⟨x1, x2, e0, e1, e2⟩ : ∃ x1 x2, args.toList = [x1, x2] ∧ evalO tm x1 = .int k x ∧ evalO tm x2 = .int k y := by
            cases hl : args.toList with
            | nil => rw [hl] at hargs; simp at hargs
            | cons p l =>
              cases l with
              | nil => rw [hl] at hargs; simp at hargs
              | cons q l =>
                rw [hl] at hargs
                simp only [List.map_cons, List.cons.injEq, List.map_eq_nil_iff] at hargs
                obtain ⟨h1, h2, rfl⟩ := hargs
                exact ⟨p, q, rfl, h1, h2⟩
          have ha : args = #[x1, x2] := by rw [← Array.toArray_toList (xs := args), e0]
          subst ha
          have hx := hF.eval x1; have hy := hF.eval x2
          rw [e1] at hx; rw [e2] at hy
          simp only [R] at hx hy
          exact ⟨.int k (if y > x then y else x), w, Γ, by simp [execOp, resolve, invoke, builtin, Builtin.max_, Builtin.max2, hx, hy], ⟨Ghost.Le.refl Γ, hI, Keep.refl Γ st⟩, by simp only [R]⟩
        · cases h
      · cases h
    case min =>
      split at h
      · rename_i k x l y hargs
        split at h
        · rename_i hk
          cases h; subst hk
          obtain ⟨x1, x2, e0, e1, e2⟩ : ∃ x1 x2, args.toList = [x1, x2] ∧ evalO tm x1 = .int k x ∧ evalO tm x2 = .int k y := by
            cases hl : args.toList with
            | nil => rw [hl] at hargs; simp at hargs
            | cons p l =>
              cases l with
              | nil => rw [hl] at hargs; simp at hargs
              | cons q l =>
                rw [hl] at hargs
                simp only [List.map_cons, List.cons.injEq, List.map_eq_nil_iff] at hargs
                obtain ⟨h1, h2, rfl⟩ := hargs
                exact ⟨p, q, rfl, h1, h2⟩
          have ha : args = #[x1, x2] := by rw [← Array.toArray_toList (xs := args), e0]
          subst ha
          have hx := hF.eval x1; have hy := hF.eval x2
          rw [e1] at hx; rw [e2] at hy
          simp only [R] at hx hy
          exact ⟨.int k (if y < x then y else x), w, Γ, by simp [execOp, resolve, invoke, builtin, Builtin.min_, Builtin.min2, hx, hy], ⟨Ghost.Le.refl Γ, hI, Keep.refl Γ st⟩, by simp only [R]⟩
        · cases h
      · cases h
end
end Go.Abs

/- The operations that make memory or write it. -/
namespace Go.Abs
open Go.RowKit

section
variable {P : Program}

/-- A walk's view of an operation with a value and a new state. -/
def Does (P : Program) (B : Nat) (w0 : World) (s : Sem Value) (w : World) (Γ : Ghost) (st : St) (r : AV) (st' : St) : Prop :=
  ∃ u w' Γ', s.run P w = .ok u w' ∧ Out B w0 Γ st Γ' st' w' ∧ R Γ' r u

theorem RE.one {Γ : Ghost} {x : AV} {v : Value} {f : Nat → Option Value} {o sz : Nat} (h : R Γ x v) (hok : x.ok = true) (hs : v.cells.size = sz) (hc : CellsAt f o v.cells.toList) : RE Γ [x] f o sz := by
  simp only [RE]
  exact ⟨⟨v, h, hok, hs, hc⟩, trivial⟩

theorem alloc_sound {E : Env} (hE : ∀ t y, E.ty t = some y → TyOk P t y) {B : Nat} {w0 w : World} {Γ : Ghost} {st st' : St} (hI : Inv B w0 Γ st w) {t : TypeId} {r : AV} (h : allocA E st t = some (r, st')) :
    Does P B w0 (Instr.alloc t true (.tuple #[])) w Γ st r st' := by
  unfold allocA at h
  split at h
  · rename_i ty ht
    split at h
    · rename_i hsz
      cases h
      obtain ⟨i, z, hi, hz, hs, _, hzs, hzo, hzr⟩ := (hE t ty ht).zero
      have hat := alloc_at w (.cells z.cells t)
      have out1 := hI.rowNew (Touch.alloc w _) hat hsz (Nat.le_refl 1) (by rw [Nat.one_mul, hzs]; exact Nat.le_refl _) (RE.one (hzr Γ) hzo hzs (by
        intro j v hj
        show z.cells[0 + j]? = some v
        rw [Nat.zero_add, ← Array.getElem?_toList]; exact hj))
      have out2 := out1.inv.tag (i := st.next) (blk := w.heap.size) (sz := ty.size) (tot := 1) (by simp [Ghost.addObj]) ⟨_, _, hat⟩
      refine ⟨.pointer (some ⟨w.heap.size, 0, none⟩), w.alloc (.cells z.cells t), _, ?_, out1.trans out2, ?_⟩
      · simp [Instr.alloc, run_zero hi hz, newVar, newRow]
      · simp only [R]
        exact ⟨w.heap.size, 0, ty.size, 1, by simp [Ghost.addObj, Ghost.addEty], by simp⟩
    · cases h
  · cases h

theorem box_sound {E : Env} {B : Nat} {w0 w : World} {Γ : Ghost} {st st' : St} (hI : Inv B w0 Γ st w) {t : TypeId} {x r : AV} {v : Value} (h : boxA E st t x = some (r, st')) (hx : R Γ x v) :
    Does P B w0 (Instr.box t v) w Γ st r st' := by
  unfold boxA at h
  split at h
  · rename_i ty ht
    split at h
    · rename_i hc
      obtain ⟨hsz, hok, hlen⟩ := hc
      cases h
      have hvs : v.cells.size = ty.size := by
        have := (hx.cells (AV.ne_junk_of_ok hok)).length
        rw [Array.length_toList] at this; omega
      have hat := alloc_at w (.cells v.cells t)
      refine ⟨.pointer (some ⟨w.heap.size, 0, none⟩), w.alloc (.cells v.cells t), _, ?_, hI.rowNew (Touch.alloc w _) hat hsz (Nat.le_refl 1) (by rw [Nat.one_mul, hvs]; exact Nat.le_refl _) (RE.one hx hok hvs ?_), ?_⟩
      · simp [Instr.box, newVar, newRow]
      · intro j u hj
        show v.cells[0 + j]? = some u
        rw [Nat.zero_add, ← Array.getElem?_toList]; exact hj
      · simp only [R]
        exact ⟨w.heap.size, 0, ty.size, 1, by simp [Ghost.addObj], by simp⟩
    · cases h
  · cases h

theorem oneCells {Γ : Ghost} {x : AV} {v : Value} (hx : R Γ x v) (hok : x.ok = true) : ∀ u ∈ v.cells.toList, u.oneCell' = true := by
  intro u hu
  obtain ⟨j, hj⟩ := List.getElem?_of_mem hu
  have hcl := hx.cells (AV.ne_junk_of_ok hok)
  have hlt : j < x.cells.length := by
    rw [← hcl.length]
    exact (List.getElem?_eq_some_iff.1 hj).1
  obtain ⟨u', h1, h2⟩ := hcl.get j _ (List.getElem?_eq_getElem hlt)
  rw [hj] at h1; cases h1
  have hc := AV.cells_ok hok _ (List.getElem_mem hlt)
  obtain ⟨n1, n2⟩ := h2.oneCell hc
  cases u <;> first | rfl | exact absurd rfl (n1 _) | exact absurd rfl (n2 _)

/-- A block whose cells were replaced from a place on. -/
def Put (w w' : World) (b o : Nat) (vs : List Value) (c : Array Value) (T : TypeId) : Prop :=
  Touch w w' b ∧ ∃ c' : Array Value, w'.heap[b]? = some (.cells c' T (0, 0)) ∧ c'.size = c.size ∧ ∀ k : Nat, c'[k]? = if k < o then c[k]? else if k < o + vs.length then vs[k - o]? else c[k]?

theorem setRow_put {w : World} {b o : Nat} {vs : List Value} {c : Array Value} {T : TypeId} (hc : w.heap[b]? = some (.cells c T (0, 0))) (hl : o + vs.length ≤ c.size) :
    Put w (w.setRow b (c.toList.take o ++ vs ++ c.toList.drop (o + vs.length)).toArray) b o vs c T := by
  refine ⟨⟨fun k hk hne => setRow_other w b k _ hne, by simp, rfl, rfl, rfl⟩, _, setRow_heap w b c _ T _ hc, ?_, fun k => ?_⟩
  · simp; omega
  · rw [List.getElem?_toArray, drop_set_cells (by rw [Array.length_toList]; exact hl) rfl]
    simp only [Array.getElem?_toList]

theorem setCells_put : ∀ (vs : List Value) {w : World} {b o : Nat} {c : Array Value} {T : TypeId}, w.heap[b]? = some (.cells c T (0, 0)) → o + vs.length ≤ c.size → Put w (w.setCells b o vs) b o vs c T
  | [], w, b, o, c, T, hc, _ => ⟨Touch.refl _ _, c, hc, rfl, fun k => by simp; intro _ h2; omega⟩
  | v :: vs, w, b, o, c, T, hc, hl => by
    simp only [List.length_cons] at hl
    have h1 : (w.setCell ⟨b, o, none⟩ v).heap[b]? = some (.cells (c.setIfInBounds o v) T (0, 0)) := by
      simp only [World.setCell, Array.getElem?_modify, if_pos, hc, Option.map_some]
      rfl
    have t1 : Touch w (w.setCell ⟨b, o, none⟩ v) b := ⟨fun k _ hne => by simp only [World.setCell, Array.getElem?_modify]; rw [if_neg (fun e => hne e.symm)], by simp [World.setCell], rfl, rfl, rfl⟩
    obtain ⟨t2, c', k1, k2, k3⟩ := setCells_put vs (o := o + 1) h1 (by rw [Array.size_setIfInBounds]; omega)
    refine ⟨t1.trans t2, c', k1, by rw [k2, Array.size_setIfInBounds], fun k => ?_⟩
    rw [k3 k, Array.getElem?_setIfInBounds]
    simp only [List.length_cons]
    by_cases a1 : k < o
    · have : k < o + 1 := by omega
      have : ¬ o = k := by omega
      simp [*]
    · by_cases a2 : k = o
      · subst a2
        have : k < c.size := by omega
        simp [this]
      · have b1 : ¬ k < o + 1 := by omega
        have b2 : ¬ o = k := by omega
        have b3 : k - o = (k - (o + 1)) + 1 := by omega
        by_cases a3 : k < o + (vs.length + 1)
        · have : k < o + 1 + vs.length := by omega
          simp [a1, b1, this, a3, b3]
        · have : ¬ k < o + 1 + vs.length := by omega
          simp [a1, b1, this, a3, b2]

theorem AV.cells_len {x : AV} : (∃ cs, x = .agg cs) ∨ x.cells = [x] := by cases x <;> simp [AV.cells]

theorem store_sound {E : Env} (hE : ∀ t y, E.ty t = some y → TyOk P t y) {B : Nat} {w0 w : World} {Γ : Ghost} {st st' : St} (hI : Inv B w0 Γ st w) {t : TypeId} {ty : Ty} {a x : AV} {av v : Value}
    (ht : E.ty t = some ty) (hlen : x.cells.length = ty.size) (h : storeA st a x = some st') (ha : R Γ a av) (hx : R Γ x v) :
    ∃ w' Γ', (Instr.storeAt t av v).run P w = .ok () w' ∧ Out B w0 Γ st Γ' st' w' := by
  obtain ⟨i, z, hi, _, hs, _⟩ := (hE t ty ht).zero
  unfold storeA at h
  split at h
  · rename_i b i' off
    split at h
    · rename_i sz xs hg
      split at h
      · rename_i e he
        split at h
        · rename_i hc
          simp only [Bool.and_eq_true, decide_eq_true_eq] at hc
          obtain ⟨hok, hoff⟩ := hc
          simp only [R] at ha
          obtain ⟨blk, base, sz', tot, ho, rfl⟩ := ha
          obtain ⟨rfl, hsz, hlt, hmem⟩ := hI.rows b sz xs blk base sz' tot hg ho
          have hi' : i' < xs.length := by
            rcases Nat.lt_or_ge i' xs.length with k | k
            · exact k
            · rw [List.getElem?_eq_none k] at he; cases he
          obtain ⟨⟨c, T, hh, hcs, hre⟩, hno⟩ := hmem (by omega)
          obtain ⟨ev, k1, k2, k3, k4⟩ := hre.get i' e he
          have hxc := hx.cells (AV.ne_junk_of_ok hok)
          have hec := k1.cells (AV.ne_junk_of_ok k2)
          have hvl : v.cells.toList.length = x.cells.length := hxc.length
          have hel : ev.cells.toList.length = e.cells.length := hec.length
          rw [Array.length_toList] at hvl hel
          have hidx : (i' + 1) * sz' ≤ tot * sz' := Nat.mul_le_mul_right _ (by omega)
          rw [Nat.add_mul, Nat.one_mul] at hidx
          have hfit : base + i' * sz' + off + v.cells.toList.length ≤ c.size := by rw [Array.length_toList]; omega
          have hrun : (Instr.storeAt t (.pointer (some ⟨blk, base + i' * sz' + off, none⟩)) v).run P w =
              .ok () (w.setRow blk (c.toList.take (base + i' * sz' + off) ++ v.cells.toList ++ c.toList.drop (base + i' * sz' + off + v.cells.toList.length)).toArray) := by
            have := run_storeCells_at P blk (base + i' * sz' + off) T v.cells.toList 0 c w hh (by simpa using hfit) (oneCells hx hok)
            simp only [Nat.add_zero] at this
            have hne : ¬ (v.cells.size ≠ i.size) := by omega
            simp only [Instr.storeAt, Instr.sureAddr, Sem.run_bind, Sem.run_pure, Result.andThen_ok, storeVar, run_size hi, Sem.run_ite, if_neg hne]
            exact this
          obtain ⟨tw, c', hc', hc's, hget⟩ := setRow_put (vs := v.cells.toList) hh hfit
          -- the new element
          have main : ∀ e' : AV, e'.ok = true → e'.cells = e.cells.take off ++ x.cells ++ e.cells.drop (off + x.cells.length) →
              (∃ ev' : Value, R Γ e' ev' ∧ ev'.cells.toList = ev.cells.toList.take off ++ v.cells.toList ++ ev.cells.toList.drop (off + v.cells.size)) →
              st' = st.put b (.row sz' (xs.set i' e')) →
              ∃ w' Γ', (Instr.storeAt t (.pointer (some ⟨blk, base + i' * sz' + off, none⟩)) v).run P w = .ok () w' ∧ Out B w0 Γ st Γ' st' w' := by
            intro e' hok' _ hev' hst
            obtain ⟨ev', q1, q2⟩ := hev'
            subst hst
            refine ⟨_, Γ, hrun, hI.rowPut hg ho (by omega) tw hc' (by rw [hc's]; exact hcs) (by rw [List.length_set]; exact hlt) (RE.mk fun j y hj => ?_) (TyAt.same hh hc')⟩
            rw [List.getElem?_set] at hj
            split at hj
            · rename_i hji
              subst hji
              first
                | (rw [if_pos hi'] at hj; cases hj)
                | cases hj
              have hsz' : ev'.cells.size = sz' := by
                have := congrArg List.length q2
                simp only [List.length_append, List.length_take, List.length_drop, Array.length_toList] at this
                omega
              refine ⟨ev', q1, hok', hsz', fun k u hk => ?_⟩
              rw [q2] at hk
              have hk2 := drop_set_cells (cells := ev.cells.toList) (v := v.cells.toList) (o := off) (sz := v.cells.size) (by rw [Array.length_toList]; omega) (by simp) k
              rw [hk2] at hk
              show c'[base + i' * sz' + k]? = some u
              rw [hget]
              simp only [Array.length_toList]
              by_cases a1 : k < off
              · rw [if_pos a1] at hk
                rw [if_pos (by omega)]
                exact k4 k u hk
              · rw [if_neg a1] at hk
                rw [if_neg (by omega)]
                by_cases a2 : k < off + v.cells.size
                · rw [if_pos a2] at hk
                  rw [if_pos (by omega)]
                  have : base + i' * sz' + k - (base + i' * sz' + off) = k - off := by omega
                  rw [this]; exact hk
                · rw [if_neg a2] at hk
                  rw [if_neg (by omega)]
                  exact k4 k u hk
            · rename_i hji
              obtain ⟨yv, p1, p2, p3, p4⟩ := hre.get j y hj
              refine ⟨yv, p1, p2, p3, fun k u hk => ?_⟩
              have hk' : k < sz' := by
                rw [← p3, ← Array.length_toList]
                exact (List.getElem?_eq_some_iff.1 hk).1
              show c'[base + j * sz' + k]? = some u
              rw [hget]
              have hv' : v.cells.toList.length ≤ sz' - off := by rw [Array.length_toList]; omega
              rcases Nat.lt_or_gt_of_ne hji with hlt' | hgt'
              · have : (i' + 1) * sz' ≤ j * sz' := Nat.mul_le_mul_right _ hlt'
                rw [Nat.add_mul, Nat.one_mul] at this
                rw [if_neg (by omega), if_neg (by omega)]
                exact p4 k u hk
              · have : (j + 1) * sz' ≤ i' * sz' := Nat.mul_le_mul_right _ hgt'
                rw [Nat.add_mul, Nat.one_mul] at this
                rw [if_pos (by omega)]
                exact p4 k u hk
          split at h
          · rename_i cs
            cases h
            refine main _ ?_ rfl ?_ rfl
            · simp only [AV.ok, List.all_append, Bool.and_eq_true, List.all_eq_true]
              have hcsok : ∀ y ∈ cs, y.cellOk = true := AV.cells_ok k2
              exact ⟨⟨fun y hy => hcsok y (List.mem_of_mem_take hy), fun y hy => AV.cells_ok hok y hy⟩, fun y hy => hcsok y (List.mem_of_mem_drop hy)⟩
            · refine ⟨.agg (ev.cells.toList.take off ++ v.cells.toList ++ ev.cells.toList.drop (off + v.cells.size)).toArray, ?_, by simp [Value.cells]⟩
              simp only [R]
              refine ⟨_, rfl, ?_⟩
              simp only [List.toList_toArray]
              rw [hvl]
              exact ((RL.take off hec).append hxc).append (RL.drop _ hec)
          · rename_i hnagg
            split at h
            · cases h
            · rename_i hxn
              cases h
              have ex : x.cells = [x] := by
                rcases AV.cells_len (x := x) with ⟨cs, rfl⟩ | k
                · exact absurd rfl (hxn cs)
                · exact k
              have ee : e.cells = [e] := by
                rcases AV.cells_len (x := e) with ⟨cs, rfl⟩ | k
                · exact absurd rfl (hnagg cs)
                · exact k
              have h0 : off = 0 := by rw [ex, ee] at hoff; simp at hoff; exact hoff
              subst h0
              refine main x hok ?_ ⟨v, hx, ?_⟩ rfl
              · rw [ex, ee]; rfl
              · have l1 : v.cells.size = 1 := by rw [hvl, ex]; rfl
                have l2 : ev.cells.size = 1 := by rw [hel, ee]; rfl
                have : ev.cells.toList.drop (0 + v.cells.size) = [] := List.drop_eq_nil_of_le (by rw [Array.length_toList]; omega)
                rw [this]; simp
        · cases h
      · cases h
    · cases h
  · cases h
end
end Go.Abs
