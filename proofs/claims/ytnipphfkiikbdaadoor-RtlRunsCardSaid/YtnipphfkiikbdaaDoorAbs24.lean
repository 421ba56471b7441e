/- Own text of this claim: part 24 of an interpreter that is proved sound against the model, and of what it shows of the law. -/
import Derived.Test.YtnipphfkiikbdaaDoorAbs22
import Derived.Test.YtnipphfkiikbdaaDoorAbs6b
/- An Rtl, read, with bounds of all its lengths; what few says. -/
namespace Go.RtlEnv
open Go Go.Proofs Go.Abs Go.RowKit
set_option maxRecDepth 10000
theorem reach_le : reachBytes ≤ 140737488355328 := by decide
structure FitsW (r : GRtl) : Prop where
  ins : r.ins.xs.length ≤ 140737488355328
  regs : r.regs.xs.length ≤ 140737488355328
  words : r.words.xs.length ≤ 140737488355328
  outs : r.outs.xs.length ≤ 140737488355328
  insN : ∀ x ∈ r.ins.xs, x.name.size ≤ 140737488355328
  outsN : ∀ x ∈ r.outs.xs, x.name.size ≤ 140737488355328
  regsN : ∀ x ∈ r.regs.xs, x.name.size ≤ 140737488355328
  inits : ∀ x ∈ r.regs.xs, x.init.xs.length ≤ 140737488355328
  kids : ∀ x ∈ r.words.xs, x.kids.xs.length ≤ 140737488355328
  bits : ∀ x ∈ r.words.xs, x.bits.xs.length ≤ 140737488355328
theorem FitsW.fits {r : GRtl} (h : FitsW r) : Fits r := by
  obtain ⟨a, b, c, d, e, f, g, i, j, k⟩ := h
  exact ⟨by omega, by omega, by omega, by omega, fun x hx => by have := e x hx; omega, fun x hx => by have := f x hx; omega, fun x hx => by have := g x hx; omega, fun x hx => by have := i x hx; omega, fun x hx => by have := j x hx; omega, fun x hx => by have := k x hx; omega⟩
theorem FitsW.len60 {r : GRtl} (h : FitsW r) : Len60 r := by
  obtain ⟨a, b, c, d, _, _, _, _, _, _⟩ := h
  exact ⟨by omega, by omega, by omega⟩
section
variable {H : Type} {enc : TypeId × Value → H} {w : World} {base : Nat} {spare : Nat → Bool} {held : Bool} {fuel n : Nat} {cs : List Value} {x : DataW H × List MemPlace}
theorem str_readV (h : DataW.trod enc Tryd.prog w base spare held n 9 cs = some x) (hw : ∀ m ∈ x.1.weights Tryd.prog 9, m ≤ reachBytes) : ∃ s : ByteArray, cs = [.string s] ∧ s.size ≤ 140737488355328 := by
  obtain ⟨s, rfl, e, hs⟩ := DataW.trod_string Tryd.underlying9 h
  have := weigh_string (t := 9) (P := Tryd.prog) (d := x.1) (by rw [e]) hw
  have hk := reach_le
  exact ⟨s, rfl, by omega⟩
theorem bits_readV (h : DataW.trod enc Tryd.prog w base spare held n 51 cs = some x) (hw : ∀ m ∈ x.1.weights Tryd.prog 51, m ≤ reachBytes) : ∃ s : GSl UInt8, (∃ v, cs = [v] ∧ R (Ghost.all w) (s.av 1 bitAV) v) ∧ s.xs.length ≤ 140737488355328 := by
  obtain ⟨s, h1, _, h3⟩ := slice_readV bitAV 1 (fun _ => True) (by decide) Tryd.underlying51 (by kernel_rfl) (of_decide_eq_true (by kernel_rfl)) hw (fun n cs y hy _ => by
    obtain ⟨b, rfl⟩ := bit_read hy
    exact ⟨b, trivial, rfl, .int .u8 b.toNat, rfl, by simp only [bitAV, R]⟩) h
  have hk := reach_le
  exact ⟨s, h1, by omega⟩
theorem ints_readV (h : DataW.trod enc Tryd.prog w base spare held n 50 cs = some x) (hw : ∀ m ∈ x.1.weights Tryd.prog 50, m ≤ reachBytes) : ∃ s : GSl Int, (∃ v, cs = [v] ∧ R (Ghost.all w) (s.av 1 intAV) v) ∧ s.xs.length ≤ 140737488355328 := by
  obtain ⟨s, h1, _, h3⟩ := slice_readV intAV 1 (fun _ => True) (by decide) Tryd.underlying50 (by kernel_rfl) (of_decide_eq_true (by kernel_rfl)) hw (fun n cs y hy _ => by
    obtain ⟨b, rfl⟩ := int_read hy
    exact ⟨b, trivial, rfl, .int .i64 b, rfl, by simp only [intAV, R]⟩) h
  have hk := reach_le
  exact ⟨s, h1, by omega⟩
theorem rows_readV (h : DataW.trod enc Tryd.prog w base spare held n 29 cs = some x) (hw : ∀ m ∈ x.1.weights Tryd.prog 29, m ≤ reachBytes) : ∃ s : GSl (GSl UInt8), (s.xs.length ≤ 140737488355328 ∧ ∀ a ∈ s.xs, a.xs.length ≤ 140737488355328) ∧ ∃ v, cs = [v] ∧ R (Ghost.all w) (rowsAV s) v := by
  obtain ⟨s, h1, h2, h3⟩ := slice_readV (fun (x : GSl UInt8) => x.av 1 bitAV) 1 (fun a => a.xs.length ≤ 140737488355328) (by decide) Tryd.underlying29 c51 (of_decide_eq_true (by kernel_rfl)) hw (fun n cs y hy hwy => by
    obtain ⟨l, ⟨v, rfl, hr⟩, hl⟩ := bits_readV hy hwy
    refine ⟨l, hl, bit_av_ok l, v, ?_, hr⟩
    cases v with
    | agg c => exact absurd hr (by rcases l.cases bitAV 1 with ⟨_, h | h⟩ | h <;> rw [h] <;> simp [R])
    | _ => rfl) h
  have hk := reach_le
  exact ⟨s, ⟨by omega, h2⟩, h1⟩
theorem lane_readV (h : DataW.trod enc Tryd.prog w base spare held n 66 cs = some x) (hw : ∀ m ∈ x.1.weights Tryd.prog 66, m ≤ reachBytes) : ∃ l : GLane, l.name.size ≤ 140737488355328 ∧ ∃ v : Value, v.cells.toList = cs ∧ R (Ghost.all w) (laneAV l) v := by
  obtain ⟨xs, m, rfl, rfl, hl, hx, hf⟩ := DataW.trod_struct Tryd.underlying66 h
  rw [c66] at hl
  rcases cs with _ | ⟨a, _ | ⟨b, _ | ⟨c, _ | ⟨d, l⟩⟩⟩⟩ <;> simp at hl
  obtain ⟨y0, f0, z0⟩ := fldW hf hx 0 rfl rfl rfl c9 (l := [a]) rfl
  obtain ⟨y1, f1⟩ := fld hf hx 1 rfl rfl rfl c3 (l := [b]) rfl
  obtain ⟨y2, f2⟩ := fld hf hx 2 rfl rfl rfl c3 (l := [c]) rfl
  obtain ⟨s, e0, hs⟩ := str_readV f0 (weigh_field Tryd.underlying66 hw (i := 0) rfl z0)
  obtain ⟨k1, e1⟩ := int_read f1
  obtain ⟨k2, e2⟩ := int_read f2
  simp only [List.cons.injEq, and_true] at e0 e1 e2
  subst e0; subst e1; subst e2
  refine ⟨⟨s, k1, k2⟩, hs, .agg #[.string s, .int .i64 k1, .int .i64 k2], rfl, ?_⟩
  simp only [laneAV, R]
  exact ⟨_, rfl, RL.cons (by simp only [R]) (RL.cons (by simp only [R]) (RL.cons (by simp only [R]) (RL.nil _)))⟩
theorem hold_readV (h : DataW.trod enc Tryd.prog w base spare held n 62 cs = some x) (hw : ∀ m ∈ x.1.weights Tryd.prog 62, m ≤ reachBytes) : ∃ l : GHold, (l.name.size ≤ 140737488355328 ∧ l.init.xs.length ≤ 140737488355328) ∧ ∃ v : Value, v.cells.toList = cs ∧ R (Ghost.all w) (holdAV l) v := by
  obtain ⟨xs, m, rfl, rfl, hl, hx, hf⟩ := DataW.trod_struct Tryd.underlying62 h
  rw [c62] at hl
  rcases cs with _ | ⟨a, _ | ⟨b, _ | ⟨c, _ | ⟨d, l⟩⟩⟩⟩ <;> simp at hl
  obtain ⟨y0, f0, z0⟩ := fldW hf hx 0 rfl rfl rfl c9 (l := [a]) rfl
  obtain ⟨y1, f1, z1⟩ := fldW hf hx 1 rfl rfl rfl c51 (l := [b]) rfl
  obtain ⟨y2, f2⟩ := fld hf hx 2 rfl rfl rfl c3 (l := [c]) rfl
  obtain ⟨s, e0, hs⟩ := str_readV f0 (weigh_field Tryd.underlying62 hw (i := 0) rfl z0)
  obtain ⟨q, ⟨v1, e1, r1⟩, hq⟩ := bits_readV f1 (weigh_field Tryd.underlying62 hw (i := 1) rfl z1)
  obtain ⟨k2, e2⟩ := int_read f2
  simp only [List.cons.injEq, and_true] at e0 e1 e2
  subst e0; subst e1; subst e2
  refine ⟨⟨s, q, k2⟩, ⟨hs, hq⟩, .agg #[.string s, b, .int .i64 k2], rfl, ?_⟩
  simp only [holdAV, R]
  exact ⟨_, rfl, RL.cons (by simp only [R]) (RL.cons r1 (RL.cons (by simp only [R]) (RL.nil _)))⟩
theorem word_readV (h : DataW.trod enc Tryd.prog w base spare held n 53 cs = some x) (hw : ∀ m ∈ x.1.weights Tryd.prog 53, m ≤ reachBytes) : ∃ l : GWord, (l.kids.xs.length ≤ 140737488355328 ∧ l.bits.xs.length ≤ 140737488355328) ∧ ∃ v : Value, v.cells.toList = cs ∧ R (Ghost.all w) (wordAV l) v := by
  obtain ⟨xs, m, rfl, rfl, hl, hx, hf⟩ := DataW.trod_struct Tryd.underlying53 h
  rw [c53'] at hl
  rcases cs with _ | ⟨a, _ | ⟨b, _ | ⟨c, _ | ⟨d, _ | ⟨e, _ | ⟨g, l⟩⟩⟩⟩⟩⟩ <;> simp at hl
  obtain ⟨y0, f0⟩ := fld hf hx 0 rfl rfl rfl c49 (l := [a]) rfl
  obtain ⟨y1, f1⟩ := fld hf hx 1 rfl rfl rfl c3 (l := [b]) rfl
  obtain ⟨y2, f2⟩ := fld hf hx 2 rfl rfl rfl c3 (l := [c]) rfl
  obtain ⟨y3, f3, z3⟩ := fldW hf hx 3 rfl rfl rfl c50 (l := [d]) rfl
  obtain ⟨y4, f4, z4⟩ := fldW hf hx 4 rfl rfl rfl c51 (l := [e]) rfl
  obtain ⟨k0, e0⟩ := op_read f0
  obtain ⟨k1, e1⟩ := int_read f1
  obtain ⟨k2, e2⟩ := int_read f2
  obtain ⟨q3, ⟨v3, e3, r3⟩, hq3⟩ := ints_readV f3 (weigh_field Tryd.underlying53 hw (i := 3) rfl z3)
  obtain ⟨q4, ⟨v4, e4, r4⟩, hq4⟩ := bits_readV f4 (weigh_field Tryd.underlying53 hw (i := 4) rfl z4)
  simp only [List.cons.injEq, and_true] at e0 e1 e2 e3 e4
  subst e0; subst e1; subst e2; subst e3; subst e4
  refine ⟨⟨k0, k1, k2, q3, q4⟩, ⟨hq3, hq4⟩, .agg #[.int .i64 k0, .int .i64 k1, .int .i64 k2, d, e], rfl, ?_⟩
  simp only [wordAV, R]
  exact ⟨_, rfl, RL.cons (by simp only [R]) (RL.cons (by simp only [R]) (RL.cons (by simp only [R]) (RL.cons r3 (RL.cons r4 (RL.nil _)))))⟩
theorem lanes_readV (h : DataW.trod enc Tryd.prog w base spare held n 22 cs = some x) (hw : ∀ m ∈ x.1.weights Tryd.prog 22, m ≤ reachBytes) : ∃ s : GSl GLane, (∃ v, cs = [v] ∧ R (Ghost.all w) (s.av 3 laneAV) v) ∧ (∀ a ∈ s.xs, a.name.size ≤ 140737488355328) ∧ s.xs.length ≤ reachBytes :=
  slice_readV laneAV 3 (fun a => a.name.size ≤ 140737488355328) (by decide) Tryd.underlying22 c66 (of_decide_eq_true (by kernel_rfl)) hw (fun n cs y hy hwy => by
    obtain ⟨l, h1, h2⟩ := lane_readV hy hwy
    exact ⟨l, h1, rfl, h2⟩) h
theorem holds_readV (h : DataW.trod enc Tryd.prog w base spare held n 23 cs = some x) (hw : ∀ m ∈ x.1.weights Tryd.prog 23, m ≤ reachBytes) : ∃ s : GSl GHold, (∃ v, cs = [v] ∧ R (Ghost.all w) (s.av 3 holdAV) v) ∧ (∀ a ∈ s.xs, a.name.size ≤ 140737488355328 ∧ a.init.xs.length ≤ 140737488355328) ∧ s.xs.length ≤ reachBytes :=
  slice_readV holdAV 3 (fun a => a.name.size ≤ 140737488355328 ∧ a.init.xs.length ≤ 140737488355328) (by decide) Tryd.underlying23 c62 (of_decide_eq_true (by kernel_rfl)) hw (fun n cs y hy hwy => by
    obtain ⟨l, h1, h2⟩ := hold_readV hy hwy
    exact ⟨l, h1, hold_ok l, h2⟩) h
theorem words_readV (h : DataW.trod enc Tryd.prog w base spare held n 24 cs = some x) (hw : ∀ m ∈ x.1.weights Tryd.prog 24, m ≤ reachBytes) : ∃ s : GSl GWord, (∃ v, cs = [v] ∧ R (Ghost.all w) (s.av 5 wordAV) v) ∧ (∀ a ∈ s.xs, a.kids.xs.length ≤ 140737488355328 ∧ a.bits.xs.length ≤ 140737488355328) ∧ s.xs.length ≤ reachBytes :=
  slice_readV wordAV 5 (fun a => a.kids.xs.length ≤ 140737488355328 ∧ a.bits.xs.length ≤ 140737488355328) (by decide) Tryd.underlying24 c53' (of_decide_eq_true (by kernel_rfl)) hw (fun n cs y hy hwy => by
    obtain ⟨l, h1, h2⟩ := word_readV hy hwy
    exact ⟨l, h1, word_ok l, h2⟩) h
theorem rtl_readV (h : DataW.trod enc Tryd.prog w base spare held n 26 cs = some x) (hw : ∀ m ∈ x.1.weights Tryd.prog 26, m ≤ reachBytes) : ∃ r : GRtl, FitsW r ∧ R (Ghost.all w) (rtlAV r) (.agg cs.toArray) := by
  obtain ⟨xs, m, rfl, rfl, hl, hx, hf⟩ := DataW.trod_struct Tryd.underlying26 h
  rw [c26] at hl
  rcases cs with _ | ⟨a, _ | ⟨b, _ | ⟨c, _ | ⟨d, _ | ⟨e, l⟩⟩⟩⟩⟩ <;> simp at hl
  obtain ⟨y0, f0, z0⟩ := fldW hf hx 0 rfl rfl rfl c22 (l := [a]) rfl
  obtain ⟨y1, f1, z1⟩ := fldW hf hx 1 rfl rfl rfl c23 (l := [b]) rfl
  obtain ⟨y2, f2, z2⟩ := fldW hf hx 2 rfl rfl rfl c24 (l := [c]) rfl
  obtain ⟨y3, f3, z3⟩ := fldW hf hx 3 rfl rfl rfl c22 (l := [d]) rfl
  obtain ⟨q0, ⟨v0, e0, r0⟩, g0, n0⟩ := lanes_readV f0 (weigh_field Tryd.underlying26 hw (i := 0) rfl z0)
  obtain ⟨q1, ⟨v1, e1, r1⟩, g1, n1⟩ := holds_readV f1 (weigh_field Tryd.underlying26 hw (i := 1) rfl z1)
  obtain ⟨q2, ⟨v2, e2, r2⟩, g2, n2⟩ := words_readV f2 (weigh_field Tryd.underlying26 hw (i := 2) rfl z2)
  obtain ⟨q3, ⟨v3, e3, r3⟩, g3, n3⟩ := lanes_readV f3 (weigh_field Tryd.underlying26 hw (i := 3) rfl z3)
  simp only [List.cons.injEq, and_true] at e0 e1 e2 e3
  subst e0; subst e1; subst e2; subst e3
  have hk := reach_le
  refine ⟨⟨q0, q1, q2, q3⟩, ⟨Nat.le_trans n0 hk, Nat.le_trans n1 hk, Nat.le_trans n2 hk, Nat.le_trans n3 hk, g0, g3, fun x hx => (g1 x hx).1, fun x hx => (g1 x hx).2, fun x hx => (g2 x hx).1, fun x hx => (g2 x hx).2⟩, ?_⟩
  simp only [rtlAV, R]
  exact ⟨_, rfl, RL.cons r0 (RL.cons r1 (RL.cons r2 (RL.cons r3 (RL.nil _))))⟩
end
end Go.RtlEnv

/- few: all that it says. -/
namespace Go.RtlEnv
open Go Go.Proofs Go.Abs Go.RowKit
set_option maxRecDepth 10000
def clampM (n : Int) : Int := if 5000 < (if 0 > n then 0 else n) then 5000 else (if 0 > n then 0 else n)
theorem clamp_le (n : Int) : 0 ≤ clampM n ∧ clampM n ≤ 5000 := by unfold clampM; repeat' split
                                                                  all_goals omega
def wordSz (w : GWord) : Int := clampM w.len + (w.bits.xs.length : Int) + (w.kids.xs.length : Int)
def holdSz (h : GHold) : Int := (h.init.xs.length : Int)
def sumOf {α : Type} (f : α → Int) (l : List α) : Int := (l.map f).sum
theorem sumOf_succ {α : Type} (f : α → Int) {l : List α} {i : Nat} (h : i < l.length) : sumOf f (l.take (i + 1)) = sumOf f (l.take i) + f l[i] := by
  unfold sumOf
  rw [List.take_succ_eq_append_getElem h, List.map_append, List.sum_append]; simp
theorem sumOf_le {α : Type} (f : α → Int) (B : Int) : ∀ {l : List α}, (∀ x ∈ l, 0 ≤ f x ∧ f x ≤ B) → 0 ≤ sumOf f l ∧ sumOf f l ≤ B * l.length
  | [], _ => by simp [sumOf]
  | x :: l, h => by
    have h1 := h x List.mem_cons_self
    have h2 := sumOf_le f B (l := l) fun y hy => h y (List.mem_cons_of_mem _ hy)
    unfold sumOf at *
    rw [List.map_cons, List.sum_cons, List.length_cons]
    have e : B * ((l.length + 1 : Nat) : Int) = B * (l.length : Int) + B := by rw [Int.natCast_add, Int.mul_add]; simp
    rw [e]; omega
theorem sumOf_mem {α : Type} (f : α → Int) : ∀ {l : List α}, (∀ x ∈ l, 0 ≤ f x) → ∀ x ∈ l, f x ≤ sumOf f l
  | [], _, _, h => by cases h
  | y :: l, h, x, hx => by
    have h0 := h y List.mem_cons_self
    have hn : 0 ≤ sumOf f l := by
      clear hx
      induction l with
      | nil => simp [sumOf]
      | cons z l ih =>
        have := ih fun q hq => h q (by rcases List.mem_cons.1 hq with rfl | hq; exact List.mem_cons_self; exact List.mem_cons_of_mem _ (List.mem_cons_of_mem _ hq))
        have := h z (List.mem_cons_of_mem _ List.mem_cons_self)
        unfold sumOf at *
        rw [List.map_cons, List.sum_cons]; omega
    have e : sumOf f (y :: l) = f y + sumOf f l := by unfold sumOf; rw [List.map_cons, List.sum_cons]
    rw [e]
    rcases List.mem_cons.1 hx with rfl | hx
    · omega
    · have := sumOf_mem f (l := l) (fun q hq => h q (List.mem_cons_of_mem _ hq)) x hx
      omega
theorem wrap4 (s a b c : Int) : IntKind.i64.wrap (IntKind.i64.wrap s + IntKind.i64.wrap (IntKind.i64.wrap (a + b) + c)) = IntKind.i64.wrap (s + (a + b + c)) := by
  rw [wrap_mod, wrap_mod, wrap_mod, wrap_mod, wrap_mod]; omega
structure FewS (r : GRtl) : Prop where
  few : Few r
  inits : ∀ x ∈ r.regs.xs, x.init.xs.length ≤ 20000
  kids : ∀ x ∈ r.words.xs, x.kids.xs.length ≤ 20000
  bits : ∀ x ∈ r.words.xs, x.bits.xs.length ≤ 20000
theorem fewS_of {r : GRtl} (hr : FitsW r) (hf : Few r) (h : IntKind.i64.wrap (sumOf wordSz r.words.xs + sumOf holdSz r.regs.xs) ≤ 20000) : FewS r := by
  have hw : ∀ w ∈ r.words.xs, 0 ≤ wordSz w ∧ wordSz w ≤ 300000000000000 := fun w hw => by
    have h1 := hr.kids w hw
    have h2 := hr.bits w hw
    have h3 := clamp_le w.len
    unfold wordSz; omega
  have hg : ∀ w ∈ r.regs.xs, 0 ≤ holdSz w ∧ holdSz w ≤ 300000000000000 := fun w hw => by
    have h1 := hr.inits w hw
    unfold holdSz; omega
  have s1 := sumOf_le wordSz _ hw
  have s2 := sumOf_le holdSz _ hg
  obtain ⟨f1, f2, f3, f4⟩ := hf
  rw [int_wrap (by omega) (by omega)] at h
  refine ⟨⟨f1, f2, f3, f4⟩, fun x hx => ?_, fun x hx => ?_, fun x hx => ?_⟩
  · have := sumOf_mem holdSz (fun y hy => (hg y hy).1) x hx
    have e : holdSz x = (x.init.xs.length : Int) := rfl
    omega
  · have := sumOf_mem wordSz (fun y hy => (hw y hy).1) x hx
    have h3 := clamp_le x.len
    have e : wordSz x = clampM x.len + (x.bits.xs.length : Int) + (x.kids.xs.length : Int) := rfl
    omega
  · have := sumOf_mem wordSz (fun y hy => (hw y hy).1) x hx
    have h3 := clamp_le x.len
    have e : wordSz x = clampM x.len + (x.bits.xs.length : Int) + (x.kids.xs.length : Int) := rfl
    omega
attribute [local irreducible] WS QS OS OD Abs.Sub SubO SubK CW GSl.av accA SegK
section
variable {pr : Prims} {L : List (Nat × AObj)} {K : List (Nat × Bool)}
set_option maxHeartbeats 4000000 in
theorem run8w (h1 : pr 8 = none) (r : GRtl) (hr : FitsW r) {st : St} (hS : SFa L K st) : CW (En pr) 8 [rtlAV r] st fun x st' => (∃ b, x = .bool b ∧ (b = true → FewS r)) ∧ SFa L K st' := by
  obtain ⟨f1, f2, f3, f4, _, _, _, _, _, _⟩ := hr.fits
  obtain ⟨g1, g2, g3⟩ := hr.len60
  have w1 := int_wrap (n := (r.ins.xs.length : Int) + r.regs.xs.length) (by omega) (by omega)
  have w2 := int_wrap (n := (r.ins.xs.length : Int) + r.regs.xs.length + r.outs.xs.length) (by omega) (by omega)
  refine CW.startS (N := 65) h1 rfl rfl hS ?_
  repeat' (first | (refine OS.do rfl ?_; first | refine OD.box rfl rfl rfl rfl (rtl_ok _) rfl (fun b1 => ?_) | refine OD.loadP 0 rfl rfl rfl rfl rfl rfl ?_ | refine OD.auto rfl rfl ?_ | refine OD.len rfl rfl (fun _ => lenTy_av rfl rfl) ?_) | refine OS.nil ?_ | refine WS.seq ?_ | refine QS.seqN ?_ | refine WS.region ?_ | refine WS.block ?_)
  refine WS.loop (D := Nat × Int) (fun d => [(3, .int .i64 d.2), (1, .ptr b1 0 0), (9, r.words.av 5 wordAV), (10, .int .i64 r.words.xs.length), (11, .int .i64 d.1)]) (fun _ => (b1, .row 4 [rtlAV r]) :: L) (fun _ => K)
    (fun d => d.1 ≤ r.words.xs.length ∧ d.2 = IntKind.i64.wrap (sumOf wordSz (r.words.xs.take d.1))) (fun d => r.words.xs.length + 1 - d.1) (0, 0) ⟨by omega, rfl⟩ ?_ (.refl _) (.refl _) ?_
  · repeat' (first | exact Sub.nil _ | refine Sub.cons (congrArg (fun z => some (AV.int .i64 z)) (wrap_succ (by omega))) ?_ | refine Sub.cons rfl ?_)
  rintro ⟨i, s⟩ ⟨hi, hs⟩
  dsimp only at hi hs ⊢
  repeat' (first | (refine OS.do rfl ?_; first | refine OD.loadP 0 rfl rfl rfl rfl rfl rfl ?_ | refine OD.auto rfl rfl ?_ | refine OD.len rfl rfl (fun _ => lenTy_av rfl rfl) ?_ | refine OD.indexAddr rfl rfl rfl (indexAddrA_nat rfl rfl rfl rfl (by first | assumption | exact List.getElem?_eq_getElem (by omega))) ?_ | refine OD.max rfl rfl rfl ?_ | refine OD.min rfl rfl rfl ?_ | refine OD.alloc rfl rfl rfl rfl (fun _ => ?_) | refine OD.storeW 0 rfl rfl rfl rfl (by first | rfl | exact hold_ok _ | exact word_ok _ | exact rtl_ok _) rfl rfl rfl ?_) | refine OS.nil ?_ | refine WS.seq ?_ | refine QS.seqN ?_ | refine WS.region ?_ | refine WS.condD rfl (fun _ => ?_) (fun _ => ?_) | refine WS.skip ?_ | refine WS.block ?_ | refine QS.blockN ?_ | refine WS.exit ?_ | refine QS.seqE ?_ | refine QS.blockH ?_ | refine QS.loopE ?_)
  · have hlt : i < r.words.xs.length := by omega
    refine QS.loopN (i + 1, IntKind.i64.wrap (s + IntKind.i64.wrap (IntKind.i64.wrap ((if 5000 < (if 0 > (r.words.xs[i]).len then 0 else (r.words.xs[i]).len) then 5000 else (if 0 > (r.words.xs[i]).len then 0 else (r.words.xs[i]).len)) + ((r.words.xs[i]).bits.xs.length : Int)) + ((r.words.xs[i]).kids.xs.length : Int)))) ?_ ?_ ?_ ?_ ?_
    · refine ⟨by dsimp only; omega, ?_⟩
      dsimp only
      rw [sumOf_succ wordSz hlt, hs, wrap4]; rfl
    · dsimp only; omega
    · refine Sub.cons rfl ?_
      repeat' (first | exact Sub.nil _ | refine Sub.cons (congrArg (fun z => some (AV.int .i64 z)) (wrap_succ (by omega))) ?_ | refine Sub.cons rfl ?_)
    · exact .drop (.refl _)
    · exact .refl _
  have hT : r.words.xs.take i = r.words.xs := List.take_of_length_le (by omega)
  rw [hT] at hs
  rename_i hh
  clear hh hi hT
  refine WS.loop (D := Nat × Int) (fun d => [(3, .int .i64 d.2), (1, .ptr b1 0 0), (31, r.regs.av 3 holdAV), (32, .int .i64 r.regs.xs.length), (33, .int .i64 d.1)]) (fun _ => (b1, .row 4 [rtlAV r]) :: L) (fun _ => K)
    (fun d => d.1 ≤ r.regs.xs.length ∧ d.2 = IntKind.i64.wrap (sumOf wordSz r.words.xs + sumOf holdSz (r.regs.xs.take d.1))) (fun d => r.regs.xs.length + 1 - d.1) (0, s) ⟨by omega, by dsimp only; rw [hs]; simp [sumOf]⟩ ?_ (.refl _) (.refl _) ?_
  · repeat' (first | exact Sub.nil _ | refine Sub.cons (congrArg (fun z => some (AV.int .i64 z)) (wrap_succ (by omega))) ?_ | refine Sub.cons rfl ?_)
  rintro ⟨i, s⟩ ⟨hi, hs⟩
  dsimp only at hi hs ⊢
  repeat' (first | (refine OS.do rfl ?_; first | refine OD.loadP 0 rfl rfl rfl rfl rfl rfl ?_ | refine OD.auto rfl rfl ?_ | refine OD.len rfl rfl (fun _ => lenTy_av rfl rfl) ?_ | refine OD.indexAddr rfl rfl rfl (indexAddrA_nat rfl rfl rfl rfl (by first | assumption | exact List.getElem?_eq_getElem (by omega))) ?_ | refine OD.alloc rfl rfl rfl rfl (fun _ => ?_) | refine OD.storeW 0 rfl rfl rfl rfl (by first | rfl | exact hold_ok _ | exact word_ok _ | exact rtl_ok _) rfl rfl rfl ?_) | refine OS.nil ?_ | refine OS.skip rfl rfl rfl ?_ | refine WS.seq ?_ | refine QS.seqN ?_ | refine WS.region ?_ | refine WS.condD rfl (fun _ => ?_) (fun _ => ?_) | refine WS.skip ?_ | refine WS.block ?_ | refine WS.ret ?_ | refine QS.blockN ?_ | refine WS.exit ?_ | refine QS.seqE ?_ | refine QS.blockH ?_ | refine QS.loopE ?_ | ((fail_if_success (refine OS.do rfl ?_)); first | refine OS.splitD rfl rfl rfl (fun _ => ?_) (fun _ => ?_)))
  · have hlt : i < r.regs.xs.length := by omega
    refine QS.loopN (i + 1, IntKind.i64.wrap (s + ((r.regs.xs[i]).init.xs.length : Int))) ?_ ?_ ?_ ?_ ?_
    · refine ⟨by dsimp only; omega, ?_⟩
      dsimp only
      rw [sumOf_succ holdSz hlt, hs, wrap_wrap]
      unfold holdSz
      congr 1; omega
    · dsimp only; omega
    · refine Sub.cons rfl ?_
      repeat' (first | exact Sub.nil _ | refine Sub.cons (congrArg (fun z => some (AV.int .i64 z)) (wrap_succ (by omega))) ?_ | refine Sub.cons rfl ?_)
    · exact .drop (.refl _)
    · exact .refl _
  all_goals try (refine QS.retRS (by rfl) fun st hS => ⟨⟨_, rfl, fun hb => ?_⟩, sfa_drop hS⟩)
  all_goals first
    | cases hb
    | (rename_i hq; rw [w1, w2] at hq
       have hT : r.regs.xs.take i = r.regs.xs := List.take_of_length_le (by omega)
       rw [hT] at hs
       subst hs
       exact fewS_of hr ⟨by omega, by omega, by omega, by omega⟩ (of_decide_eq_true hb))
end
end Go.RtlEnv

/- Copies of any bits; whether all are known. -/
namespace Go.RtlEnv
open Go Go.Proofs Go.Abs Go.RowKit
set_option maxRecDepth 10000
/-- What a copy is. -/
def cloneG (s : GSl UInt8) : GSl UInt8 := if s.nil = some true then s else nz s.xs
theorem clone_xs (s : GSl UInt8) : (cloneG s).xs = s.xs := by unfold cloneG; split <;> rfl
/-- append of nothing to a whole slice. -/
theorem OD.appendFull0 {E : Env} {N : Nat} {l : List (Nat × AV)} {L : List (Nat × AObj)} {K : List (Nat × Bool)} {Q : AExit → TM → St → Prop} {pol : Nat → Nat} {ops : Array Oper} {r : List Oper} {i : Nat} {d : Nat} {ty : TypeId} {pos : String} {after : Array Edge} {guard : Option (Nat × Bool)}
    {ts tx e e' : TypeId} {s x : Operand} {b : AV} {sz z : Nat} {tys tyx et : Ty} (hn : Nat.blt d N = true) (hpol : Nat.beq (pol i) 1 = false) (hs : evL l s = some (.vs sz .full [])) (hx : evL l x = some b) (h1 : E.ty ts = some tys) (h2 : E.ty tx = some tyx) (h3 : tys.d = .slice e) (h4 : E.ty e = some et) (h5 : Nat.blt 0 et.size = true) (hz : sz = et.size) (h6 : tyx.d = .slice e') (h7 : isStrA b = false) (h8 : ∀ st, elemsA st b = some (z, [])) (hroom : roomA et 0 = true)
    (k : OS E false pol ops r (i + 1) N ((d, .vs sz .full []) :: l) L K Q) :
    OD E false pol ops { dst := some d, op := .call { callee := .builtin .append, args := #[s, x], argTypes := #[ts, tx] }, type := ty, pos := pos, after := after, guard := guard } r i N l L K Q := by
  refine .loud rfl rfl (fun _ h => by cases h) fun tm st hF => ?_
  have h0 : Abs.loud E noCall (pol i) tm st { dst := some d, op := .call { callee := .builtin .append, args := #[s, x], argTypes := #[ts, tx] }, type := ty, pos := pos, after := after, guard := guard } = appendOpA E (pol i == 1) st ts tx (Abs.evalO tm s) (Abs.evalO tm x) := rfl
  have hp : (pol i == 1) = false := by
    have := Nat.ne_of_beq_eq_false hpol
    simpa using this
  rw [h0, hF.ev hs, hF.ev hx, hp]
  refine ⟨_, st, _, L, K, ?_, hF.put hn _, k⟩
  unfold appendOpA
  rw [h1, h2]
  dsimp only
  rw [h3]
  dsimp only
  rw [h4]
  dsimp only
  rw [if_pos (Eq.mp Nat.blt_eq h5), h6]
  dsimp only
  rw [h8 st]
  dsimp only
  rw [if_pos ⟨rfl, rfl, by simp [h7]⟩]
  simp only [appendA]
  rw [if_pos ⟨hz, hroom⟩]
  rfl
attribute [local irreducible] WS QS OS OD Abs.Sub SubO SubK CW GSl.av accA SegK
section
variable {pr : Prims}
theorem run46e (h1 : pr 46 = none) (A : AV) (hA : A = .es ∨ A = .vs 1 .any []) (st : St) : CW (En pr) 46 [A] st fun r _ => r = .vs 1 .full [] := by
  rcases hA with rfl | rfl
  · refine CW.start (N := 8) h1 rfl rfl ?_
    repeat' (first | (refine OS.do rfl ?_; first | refine OD.appendFull0 rfl rfl rfl rfl rfl rfl rfl rfl rfl rfl rfl rfl (fun _ => rfl) rfl ?_ | refine OD.auto rfl rfl ?_) | refine OS.nil ?_ | refine WS.seq ?_ | refine QS.seqN ?_ | refine WS.region ?_ | refine WS.condF rfl ?_ | refine WS.skip ?_ | refine WS.ret ?_)
    exact QS.retR (by rfl) fun _ => rfl
  · refine CW.start (N := 8) h1 rfl rfl ?_
    repeat' (first | (refine OS.do rfl ?_; first | refine OD.appendFull0 rfl rfl rfl rfl rfl rfl rfl rfl rfl rfl rfl rfl (fun _ => rfl) rfl ?_ | refine OD.auto rfl rfl ?_) | refine OS.nil ?_ | refine WS.seq ?_ | refine QS.seqN ?_ | refine WS.region ?_ | refine WS.condF rfl ?_ | refine WS.skip ?_ | refine WS.ret ?_)
    exact QS.retR (by rfl) fun _ => rfl
theorem run46n (h1 : pr 46 = none) (st : St) : CW (En pr) 46 [.nilsl] st fun r _ => r = .nilsl := by
  refine CW.start (N := 8) h1 rfl rfl ?_
  repeat' (first | (refine OS.do rfl ?_; first | refine OD.auto rfl rfl ?_) | refine OS.nil ?_ | refine WS.seq ?_ | refine QS.seqN ?_ | refine WS.region ?_ | refine WS.condT rfl ?_ | refine WS.ret ?_ | refine QS.seqR ?_)
  exact QS.retR (by rfl) fun _ => rfl
def Rel46g : Rel := fun a x => ∃ s : GSl UInt8, s.xs.length ≤ 1000000 ∧ a = [s.av 1 bitAV] ∧ x = (cloneG s).av 1 bitAV
theorem av_some {s : GSl UInt8} {b : Bool} (h : s.nil = some b) : s.av 1 bitAV = if b then .nilsl else .es := by
  unfold GSl.av
  rw [h]
  cases b <;> rfl
theorem av_none {s : GSl UInt8} (h : s.nil = none) : s.av 1 bitAV = .vs 1 .any (s.xs.map bitAV) := by
  unfold GSl.av
  rw [h]
theorem con46g (h : pr 46 = none) : Con2 (En pr) 46 Rel46g :=
  ⟨by rintro a x ⟨s, _, rfl, rfl⟩; simp [AV.freeL, free_av bit_free], by
    rintro a x ⟨s, h1, rfl, rfl⟩
    by_cases h0 : s.xs = []
    · match hn : s.nil with
      | some true =>
        have e : cloneG s = s := by unfold cloneG; rw [if_pos hn]
        rw [e, av_some hn]
        refine (run46n h _).mono fun x st e => ?_
        subst e
        exact ⟨_, _, rfl, rfl, rfl⟩
      | some false =>
        have e : cloneG s = nz s.xs := by unfold cloneG; rw [if_neg (by rw [hn]; simp)]
        rw [e, av_some hn, nz_av, h0]
        refine (run46e h _ (.inl rfl) _).mono fun x st e => ?_
        subst e
        exact ⟨_, _, rfl, rfl, rfl⟩
      | none =>
        have e : cloneG s = nz s.xs := by unfold cloneG; rw [if_neg (by rw [hn]; simp)]
        rw [e, av_none hn, nz_av, h0]
        refine (run46e h _ (.inr rfl) _).mono fun x st e => ?_
        subst e
        exact ⟨_, _, rfl, rfl, rfl⟩
    · have e : cloneG s = nz s.xs := by
        unfold cloneG
        rw [if_neg]
        intro hn
        exact h0 (s.h (by rw [hn]; simp))
      rw [e]
      have hq : s.nil = none := by
        cases hq : s.nil with
        | none => rfl
        | some b => exact absurd (s.h (by rw [hq]; simp)) h0
      have e2 := av_none hq
      rw [e2]
      exact (run46 h s.xs h0 h1 _).mono fun x st ⟨t, e⟩ => by subst e; exact Res.tok⟩
def Rel48 : Rel := fun a x => ∃ s : GSl UInt8, s.xs.length < 9223372036854775808 ∧ a = [s.av 1 bitAV] ∧ x = .bool (!(upto 1 s.xs))
theorem run48 (h1 : pr 48 = none) {p49 : List AV → St → Option (AV × St)} (h49 : pr 49 = some p49) (s : GSl UInt8) (u49 : ∀ st, p49 [s.av 1 bitAV, .int .i64 (s.xs.length : Int)] st = some (.bool (upto 1 s.xs), st)) (st : St) : CW (En pr) 48 [s.av 1 bitAV] st fun r _ => r = .bool (!(upto 1 s.xs)) := by
  refine CW.start (N := 8) h1 rfl rfl ?_
  repeat' (first | (refine OS.do rfl ?_; first | refine OD.auto rfl rfl ?_ | refine OD.len rfl rfl (fun _ => lenTy_av rfl rfl) ?_ | refine OD.call rfl rfl rfl h49 u49 (fun _ => rfl) ?_) | refine OS.nil ?_ | refine WS.seq ?_ | refine QS.seqN ?_ | refine WS.region ?_ | refine WS.ret ?_)
  exact QS.retR (by rfl) fun _ => rfl
theorem con48 {p1 : Prims} (h : pr 48 = none) (h49 : pr 49 = some (primOf Rel49)) (c49 : Con (En p1) 49 Rel49) : Con (En pr) 48 Rel48 :=
  ⟨by rintro a x ⟨s, _, rfl, rfl⟩; simp [AV.freeL, free_av bit_free], by
    rintro a x ⟨s, hs, rfl, rfl⟩
    refine boolQ (run48 h h49 s (fun st => c49.use ⟨s, (s.xs.length : Int), hs, by simp [AV.plainL, plain_av bit_plain, AV.plain], ?_⟩ st) _)
    simp [knownM]⟩
/-- All rows are known. -/
def allKnown (l : List (List UInt8)) : Bool := l.all (upto 1)
theorem run65 (h1 : pr 65 = none) {p48 : List AV → St → Option (AV × St)} (h48 : pr 48 = some p48) (s : GSl (GSl UInt8)) (hs : FitsR s) (u48 : ∀ x ∈ s.xs, ∀ st, p48 [x.av 1 bitAV] st = some (.bool (!(upto 1 x.xs)), st)) (st : St) :
    CW (En pr) 65 [rowsAV s, .fn 48 [] []] st fun r _ => ∃ k : Int, r = .int .i64 k ∧ decide (k ≥ 0) = !(allKnown (vals s)) := by
  obtain ⟨f1, f2⟩ := hs
  have hvs := vals_len s
  unfold rowsAV
  refine CW.start (N := 19) h1 rfl rfl ?_
  repeat' (first | (refine OS.do rfl ?_; first | refine OD.auto rfl rfl ?_ | refine OD.len rfl rfl (fun _ => lenTy_av rfl rfl) ?_) | refine OS.nil ?_ | refine WS.seq ?_ | refine QS.seqN ?_ | refine WS.region ?_ | refine WS.block ?_)
  refine WS.loop (D := Nat) (fun i => [(0, s.av 1 fun x => x.av 1 bitAV), (1, .fn 48 [] []), (7, .int .i64 s.xs.length), (8, .int .i64 i)]) (fun _ => []) (fun _ => [])
    (fun i => i ≤ s.xs.length ∧ ((vals s).take i).all (upto 1) = true) (fun i => s.xs.length + 1 - i) 0 ⟨by omega, by simp⟩ ?_ (.nil _) (.nil _) ?_
  · repeat' (first | exact Sub.nil _ | refine Sub.cons (congrArg (fun z => some (AV.int .i64 z)) (wrap_succ (by omega))) ?_ | refine Sub.cons rfl ?_)
  rintro i ⟨hi, ha⟩
  repeat' (first | (refine OS.do rfl ?_; first | refine OD.indexAddr rfl rfl rfl (indexAddrA_natS rfl rfl rfl rfl (by first | assumption | exact List.getElem?_eq_getElem (by omega))) ?_ | refine OD.auto rfl rfl ?_ | refine OD.call rfl rfl rfl h48 (u48 _ (List.getElem_mem (by omega))) (fun _ => rfl) ?_) | refine OS.nil ?_ | refine WS.seq ?_ | refine QS.seqN ?_ | refine WS.region ?_ | refine WS.condD rfl (fun _ => ?_) (fun _ => ?_) | refine WS.skip ?_ | refine WS.block ?_ | refine WS.ret ?_ | refine QS.seqR ?_ | refine QS.blockR ?_ | refine QS.loopR ?_ | refine QS.blockN ?_ | refine WS.exit ?_ | refine QS.seqE ?_ | refine QS.blockH ?_ | refine QS.loopE ?_ | refine WS.condN rfl (fun _ => ?_) (fun _ => ?_))
  · rename_i hq
    have hlt : i < s.xs.length := by omega
    refine QS.retR (by rfl) fun _ => ⟨_, rfl, ?_⟩
    have hb : allKnown (vals s) = false := all_false (xs := vals s) (i := i) (by omega) (by rw [vals_get s i hlt]; simpa using hq)
    rw [hb]; simp
  · rename_i hq
    have hlt : i < s.xs.length := by omega
    refine QS.loopN (i + 1) ?_ ?_ ?_ ?_ ?_
    · exact ⟨by omega, all_take_succ (by omega) ha (by rw [vals_get s i hlt]; simpa using hq)⟩
    · omega
    · repeat' (first | exact Sub.nil _ | refine Sub.cons (congrArg (fun z => some (AV.int .i64 z)) (wrap_succ (by omega))) ?_ | refine Sub.cons rfl ?_)
    · exact .nil _
    · exact .nil _
  · refine QS.retR (by rfl) fun _ => ⟨_, rfl, ?_⟩
    have hb : allKnown (vals s) = true := all_of_take (i := i) (by omega) ha
    rw [hb]; rfl
theorem run47 (h1 : pr 47 = none) (h65 : pr 65 = none) {p48 : List AV → St → Option (AV × St)} (h48 : pr 48 = some p48) (s : GSl (GSl UInt8)) (hs : FitsR s) (u48 : ∀ x ∈ s.xs, ∀ st, p48 [x.av 1 bitAV] st = some (.bool (!(upto 1 x.xs)), st)) (st : St) :
    CW (En pr) 47 [rowsAV s, .fn 48 [] []] st fun r _ => r = .bool (!(allKnown (vals s))) := by
  refine CW.start (N := 9) h1 rfl rfl ?_
  repeat' (first | (refine OS.do rfl ?_; first | refine OD.auto rfl rfl ?_ | (refine OD.callP (fun r => ∃ k : Int, r = .int .i64 k ∧ decide (k ≥ 0) = !(allKnown (vals s))) rfl rfl rfl (fun st hS => (run65 h65 h48 s hs u48 st).mono fun _ _ h => ⟨h, ⟨fun _ _ _ h => (by simp at h), fun _ _ _ _ _ h => (by simp at h), fun _ _ h => (by simp at h), fun _ _ _ h => (by simp at h)⟩⟩) (by rintro v st ⟨k, rfl, _⟩; rfl) ?_; rintro v ⟨k, rfl, hk⟩)) | refine OS.nil ?_ | refine WS.seq ?_ | refine QS.seqN ?_ | refine WS.region ?_ | refine WS.ret ?_)
  all_goals (refine QS.retR (by rfl) fun _ => ?_; show AV.bool _ = _; rw [hk])
def Rel47 : Rel := fun a x => ∃ s : GSl (GSl UInt8), FitsR s ∧ a = [rowsAV s, .fn 48 [] []] ∧ x = .bool (!(allKnown (vals s)))
theorem con47 {p1 : Prims} (h : pr 47 = none) (h65 : pr 65 = none) (h48 : pr 48 = some (primOf Rel48)) (c48 : Con (En p1) 48 Rel48) : Con (En pr) 47 Rel47 :=
  ⟨by rintro a x ⟨s, _, rfl, rfl⟩; simp [AV.freeL, rowsAV_free, AV.free], by
    rintro a x ⟨s, hs, rfl, rfl⟩
    exact boolQ (run47 h h65 h48 s hs (fun x hx st => c48.use ⟨x, hs.each x hx, by simp [AV.plainL, plain_av bit_plain], rfl⟩ st) _)⟩
end
end Go.RtlEnv
