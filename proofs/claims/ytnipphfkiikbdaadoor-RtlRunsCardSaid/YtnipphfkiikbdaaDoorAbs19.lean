/- Own text of this claim: part 19 of an interpreter that is proved sound against the model, and of what it shows of the law. -/
import Derived.Test.YtnipphfkiikbdaaDoorAbs18
/- Words' values, in plain Lean: how long they are, and that they are bits. -/
namespace Go.RtlEnv
open Go Go.Proofs Go.Abs Go.RowKit
set_option maxRecDepth 10000
theorem b01 {b : UInt8} (h : b.toNat ≤ 1) : b = 0 ∨ b = 1 := by
  have : b.toNat = 0 ∨ b.toNat = 1 := by omega
  rcases this with h | h
  · exact .inl (UInt8.toNat_inj.1 h)
  · exact .inr (UInt8.toNat_inj.1 h)
theorem upto_mem {m : Nat} {l : List UInt8} : upto m l = true ↔ ∀ b ∈ l, b.toNat ≤ m := by simp [upto]
theorem upto_inv {l : List UInt8} (h : upto 1 l = true) : upto 1 (invM l) = true := by
  rw [upto_mem] at h ⊢
  intro b hb
  obtain ⟨a, ha, rfl⟩ := List.mem_map.1 hb
  rcases b01 (h a ha) with rfl | rfl <;> decide
theorem upto_add : ∀ (x y : List UInt8) (c : UInt8), upto 1 (addM x y c) = true
  | [], _, _ => by simp [addM, upto]
  | _ :: _, [], _ => by simp [addM, upto]
  | a :: x, b :: y, c => by
    have ih := upto_add x y ((a + b + c) / 2)
    simp only [addM, upto, List.all_cons, Bool.and_eq_true, decide_eq_true_eq] at ih ⊢
    refine ⟨?_, ih⟩
    rw [UInt8.toNat_mod]
    have : ((2 : UInt8).toNat) = 2 := rfl
    rw [this]; omega
theorem upto_zip {op : Int} {x y : List UInt8} (hx : upto 1 x = true) (hy : upto 1 y = true) : upto 1 (List.zipWith (bitM op) x y) = true := by
  rw [upto_mem] at *
  intro b hb
  obtain ⟨i, hi, rfl⟩ := List.mem_iff_getElem.1 hb
  rw [List.getElem_zipWith]
  have h1 := hx _ (List.getElem_mem (show i < x.length by simp at hi; omega))
  have h2 := hy _ (List.getElem_mem (show i < y.length by simp at hi; omega))
  unfold bitM
  rcases b01 h1 with e1 | e1 <;> rcases b01 h2 with e2 | e2 <;> rw [e1, e2] <;> (repeat' split) <;> decide
theorem upto_left {l : List UInt8} {n : Int} (h : upto 1 l = true) : upto 1 (leftM l n) = true := by
  rw [upto_mem] at *
  intro b hb
  obtain ⟨i, hi, rfl⟩ := List.mem_iff_getElem.1 hb
  rw [leftM_at]
  unfold leftAt
  split
  · rename_i hc
    rw [getD_at (show ((i : Int) - n).toNat < l.length by omega)]
    exact h _ (List.getElem_mem _)
  · decide
theorem upto_rep (n : Nat) : upto 1 (List.replicate n 0) = true := by
  rw [upto_mem]
  intro b hb
  rw [List.eq_of_mem_replicate hb]; decide
theorem upto_mul (x y : List UInt8) : ∀ i, upto 1 (mulS x y i) = true
  | 0 => upto_rep _
  | i + 1 => by
    simp only [mulS]
    split
    · exact upto_add _ _ _
    · exact upto_mul x y i
theorem upto_one (b : Bool) : upto 1 (oneM b) = true := by cases b <;> decide
theorem upto_flat {ls : List (List UInt8)} (h : ∀ x ∈ ls, upto 1 x = true) : upto 1 ls.flatten = true := by
  rw [upto_mem]
  intro b hb
  obtain ⟨x, hx, hb⟩ := List.mem_flatten.1 hb
  exact upto_mem.1 (h x hx) b hb
theorem upto_drop {m : Nat} {l : List UInt8} (h : upto m l = true) (i : Nat) : upto m (l.drop i) = true := by
  rw [upto_mem] at *
  exact fun b hb => h b (List.mem_of_mem_drop hb)
theorem kd0_mem {op len n : Int} {k : List (List UInt8)} (hk : KidsOk op len n k) {i : Nat} (h : i < k.length) : upto 1 (kd k i) = true ∧ 1 ≤ (kd k i).length ∧ (kd k i).length ≤ 4096 := hk.each _ (kd_mem h)
theorem kids_n {op len n : Int} {k : List (List UInt8)} (hk : KidsOk op len n k) (h2 : op ≠ 2) (h3 : op ≠ 3) :
    (op = 1 ∧ k.length = 0) ∨ (op = 4 ∧ k.length = 1) ∨ ((5 ≤ op ∧ op ≤ 10) ∧ k.length = 2) ∨ ((op = 11 ∨ op = 12) ∧ k.length = 2) ∨ (op = 13 ∧ k.length = 3) ∨ (op = 14 ∧ 1 ≤ k.length ∧ k.length ≤ 500) ∨ (op = 15 ∧ k.length = 1) ∨ ((op = 16 ∨ op = 17) ∧ k.length = 2) := by
  have h := hk.count
  unfold okKids kids57 at h
  rw [decide_eq_true_eq] at h
  repeat' split at h
  all_goals (dsimp only at h; omega)
theorem evalM_ok {op len n : Int} {bits : List UInt8} {k : List (List UInt8)} (hk : KidsOk op len n k) (h2 : op ≠ 2) (h3 : op ≠ 3) (hb : op = 1 → (bits.length : Int) = len ∧ upto 1 bits = true) : ((evalM op len n bits k).length : Int) = len ∧ upto 1 (evalM op len n bits k) = true := by
  rcases kids_n hk h2 h3 with ⟨rfl, hc⟩ | ⟨rfl, hc⟩ | ⟨ho, hc⟩ | ⟨ho, hc⟩ | ⟨rfl, hc⟩ | ⟨rfl, hc⟩ | ⟨rfl, hc⟩ | ⟨ho, hc⟩
  · exact hb rfl
  · have h0 := kd0_mem hk (i := 0) (by omega)
    have l0 := hk.same (by omega) (kd k 0) (kd_mem (by omega))
    exact ⟨by show ((invM (kd k 0)).length : Int) = len; unfold invM; rw [List.length_map]; exact l0, upto_inv h0.1⟩
  · have h0 := kd0_mem hk (i := 0) (by omega)
    have h1 := kd0_mem hk (i := 1) (by omega)
    have l0 := hk.same (by omega) (kd k 0) (kd_mem (by omega))
    have l1 := hk.same (by omega) (kd k 1) (kd_mem (by omega))
    have : op = 5 ∨ op = 6 ∨ op = 7 ∨ op = 8 ∨ op = 9 ∨ op = 10 := by omega
    rcases this with rfl | rfl | rfl | rfl | rfl | rfl
    · exact ⟨by show ((List.zipWith (bitM 5) (kd k 0) (kd k 1)).length : Int) = len; rw [List.length_zipWith]; omega, upto_zip h0.1 h1.1⟩
    · exact ⟨by show ((List.zipWith (bitM 6) (kd k 0) (kd k 1)).length : Int) = len; rw [List.length_zipWith]; omega, upto_zip h0.1 h1.1⟩
    · exact ⟨by show ((List.zipWith (bitM 7) (kd k 0) (kd k 1)).length : Int) = len; rw [List.length_zipWith]; omega, upto_zip h0.1 h1.1⟩
    · exact ⟨by show ((addM (kd k 0) (kd k 1) 0).length : Int) = len; rw [addM_len _ _ _ (by omega)]; omega, upto_add _ _ _⟩
    · exact ⟨by show ((addM (kd k 0) (invM (kd k 1)) 1).length : Int) = len; rw [addM_len _ _ _ (by simp only [invM, List.length_map]; omega)]; omega, upto_add _ _ _⟩
    · exact ⟨by show ((mulS (kd k 0) (kd k 1) (kd k 1).length).length : Int) = len; rw [mulS_len]; omega, upto_mul _ _ _⟩
  · have hl := (hk.cmp ho).1
    rcases ho with rfl | rfl
    · exact ⟨by rw [hl]; rfl, upto_one _⟩
    · exact ⟨by rw [hl]; rfl, upto_one _⟩
  · have h1 := kd0_mem hk (i := 1) (by omega)
    have h2 := kd0_mem hk (i := 2) (by omega)
    have hl := hk.mux rfl
    show (((if (kd k 0).getD 0 0 = 1 then kd k 1 else kd k 2).length : Nat) : Int) = len ∧ upto 1 (if (kd k 0).getD 0 0 = 1 then kd k 1 else kd k 2) = true
    split
    · exact ⟨hl.2.1, h1.1⟩
    · exact ⟨hl.2.2, h2.1⟩
  · exact ⟨hk.join rfl, upto_flat fun x hx => (hk.each x hx).1⟩
  · have h0 := kd0_mem hk (i := 0) (by omega)
    have hp := hk.part rfl
    have hs := hk.size
    exact ⟨by show ((((kd k 0).drop n.toNat).take len.toNat).length : Int) = len; rw [List.length_take, List.length_drop]; omega, upto_take (upto_drop h0.1 _) _⟩
  · have h0 := kd0_mem hk (i := 0) (by omega)
    have hs := hk.shift ho
    rcases ho with rfl | rfl
    · exact ⟨by show ((leftM (kd k 0) _).length : Int) = len; rw [leftM_len]; omega, upto_left h0.1⟩
    · exact ⟨by show ((leftM (kd k 0) _).length : Int) = len; rw [leftM_len]; omega, upto_left h0.1⟩
/-- A word's value, of those before it. -/
def valW (ins regs : List (List UInt8)) (w : GWord) (out : List (List UInt8)) : List UInt8 :=
  if w.op = 2 then ins.getD w.n.toNat [] else if w.op = 3 then regs.getD w.n.toNat [] else evalM w.op w.len w.n w.bits.xs (w.kids.xs.map fun k => out.getD k.toNat [])
def outM (ins regs : List (List UInt8)) (ws : List GWord) : Nat → List (List UInt8)
  | 0 => []
  | i + 1 => outM ins regs ws i ++ (match ws[i]? with | some w => [valW ins regs w (outM ins regs ws i)] | none => [])
theorem outM_succ {ins regs : List (List UInt8)} {ws : List GWord} {i : Nat} (h : i < ws.length) : outM ins regs ws (i + 1) = outM ins regs ws i ++ [valW ins regs ws[i] (outM ins regs ws i)] := by
  simp only [outM, List.getElem?_eq_getElem h]
theorem outM_len {ins regs : List (List UInt8)} {ws : List GWord} : ∀ {i : Nat}, i ≤ ws.length → (outM ins regs ws i).length = i
  | 0, _ => rfl
  | i + 1, h => by rw [outM_succ (by omega), List.length_append, outM_len (by omega)]; rfl
/-- What is known of the values of the first words. -/
def OutOk (ws : List GWord) (i : Nat) (out : List (List UInt8)) : Prop := out.length = i ∧ ∀ (k : Nat) (w : GWord) (x : List UInt8), ws[k]? = some w → out[k]? = some x → (x.length : Int) = w.len ∧ upto 1 x = true ∧ 1 ≤ x.length ∧ x.length ≤ 4096
theorem sumW_small : ∀ (l : List Int) (s : Int), 0 ≤ s → (∀ x ∈ l, 0 ≤ x ∧ x ≤ 4096) → s + 4096 * l.length < 9223372036854775808 → List.foldl (fun s x => IntKind.i64.wrap (s + x)) s l = s + l.sum
  | [], s, _, _, _ => by simp
  | x :: l, s, h0, h1, h2 => by
    have hx := h1 x List.mem_cons_self
    simp only [List.length_cons] at h2
    simp only [List.foldl_cons]
    rw [int_wrap (by omega) (by omega), sumW_small l (s + x) (by omega) (fun y hy => h1 y (List.mem_cons_of_mem _ hy)) (by omega), List.sum_cons]
    omega
theorem flat_sum : ∀ (ls : List (List UInt8)), (ls.flatten.length : Int) = (ls.map fun x => (x.length : Int)).sum
  | [] => rfl
  | x :: ls => by
    rw [List.flatten_cons, List.length_append, List.map_cons, List.sum_cons, ← flat_sum ls]
    omega
theorem wordM_parts {r : GRtl} {i : Nat} {w : GWord} (hw : r.words.xs[i]? = some w) (hv : wordM r i = true) :
    okKids w.op w.kids.xs.length = true ∧ (1 ≤ w.len ∧ w.len ≤ 4096) ∧ (∀ x ∈ w.kids.xs, 0 ≤ x ∧ x < (i : Int)) ∧ finalM r w.op w.len w.n w.bits.xs (w.kids.xs.map (wlen r.words.xs)) (sumW (w.kids.xs.map (wlen r.words.xs))) = true := by
  rw [wordM_at hw] at hv
  simp only [wordW, headM, Bool.and_eq_true, decide_eq_true_eq, List.all_eq_true, kidIn] at hv
  obtain ⟨⟨⟨⟨⟨a, b⟩, c⟩, d⟩, e⟩, f⟩ := hv
  exact ⟨a, b, d, f⟩
theorem kids_ok {r : GRtl} {i : Nat} {w : GWord} (hw : r.words.xs[i]? = some w) (hv : wordM r i = true) {out : List (List UInt8)} (ho : OutOk r.words.xs i out) (h2 : w.op ≠ 2) (h3 : w.op ≠ 3) :
    KidsOk w.op w.len w.n (w.kids.xs.map fun k => out.getD k.toNat []) := by
  obtain ⟨hc, hl, hin, hf⟩ := wordM_parts hw hv
  have hi : i < r.words.xs.length := (List.getElem?_eq_some_iff.1 hw).1
  have key : ∀ x ∈ w.kids.xs, ((out.getD x.toNat []).length : Int) = wlen r.words.xs x ∧ upto 1 (out.getD x.toNat []) = true ∧ 1 ≤ (out.getD x.toNat []).length ∧ (out.getD x.toNat []).length ≤ 4096 := by
    intro x hx
    have hx' := hin x hx
    have hlt : x.toNat < out.length := by rw [ho.1]; omega
    have hlt' : x.toNat < r.words.xs.length := by omega
    have := ho.2 x.toNat _ _ (List.getElem?_eq_getElem hlt') (List.getElem?_eq_getElem hlt)
    rw [List.getD_eq_getElem?_getD, List.getElem?_eq_getElem hlt, Option.getD_some, wlen_at hlt']
    exact this
  have hkd : ∀ j, j < w.kids.xs.length → ((kd (w.kids.xs.map fun k => out.getD k.toNat []) j).length : Int) = at0 (w.kids.xs.map (wlen r.words.xs)) j := by
    intro j hj
    rw [at0_eq (by simpa using hj), List.getElem_map]
    unfold kd
    rw [List.getD_eq_getElem?_getD, List.getElem?_map, List.getElem?_eq_getElem hj]
    exact (key _ (List.getElem_mem hj)).1
  have hsum : sumW (w.kids.xs.map (wlen r.words.xs)) = ((w.kids.xs.map fun k => out.getD k.toNat []).flatten.length : Int) := by
    have hle := okKids_le hc
    unfold sumW
    rw [sumW_small _ _ (by omega) (fun x hx => ?_) (by rw [List.length_map]; omega), flat_sum, List.map_map, Int.zero_add]
    · congr 1
      refine List.map_congr_left fun x hx => ?_
      exact ((key x hx).1).symm
    · obtain ⟨y, hy, rfl⟩ := List.mem_map.1 hx
      have := key y hy
      omega
  refine ⟨hl, by rw [List.length_map]; exact hc, fun x hx => ?_, fun ho => ?_, fun ho => ?_, fun ho => ?_, fun ho => ?_, fun ho => ?_, fun ho => ?_⟩
  · obtain ⟨y, hy, rfl⟩ := List.mem_map.1 hx
    exact (key y hy).2
  · intro x hx
    obtain ⟨y, hy, rfl⟩ := List.mem_map.1 hx
    unfold finalM at hf
    rw [if_neg (by omega), if_neg (by omega), if_neg (by omega), if_neg (by omega), if_neg (by omega), if_neg (by omega), if_neg (by omega), if_neg (by omega), List.all_eq_true] at hf
    have := of_decide_eq_true (hf _ (List.mem_map_of_mem hy))
    rw [(key y hy).1, this]
  · unfold finalM at hf
    rw [if_neg (by omega), if_neg (by omega), if_neg (by omega), if_pos ho, decide_eq_true_eq] at hf
    have hn := (okKids_two hc).1 (by omega)
    have e0 := hkd 0 (by omega)
    have e1 := hkd 1 (by omega)
    exact ⟨hf.1, by omega⟩
  · unfold finalM at hf
    rw [if_neg (by omega), if_neg (by omega), if_neg (by omega), if_neg (by omega), if_pos ho, decide_eq_true_eq] at hf
    have hn := (okKids_two hc).2.1 ho
    have e0 := hkd 0 (by omega)
    have e1 := hkd 1 (by omega)
    have e2 := hkd 2 (by omega)
    exact ⟨by omega, by omega, by omega⟩
  · unfold finalM at hf
    rw [if_neg (by omega), if_neg (by omega), if_neg (by omega), if_neg (by omega), if_neg (by omega), if_pos ho, decide_eq_true_eq] at hf
    rw [← hsum]; exact hf
  · unfold finalM at hf
    rw [if_neg (by omega), if_neg (by omega), if_neg (by omega), if_neg (by omega), if_neg (by omega), if_neg (by omega), if_pos ho, decide_eq_true_eq] at hf
    have hn := (okKids_two hc).2.2 ho
    have e0 := hkd 0 (by omega)
    rw [int_wrap (by omega) (by omega)] at hf
    exact ⟨hf.1, hf.2.1, by omega⟩
  · unfold finalM at hf
    rw [if_neg (by omega), if_neg (by omega), if_neg (by omega), if_neg (by omega), if_neg (by omega), if_neg (by omega), if_neg (by omega), if_pos ho, decide_eq_true_eq] at hf
    have hn := (okKids_two hc).1 (by omega)
    have e0 := hkd 0 (by omega)
    have e1 := hkd 1 (by omega)
    exact ⟨by omega, by omega⟩
theorem bits_ok {r : GRtl} {i : Nat} {w : GWord} (hw : r.words.xs[i]? = some w) (hv : wordM r i = true) (h1 : w.op = 1) : (w.bits.xs.length : Int) = w.len ∧ upto 1 w.bits.xs = true := by
  obtain ⟨hc, hl, hin, hf⟩ := wordM_parts hw hv
  unfold finalM at hf
  rw [if_pos h1, Bool.and_eq_true, decide_eq_true_eq] at hf
  exact hf
theorem in_ok {r : GRtl} {i : Nat} {w : GWord} (hw : r.words.xs[i]? = some w) (hv : wordM r i = true) (h1 : w.op = 2) : 0 ≤ w.n ∧ w.n < r.ins.xs.length ∧ ((r.ins.xs[w.n.toNat]?).map (·.len)) = some w.len := by
  obtain ⟨hc, hl, hin, hf⟩ := wordM_parts hw hv
  unfold finalM at hf
  rw [if_neg (by omega), if_pos h1, Bool.and_eq_true, decide_eq_true_eq, decide_eq_true_eq] at hf
  exact ⟨hf.1.1, hf.1.2, hf.2⟩
theorem reg_ok {r : GRtl} {i : Nat} {w : GWord} (hw : r.words.xs[i]? = some w) (hv : wordM r i = true) (h1 : w.op = 3) : 0 ≤ w.n ∧ w.n < r.regs.xs.length ∧ ((r.regs.xs[w.n.toNat]?).map (fun h => (h.init.xs.length : Int))) = some w.len := by
  obtain ⟨hc, hl, hin, hf⟩ := wordM_parts hw hv
  unfold finalM at hf
  rw [if_neg (by omega), if_neg (by omega), if_pos h1, Bool.and_eq_true, decide_eq_true_eq, decide_eq_true_eq] at hf
  exact ⟨hf.1.1, hf.1.2, hf.2⟩
theorem fitsM_row {l : List (List UInt8)} {n : List Int} (h : fitsM l n = true) {i : Nat} (hi : i < l.length) : ((l.getD i []).length : Int) = n.getD i 0 ∧ upto 1 (l.getD i []) = true ∧ l.length = n.length := by
  unfold fitsM at h
  rw [Bool.and_eq_true, decide_eq_true_eq, List.all_eq_true] at h
  have := h.2 i (by simpa using hi)
  unfold rowOk knownM at this
  rw [Bool.and_eq_true, decide_eq_true_eq] at this
  exact ⟨this.1, this.2, h.1⟩
theorem val_in {r : GRtl} {ins : List (List UInt8)} {i : Nat} {w : GWord} (hf : fitsM ins (lensI r) = true) (hw : r.words.xs[i]? = some w) (hv : wordM r i = true) (h1 : w.op = 2) : w.n.toNat < ins.length ∧ ((ins.getD w.n.toNat []).length : Int) = w.len ∧ upto 1 (ins.getD w.n.toNat []) = true := by
  obtain ⟨a, b, c⟩ := in_ok hw hv h1
  have hl : ins.length = (lensI r).length := by
    unfold fitsM at hf
    rw [Bool.and_eq_true, decide_eq_true_eq] at hf
    exact hf.1
  have hl2 : (lensI r).length = r.ins.xs.length := List.length_map _
  have hlt : w.n.toNat < r.ins.xs.length := by omega
  obtain ⟨d, e, _⟩ := fitsM_row hf (i := w.n.toNat) (by omega)
  refine ⟨by omega, ?_, e⟩
  rw [d]
  unfold lensI
  rw [List.getD_eq_getElem?_getD, List.getElem?_map, c]; rfl
theorem val_reg {r : GRtl} {regs : List (List UInt8)} {i : Nat} {w : GWord} (hf : fitsM regs (lensR r) = true) (hw : r.words.xs[i]? = some w) (hv : wordM r i = true) (h1 : w.op = 3) : w.n.toNat < regs.length ∧ ((regs.getD w.n.toNat []).length : Int) = w.len ∧ upto 1 (regs.getD w.n.toNat []) = true := by
  obtain ⟨a, b, c⟩ := reg_ok hw hv h1
  have hl : regs.length = (lensR r).length := by
    unfold fitsM at hf
    rw [Bool.and_eq_true, decide_eq_true_eq] at hf
    exact hf.1
  have hl2 : (lensR r).length = r.regs.xs.length := List.length_map _
  have hlt : w.n.toNat < r.regs.xs.length := by omega
  obtain ⟨d, e, _⟩ := fitsM_row hf (i := w.n.toNat) (by omega)
  refine ⟨by omega, ?_, e⟩
  rw [d]
  unfold lensR
  rw [List.getD_eq_getElem?_getD, List.getElem?_map, c]; rfl
theorem words_true {r : GRtl} (h : validM r = true) {i : Nat} (hi : i < r.words.xs.length) : wordM r i = true := by
  simp only [validM, Bool.and_eq_true] at h
  have := h.1.1.2
  unfold wordsOk at this
  rw [List.all_eq_true] at this
  exact this i (by simpa using hi)
theorem valW_ok {r : GRtl} {ins regs : List (List UInt8)} (hi : fitsM ins (lensI r) = true) (hg : fitsM regs (lensR r) = true) {i : Nat} {w : GWord} (hw : r.words.xs[i]? = some w) (hv : wordM r i = true) {out : List (List UInt8)} (ho : OutOk r.words.xs i out) :
    ((valW ins regs w out).length : Int) = w.len ∧ upto 1 (valW ins regs w out) = true := by
  unfold valW
  split
  · rename_i h; exact (val_in hi hw hv h).2
  · split
    · rename_i h; exact (val_reg hg hw hv h).2
    · rename_i h2 h3
      exact evalM_ok (kids_ok hw hv ho h2 h3) h2 h3 (bits_ok hw hv)
theorem outM_ok {r : GRtl} {ins regs : List (List UInt8)} (hr : validM r = true) (hi : fitsM ins (lensI r) = true) (hg : fitsM regs (lensR r) = true) : ∀ {i : Nat}, i ≤ r.words.xs.length → OutOk r.words.xs i (outM ins regs r.words.xs i)
  | 0, _ => ⟨rfl, fun k w x _ hx => by simp [outM] at hx⟩
  | i + 1, h => by
    have ih := outM_ok hr hi hg (i := i) (by omega)
    have hlt : i < r.words.xs.length := by omega
    have hv := words_true hr hlt
    refine ⟨outM_len h, fun k w x hw hx => ?_⟩
    rw [outM_succ hlt] at hx
    by_cases hk : k < i
    · rw [List.getElem?_append_left (by rw [ih.1]; exact hk)] at hx
      exact ih.2 k w x hw hx
    · rw [List.getElem?_append_right (by rw [ih.1]; omega), ih.1] at hx
      have hk0 : k - i = 0 := by
        have := (List.getElem?_eq_some_iff.1 hx).1
        simp at this; omega
      rw [hk0, List.getElem?_cons_zero, Option.some.injEq] at hx
      have hki : k = i := by omega
      subst hki
      rw [List.getElem?_eq_getElem hlt, Option.some.injEq] at hw
      subst hw
      subst hx
      have h1 := valW_ok hi hg (List.getElem?_eq_getElem hlt) hv ih
      have h2 := (wordM_parts (List.getElem?_eq_getElem hlt) hv).2.1
      exact ⟨h1.1, h1.2, by omega, by omega⟩
end Go.RtlEnv

/- The values of all words: contracts. -/
namespace Go.RtlEnv
open Go Go.Proofs Go.Abs Go.RowKit
set_option maxRecDepth 10000
def rowAV (l : List UInt8) : AV := .vs 1 .any (l.map bitAV)
theorem row_plain (l : List UInt8) : AV.plain (rowAV l) = rowAV l := by simp [rowAV, AV.plain, Own.plain, plainL_map bit_plain]
theorem row_free (l : List UInt8) : AV.free (rowAV l) = true := by simp [rowAV, AV.free, freeL_map bit_free]
def ofRows (l : List (List UInt8)) : GSl (GSl UInt8) := GSl.of (l.map nz)
theorem vals_of (l : List (List UInt8)) : vals (ofRows l) = l := by simp [vals, ofRows, GSl.of, nz, List.map_map, Function.comp_def]
theorem rows_of (l : List (List UInt8)) : (GSl.of l).av 1 rowAV = rowsAV (ofRows l) := by
  cases l with
  | nil => rfl
  | cons a l =>
    show AV.vs 1 .any ((a :: l).map rowAV) = AV.vs 1 .any (((a :: l).map nz).map _)
    rw [List.map_map]; rfl
theorem plain_rows (t : Nat) (l : List (List UInt8)) : AV.plain (accA t 1 (l.map rowAV)) = rowsAV (ofRows l) := by rw [plain_acc row_plain, rows_of]
theorem free_rows (t : Nat) (l : List (List UInt8)) : AV.free (accA t 1 (l.map rowAV)) = true := by rw [← free_plain, plain_rows]; exact rowsAV_free _
theorem frz_rows (t : Nat) (l : List (List UInt8)) (st : St) : freezeA st (accA t 1 (l.map rowAV)) = some (accA t 1 (l.map rowAV), st) := by cases l <;> rfl
/-- A word's value, of its kids'. -/
def valV (ins regs : List (List UInt8)) (w : GWord) (ks : List (List UInt8)) : List UInt8 :=
  if w.op = 2 then ins.getD w.n.toNat [] else if w.op = 3 then regs.getD w.n.toNat [] else evalM w.op w.len w.n w.bits.xs ks
def Val58 (w : GWord) (ks : List (List UInt8)) : Prop := KidsOk w.op w.len w.n ks ∧ w.op ≠ 2 ∧ w.op ≠ 3 ∧ (w.op = 1 → (w.bits.xs.length : Int) = w.len)
def Val45 (w : GWord) (ks : List (List UInt8)) (ins regs : List (List UInt8)) : Prop :=
  (w.op = 2 ∧ 0 ≤ w.n ∧ w.n.toNat < ins.length ∧ 1 ≤ (ins.getD w.n.toNat []).length ∧ (ins.getD w.n.toNat []).length ≤ 4096) ∨
  (w.op = 3 ∧ 0 ≤ w.n ∧ w.n.toNat < regs.length ∧ 1 ≤ (regs.getD w.n.toNat []).length ∧ (regs.getD w.n.toNat []).length ≤ 4096) ∨ Val58 w ks
def Rel58 : Rel := fun a x => ∃ (w : GWord) (ks : GSl (GSl UInt8)), Val58 w (vals ks) ∧ a = [wordAV w, rowsAV ks] ∧ x = (nz (evalM w.op w.len w.n w.bits.xs (vals ks))).av 1 bitAV
def Rel45 : Rel := fun a x => ∃ (w : GWord) (ks ins regs : GSl (GSl UInt8)), Val45 w (vals ks) (vals ins) (vals regs) ∧ a = [wordAV w, rowsAV ks, rowsAV ins, rowsAV regs] ∧ x = (nz (valV (vals ins) (vals regs) w (vals ks))).av 1 bitAV
theorem ops_of {w : GWord} {ks : List (List UInt8)} (h : Val58 w ks) : w.op = 1 ∨ w.op = 4 ∨ w.op = 5 ∨ w.op = 6 ∨ w.op = 7 ∨ w.op = 8 ∨ w.op = 9 ∨ w.op = 10 ∨ w.op = 11 ∨ w.op = 12 ∨ w.op = 13 ∨ w.op = 14 ∨ w.op = 15 ∨ w.op = 16 ∨ w.op = 17 := by
  have := kids_n h.1 h.2.1 h.2.2.1
  omega
section
variable {pr : Prims}
theorem con58 (U : U58 pr) : Con2 (En pr) 58 Rel58 :=
  ⟨by rintro a x ⟨w, ks, _, rfl, rfl⟩; simp [AV.freeL, word_free, rowsAV_free], by
    rintro a x ⟨⟨op, len, n, kids, bits⟩, ks, hv, rfl, rfl⟩
    have hop := ops_of hv
    obtain ⟨hk, h2, h3, hb⟩ := hv
    dsimp only at hk h2 h3 hb hop ⊢
    have hsz := hk.size
    obtain ⟨ln, rfl⟩ : ∃ ln : Nat, len = ln := ⟨len.toNat, by omega⟩
    rcases hop with rfl | rfl | rfl | rfl | rfl | rfl | rfl | rfl | rfl | rfl | rfl | rfl | rfl | rfl | rfl
    · have hb := hb rfl
      exact run58_1 U ln n kids bits ks hk (by omega) _
    · exact run58_4 U ln n kids bits ks hk _
    · exact run58_5 U ln n kids bits ks hk _
    · exact run58_6 U ln n kids bits ks hk _
    · exact run58_7 U ln n kids bits ks hk _
    · exact run58_8 U ln n kids bits ks hk _
    · exact run58_9 U ln n kids bits ks hk _
    · exact run58_10 U ln n kids bits ks hk _
    · exact run58_11 U ln n kids bits ks hk _
    · exact run58_12 U ln n kids bits ks hk _
    · exact run58_13 U ln n kids bits ks hk _
    · exact run58_14 U ln n kids bits ks hk _
    · have hp := hk.part rfl
      obtain ⟨m, rfl⟩ : ∃ m : Nat, n = m := ⟨n.toNat, by omega⟩
      exact run58_15 U ln m kids bits ks hk _
    · exact run58_16 U ln n kids bits ks hk _
    · exact run58_17 U ln n kids bits ks hk _⟩
theorem con45 (U : U45 pr) : Con2 (En pr) 45 Rel45 :=
  ⟨by rintro a x ⟨w, ks, ins, regs, _, rfl, rfl⟩; simp [AV.freeL, word_free, rowsAV_free], by
    rintro a x ⟨⟨op, len, n, kids, bits⟩, ks, ins, regs, hv, rfl, rfl⟩
    rcases hv with ⟨h2, hn, hl, hs⟩ | ⟨h3, hn, hl, hs⟩ | hv
    · dsimp only at h2 hn hl hs
      subst h2
      obtain ⟨m, rfl⟩ : ∃ m : Nat, n = m := ⟨n.toNat, by omega⟩
      rw [vals_len] at hl
      have hx : ins.xs[m]? = some (ins.xs[m]'hl) := List.getElem?_eq_getElem _
      have e : (vals ins).getD m [] = (ins.xs[m]'hl).xs := vals_at hx
      have e2 : valV (vals ins) (vals regs) ⟨2, len, (m : Int), kids, bits⟩ (vals ks) = (ins.xs[m]'hl).xs := by rw [← e]; rfl
      rw [e2]
      change 1 ≤ ((vals ins).getD m []).length ∧ ((vals ins).getD m []).length ≤ 4096 at hs
      rw [e] at hs
      exact run45_2 U len m kids bits ks ins regs _ hx hs _
    · dsimp only at h3 hn hl hs
      subst h3
      obtain ⟨m, rfl⟩ : ∃ m : Nat, n = m := ⟨n.toNat, by omega⟩
      rw [vals_len] at hl
      have hx : regs.xs[m]? = some (regs.xs[m]'hl) := List.getElem?_eq_getElem _
      have e : (vals regs).getD m [] = (regs.xs[m]'hl).xs := vals_at hx
      have e2 : valV (vals ins) (vals regs) ⟨3, len, (m : Int), kids, bits⟩ (vals ks) = (regs.xs[m]'hl).xs := by rw [← e]; rfl
      rw [e2]
      change 1 ≤ ((vals regs).getD m []).length ∧ ((vals regs).getD m []).length ≤ 4096 at hs
      rw [e] at hs
      exact run45_3 U len m kids bits ks ins regs _ hx hs _
    · have hop := ops_of hv
      obtain ⟨hk, h2, h3, hb⟩ := hv
      have e2 : valV (vals ins) (vals regs) ⟨op, len, n, kids, bits⟩ (vals ks) = evalM op len n bits.xs (vals ks) := by
        unfold valV; rw [if_neg h2, if_neg h3]
      rw [e2]
      dsimp only at hk h2 h3 hb hop ⊢
      have hsz := hk.size
      obtain ⟨ln, rfl⟩ : ∃ ln : Nat, len = ln := ⟨len.toNat, by omega⟩
      rcases hop with rfl | rfl | rfl | rfl | rfl | rfl | rfl | rfl | rfl | rfl | rfl | rfl | rfl | rfl | rfl
      · have hb := hb rfl
        exact run45_1 U ln n kids bits ks ins regs hk (by omega) _
      · exact run45_4 U ln n kids bits ks ins regs hk _
      · exact run45_5 U ln n kids bits ks ins regs hk _
      · exact run45_6 U ln n kids bits ks ins regs hk _
      · exact run45_7 U ln n kids bits ks ins regs hk _
      · exact run45_8 U ln n kids bits ks ins regs hk _
      · exact run45_9 U ln n kids bits ks ins regs hk _
      · exact run45_10 U ln n kids bits ks ins regs hk _
      · exact run45_11 U ln n kids bits ks ins regs hk _
      · exact run45_12 U ln n kids bits ks ins regs hk _
      · exact run45_13 U ln n kids bits ks ins regs hk _
      · exact run45_14 U ln n kids bits ks ins regs hk _
      · have hp := hk.part rfl
        obtain ⟨m, rfl⟩ : ∃ m : Nat, n = m := ⟨n.toNat, by omega⟩
        exact run45_15 U ln m kids bits ks ins regs hk _
      · exact run45_16 U ln n kids bits ks ins regs hk _
      · exact run45_17 U ln n kids bits ks ins regs hk _⟩
end
end Go.RtlEnv
