/- Own text of this claim: part 15 of an interpreter that is proved sound against the model, and of what it shows of the law. -/
import Derived.Test.YtnipphfkiikbdaaDoorAbs14
import Derived.Test.YtnipphfkiikbdaaDoorAbs6b
/- Moved bits, and numbers of bits. -/
namespace Go.RtlEnv
open Go Go.Proofs Go.Abs Go.RowKit
set_option maxRecDepth 10000
theorem leftM_len (l : List UInt8) (n : Int) : (leftM l n).length = l.length := by simp [leftM]
theorem leftM_at {l : List UInt8} {n : Int} {i : Nat} (h : i < (leftM l n).length) : (leftM l n)[i] = leftAt l n i := by simp [leftM]
theorem rep_tail {α : Type} (n : Nat) (a : α) : (List.replicate n a).tail = List.replicate (n - 1) a := by cases n <;> simp [List.replicate_succ]
/-- The number of bits. -/
def numM : List UInt8 → Nat
  | [] => 0
  | b :: l => b.toNat + 2 * numM l
theorem numM_snoc : ∀ (l : List UInt8) (b : UInt8), numM (l ++ [b]) = numM l + b.toNat * 2 ^ l.length
  | [], b => by simp [numM]
  | a :: l, b => by
    simp only [List.cons_append, numM, numM_snoc l b, List.length_cons, Nat.pow_succ]
    rw [Nat.mul_add, Nat.mul_comm (2 ^ l.length) 2, ← Nat.mul_assoc b.toNat 2, Nat.mul_comm b.toNat 2, Nat.mul_assoc 2, Nat.add_assoc]
theorem numM_take {l : List UInt8} {i : Nat} (h : i < l.length) : numM (l.take (i + 1)) = numM (l.take i) + l[i].toNat * 2 ^ i := by
  rw [List.take_succ_eq_append_getElem h, numM_snoc, List.length_take, Nat.min_eq_left (by omega)]
theorem numM_lt {l : List UInt8} (h : upto 1 l = true) : numM l < 2 ^ l.length := by
  induction l with
  | nil => simp [numM]
  | cons b l ih =>
    simp only [upto, List.all_cons, Bool.and_eq_true, decide_eq_true_eq] at h
    have := ih (by simpa [upto] using h.2)
    simp only [numM, List.length_cons, Nat.pow_succ]
    omega
theorem upto_take {m : Nat} {l : List UInt8} (h : upto m l = true) (i : Nat) : upto m (l.take i) = true := by
  unfold upto at *
  rw [List.all_eq_true] at *
  exact fun x hx => h x (List.mem_of_mem_take hx)
theorem upto_at {m : Nat} {l : List UInt8} (h : upto m l = true) {i : Nat} (hi : i < l.length) : l[i].toNat ≤ m := by
  unfold upto at h
  rw [List.all_eq_true] at h
  exact of_decide_eq_true (h _ (List.getElem_mem hi))
theorem leftM_at' {l : List UInt8} {n : Int} {i : Nat} (h : i < l.length) : (leftM l n)[i]'(by rw [leftM_len]; exact h) = leftAt l n i := leftM_at _
theorem left_stepS {l : List UInt8} {n : Int} {i : Nat} (h : i < l.length) {v : Int} (hv : v = ((leftAt l n i).toNat : Int)) :
    (((leftM l n).take i ++ List.replicate (l.length - i) 0).map bitAV).set i (.int .u8 v) = ((leftM l n).take (i + 1) ++ List.replicate (l.length - (i + 1)) 0).map bitAV := by
  have hl := leftM_len l n
  subst hv
  show List.set _ _ (bitAV (leftAt l n i)) = _
  rw [← List.map_set, set_mid (by rw [List.length_take]; omega) (by rw [List.length_replicate]; omega), rep_tail, List.take_succ_eq_append_getElem (by omega), leftM_at' h]
  rfl
theorem left_step0 {l : List UInt8} {n : Int} {i : Nat} (h : i < l.length) (hv : leftAt l n i = 0) :
    (leftM l n).take i ++ List.replicate (l.length - i) 0 = (leftM l n).take (i + 1) ++ List.replicate (l.length - (i + 1)) 0 := by
  have hl := leftM_len l n
  rw [List.take_succ_eq_append_getElem (by omega), leftM_at' h, hv]
  have : l.length - i = (l.length - (i + 1)) + 1 := by omega
  rw [this, List.replicate_succ]
  simp
theorem leftAt_in {l : List UInt8} {n : Int} {i : Nat} (h : 0 ≤ (i : Int) - n ∧ (i : Int) - n < l.length) (h2 : ((i : Int) - n).toNat < l.length) : leftAt l n i = l[((i : Int) - n).toNat] := by
  unfold leftAt; rw [if_pos h, getD_at h2]
theorem leftAt_out {l : List UInt8} {n : Int} {i : Nat} (h : ¬ (0 ≤ (i : Int) - n ∧ (i : Int) - n < l.length)) : leftAt l n i = 0 := by
  unfold leftAt; rw [if_neg h]
attribute [local irreducible] WS QS OS OD Abs.Sub SubO SubK CW GSl.av accA
section
variable {pr : Prims}
set_option maxHeartbeats 1000000 in
theorem run61 (h1 : pr 61 = none) (x : GSl UInt8) (n : Int) (hs : x.xs.length ≤ 1000000) (hn : -4611686018427387904 < n ∧ n < 4611686018427387904) (st : St) : CW (En pr) 61 [x.av 1 bitAV, .int .i64 n] st fun r st' => ∃ b, r = .sl 1 b 0 x.xs.length ∧ st'.get b = some (.row 1 ((leftM x.xs n).map bitAV)) := by
  have hl := leftM_len x.xs n
  refine CW.start (N := 36) h1 rfl rfl ?_
  repeat' (first | (refine OS.do rfl ?_; first | refine OD.auto rfl rfl ?_ | refine OD.len rfl rfl (fun _ => lenTy_av rfl rfl) ?_ | refine OD.makeSlice rfl rfl rfl rfl rfl rfl rfl rfl (roomB rfl (by omega)) (fun b3 => ?_)) | refine OS.nil ?_ | refine WS.seq ?_ | refine QS.seqN ?_ | refine WS.region ?_ | refine WS.block ?_)
  refine WS.loop (D := Nat) (fun i => [(0, x.av 1 bitAV), (1, .int .i64 n), (5, .sl 1 b3 0 x.xs.length), (12, .int .i64 x.xs.length), (13, .int .i64 i)]) (fun i => [(b3, .row 1 (((leftM x.xs n).take i ++ List.replicate (x.xs.length - i) 0).map bitAV))]) (fun _ => [])
    (fun i => i ≤ x.xs.length) (fun i => x.xs.length + 1 - i) 0 (by omega) ?_ ?_ (.nil _) ?_
  · repeat' (first | exact Sub.nil _ | refine Sub.cons (congrArg (fun z => some (AV.int .i64 z)) (wrap_succ (by omega))) ?_ | refine Sub.cons rfl ?_)
  · rw [List.take_zero, List.nil_append, Nat.sub_zero, List.map_replicate]; exact .refl _
  rintro i hi
  have hm : ((leftM x.xs n).take i ++ List.replicate (x.xs.length - i) (0 : UInt8)).length = x.xs.length := by simp; omega
  have htl : ((leftM x.xs n).take i).length = i := by rw [List.length_take]; omega
  repeat' (first | (refine OS.do rfl ?_; first | refine OD.bin (v := .int .i64 ((i : Int) - n)) rfl rfl rfl (congrArg (fun z => some (AV.int .i64 z)) (int_wrap (by omega) (by omega))) ?_ | refine OD.auto rfl rfl ?_ | refine OD.len rfl rfl (fun _ => lenTy_av rfl rfl) ?_ | refine OD.indexAddr rfl rfl rfl (indexAddrA_int rfl rfl rfl rfl (by first | assumption | omega) (by first | assumption | exact List.getElem?_eq_getElem (by omega))) ?_ | refine OD.indexAddr rfl rfl rfl (indexAddrA_sl rfl rfl rfl rfl (by omega)) ?_ | refine OD.storeI 0 rfl rfl rfl rfl rfl (row_get (by omega)) ?_) | refine OS.nil ?_ | refine OS.skip rfl rfl rfl ?_ | refine WS.seq ?_ | refine QS.seqN ?_ | refine WS.region ?_ | refine WS.condF rfl ?_ | refine WS.condD rfl (fun _ => ?_) (fun _ => ?_) | refine WS.skip ?_ | refine WS.block ?_ | refine WS.ret ?_ | refine QS.blockN ?_ | refine WS.exit ?_ | refine QS.seqE ?_ | refine QS.blockH ?_ | refine QS.loopE ?_ | ((fail_if_success (refine OS.do rfl ?_)); first | refine OS.splitD rfl rfl rfl (fun _ => ?_) (fun _ => ?_)))
  all_goals try (have hlt : i < x.xs.length := by omega
                 refine QS.loopN (i + 1) ?_ ?_ ?_ ?_ ?_
                 · omega
                 · omega
                 · repeat' (first | exact Sub.nil _ | refine Sub.cons (congrArg (fun z => some (AV.int .i64 z)) (wrap_succ (by omega))) ?_ | refine Sub.cons rfl ?_)
                 · first
                     | ((try dsimp only); rw [← left_step0 hlt (leftAt_out (by omega))]; exact .refl _)
                     | (have e := left_stepS (n := n) hlt (congrArg (fun (b : UInt8) => (b.toNat : Int)) (leftAt_in (n := n) (l := x.xs) (i := i) ⟨by omega, by omega⟩ (by omega)).symm)
                        (try dsimp only); rw [← e]; exact .refl _)
                 · exact .nil _)
  refine QS.retRS (by rfl) fun st hS => ⟨b3, rfl, ?_⟩
  have hT : (leftM x.xs n).take i ++ List.replicate (x.xs.length - i) 0 = leftM x.xs n := by
    rw [List.take_of_length_le (by omega), show x.xs.length - i = 0 by omega]; simp
  rw [← hT]
  exact (hS.obj 0 b3 _ rfl).1
theorem numM_take_lt {l : List UInt8} (h : upto 1 l = true) (h31 : l.length ≤ 31) (i : Nat) : numM (l.take i) < 2147483648 := by
  have := numM_lt (upto_take h i)
  have h2 : 2 ^ (l.take i).length ≤ 2 ^ 31 := Nat.pow_le_pow_right (by omega) (by rw [List.length_take]; omega)
  omega
theorem shl_bit {b : UInt8} {i : Nat} (hb : b.toNat ≤ 1) (hi : i ≤ 31) : IntKind.i64.wrap (IntKind.i64.wrap (b.toNat : Int) * 2 ^ (Min.min ((i : Int)).toNat IntKind.i64.bits)) = ((b.toNat * 2 ^ i : Nat) : Int) := by
  have h1 : IntKind.i64.wrap (b.toNat : Int) = (b.toNat : Int) := int_wrap (by omega) (by omega)
  have h2 : Min.min ((i : Int)).toNat IntKind.i64.bits = i := by
    have : IntKind.i64.bits = 64 := rfl
    omega
  have h3 : (2 : Nat) ^ i ≤ 2 ^ 31 := Nat.pow_le_pow_right (by omega) hi
  have h4 : b.toNat * 2 ^ i ≤ 1 * 2 ^ 31 := Nat.mul_le_mul hb h3
  have h5 : ((b.toNat : Int) * 2 ^ i) = ((b.toNat * 2 ^ i : Nat) : Int) := by rw [Int.natCast_mul, Int.natCast_pow]; rfl
  rw [h1, h2, h5]
  exact int_wrap (by omega) (by omega)
theorem run64 (h1 : pr 64 = none) (x : GSl UInt8) (hs : x.xs.length ≤ 31) (hb : upto 1 x.xs = true) (st : St) : CW (En pr) 64 [x.av 1 bitAV] st fun r _ => r = .int .i64 (numM x.xs : Int) := by
  refine CW.start (N := 21) h1 rfl rfl ?_
  repeat' (first | (refine OS.do rfl ?_; first | refine OD.auto rfl rfl ?_ | refine OD.len rfl rfl (fun _ => lenTy_av rfl rfl) ?_) | refine OS.nil ?_ | refine WS.seq ?_ | refine QS.seqN ?_ | refine WS.region ?_ | refine WS.block ?_)
  refine WS.loop (D := Nat) (fun i => [(3, .int .i64 (numM (x.xs.take i) : Int)), (6, x.av 1 bitAV), (7, .int .i64 x.xs.length), (8, .int .i64 i)]) (fun _ => []) (fun _ => [])
    (fun i => i ≤ x.xs.length) (fun i => x.xs.length + 1 - i) 0 (by omega) ?_ (.nil _) (.nil _) ?_
  · repeat' (first | exact Sub.nil _ | refine Sub.cons (congrArg (fun z => some (AV.int .i64 z)) (wrap_succ (by omega))) ?_ | refine Sub.cons rfl ?_)
  rintro i hi
  repeat' (first | (refine OS.do rfl ?_; first | refine OD.bin rfl rfl rfl (congrArg (fun z => some (AV.int .i64 z)) (shl_bit (upto_at hb (by omega)) (by omega))) ?_ | refine OD.auto rfl rfl ?_ | refine OD.indexAddr rfl rfl rfl (indexAddrA_nat rfl rfl rfl rfl (by first | assumption | exact List.getElem?_eq_getElem (by omega))) ?_) | refine OS.nil ?_ | refine WS.seq ?_ | refine QS.seqN ?_ | refine WS.region ?_ | refine WS.condD rfl (fun _ => ?_) (fun _ => ?_) | refine WS.skip ?_ | refine WS.block ?_ | refine WS.ret ?_ | refine QS.blockN ?_ | refine WS.exit ?_ | refine QS.seqE ?_ | refine QS.blockH ?_ | refine QS.loopE ?_)
  all_goals try (have hlt : i < x.xs.length := by omega
                 have e1 := numM_take hlt
                 have e2 := numM_take_lt hb hs (i + 1)
                 refine QS.loopN (i + 1) ?_ ?_ ?_ ?_ ?_
                 · omega
                 · omega
                 · repeat' (first | exact Sub.nil _ | refine Sub.cons (congrArg (fun z => some (AV.int .i64 z)) ((int_wrap (by omega) (by omega)).trans (by omega))) ?_ | refine Sub.cons (congrArg (fun z => some (AV.int .i64 z)) (wrap_succ (by omega))) ?_ | refine Sub.cons rfl ?_)
                 · exact .nil _
                 · exact .nil _)
  have hT : x.xs.take i = x.xs := List.take_of_length_le (by omega)
  rw [hT]
  exact QS.retR (by rfl) fun _ => rfl
theorem or_lt {a i : Nat} (h : a < 2 ^ i) : a ||| 2 ^ i = a + 2 ^ i := by
  have := Nat.two_pow_add_eq_or_of_lt h 1
  rw [Nat.mul_one] at this
  rw [Nat.add_comm, this, Nat.or_comm]
theorem or_bits {a i : Nat} (h : a < 2 ^ i) (hi : i ≤ 31) : IntKind.i64.wrap ((BitVec.ofInt IntKind.i64.bits (a : Int) ||| BitVec.ofInt IntKind.i64.bits (IntKind.i64.wrap ((1 : Int) * 2 ^ (Min.min ((i : Int)).toNat IntKind.i64.bits)))).toNat : Int) = ((a + 2 ^ i : Nat) : Int) := by
  have h2 : Min.min ((i : Int)).toNat IntKind.i64.bits = i := by
    have : IntKind.i64.bits = 64 := rfl
    omega
  have h3 : (2 : Nat) ^ i ≤ 2 ^ 31 := Nat.pow_le_pow_right (by omega) hi
  have h4 : ((1 : Int) * 2 ^ i) = ((2 ^ i : Nat) : Int) := by rw [Int.one_mul, Int.natCast_pow]; rfl
  have e6 : IntKind.i64.wrap ((2 ^ i : Nat) : Int) = ((2 ^ i : Nat) : Int) := int_wrap (by omega) (by omega)
  rw [h2, h4, e6]
  have h5 : ∀ n : Nat, n < 2 ^ 32 → (BitVec.ofInt IntKind.i64.bits (n : Int)).toNat = n := by
    intro n hn
    rw [BitVec.toNat_ofInt]
    have : IntKind.i64.bits = 64 := rfl
    rw [this]
    omega
  rw [BitVec.toNat_or, h5 _ (by omega), h5 _ (by omega), or_lt h]
  exact int_wrap (by omega) (by omega)
theorem run77 (h1 : pr 77 = none) (x : GSl UInt8) (hs : x.xs.length ≤ 31) (hb : upto 1 x.xs = true) (st : St) : CW (En pr) 77 [x.av 1 bitAV] st fun r _ => r = .int .i64 (numM x.xs : Int) := by
  refine CW.start (N := 23) h1 rfl rfl ?_
  repeat' (first | (refine OS.do rfl ?_; first | refine OD.auto rfl rfl ?_ | refine OD.len rfl rfl (fun _ => lenTy_av rfl rfl) ?_) | refine OS.nil ?_ | refine WS.seq ?_ | refine QS.seqN ?_ | refine WS.region ?_ | refine WS.block ?_)
  refine WS.loop (D := Nat) (fun i => [(3, .int .i64 (numM (x.xs.take i) : Int)), (6, x.av 1 bitAV), (7, .int .i64 x.xs.length), (8, .int .i64 i)]) (fun _ => []) (fun _ => [])
    (fun i => i ≤ x.xs.length) (fun i => x.xs.length + 1 - i) 0 (by omega) ?_ (.nil _) (.nil _) ?_
  · repeat' (first | exact Sub.nil _ | refine Sub.cons (congrArg (fun z => some (AV.int .i64 z)) (wrap_succ (by omega))) ?_ | refine Sub.cons rfl ?_)
  rintro i hi
  repeat' (first | (refine OS.do rfl ?_; first | refine OD.auto rfl rfl ?_ | refine OD.indexAddr rfl rfl rfl (indexAddrA_nat rfl rfl rfl rfl (by first | assumption | exact List.getElem?_eq_getElem (by omega))) ?_) | refine OS.nil ?_ | refine WS.seq ?_ | refine QS.seqN ?_ | refine WS.region ?_ | refine WS.condE rfl (fun _ => ?_) (fun _ => ?_) | refine WS.condD rfl (fun _ => ?_) (fun _ => ?_) | refine WS.skip ?_ | refine WS.block ?_ | refine WS.ret ?_ | refine QS.seqR ?_ | refine QS.blockR ?_ | refine QS.loopR ?_ | refine QS.blockN ?_ | refine WS.exit ?_ | refine QS.seqE ?_ | refine QS.blockH ?_ | refine QS.loopE ?_)
  all_goals try (exfalso; omega)
  all_goals try (have hlt : i < x.xs.length := by omega
                 have e1 := numM_take hlt
                 have e2 := numM_lt (upto_take hb i)
                 have e3 : (x.xs.take i).length = i := by rw [List.length_take]; omega
                 have e4 := upto_at hb hlt
                 rw [e3] at e2
                 refine QS.loopN (i + 1) ?_ ?_ ?_ ?_ ?_
                 · omega
                 · omega
                 · first
                     | (have e5 : x.xs[i].toNat = 1 := by omega
                        rw [e5, Nat.one_mul] at e1
                        repeat' (first | exact Sub.nil _ | refine Sub.cons (congrArg (fun z => some (AV.int .i64 z)) ((or_bits e2 (by omega)).trans (congrArg Nat.cast e1.symm))) ?_ | refine Sub.cons (congrArg (fun z => some (AV.int .i64 z)) (wrap_succ (by omega))) ?_ | refine Sub.cons rfl ?_)
                        done)
                     | (have e5 : x.xs[i].toNat = 0 := by omega
                        rw [e5, Nat.zero_mul, Nat.add_zero] at e1
                        rw [e1]
                        repeat' (first | exact Sub.nil _ | refine Sub.cons (congrArg (fun z => some (AV.int .i64 z)) (wrap_succ (by omega))) ?_ | refine Sub.cons rfl ?_)
                        done)
                 · exact .nil _
                 · exact .nil _)
  have hT : x.xs.take i = x.xs := List.take_of_length_le (by omega)
  rw [hT]
  exact QS.retR (by rfl) fun _ => rfl
end
end Go.RtlEnv

/- Copies of bits, and bits one behind the other. -/
namespace Go.RtlEnv
open Go Go.Proofs Go.Abs Go.RowKit
set_option maxRecDepth 10000
/-- Bits that are there. -/
def nz (l : List UInt8) : GSl UInt8 := ⟨none, l, fun h => absurd rfl h⟩
theorem nz_av (l : List UInt8) : (nz l).av 1 bitAV = .vs 1 .any (l.map bitAV) := rfl
theorem nz_of {s : GSl UInt8} (h : s.xs ≠ []) : s = nz s.xs := by
  obtain ⟨n, xs, hx⟩ := s
  cases n with
  | none => rfl
  | some b => exact absurd (hx (by simp)) h
theorem of_nz {l : List UInt8} (h : l ≠ []) : GSl.of l = nz l := by
  cases l with
  | nil => exact absurd rfl h
  | cons a l => rfl
theorem okBits {et : Ty} (h : Nat.beq et.size 1 = true) (l : List UInt8) : okElems et (l.map bitAV) = true := by
  have := Nat.eq_of_beq_eq_true h
  unfold okElems
  rw [List.all_eq_true]
  intro x hx
  obtain ⟨b, _, rfl⟩ := List.mem_map.1 hx
  simp [bitAV, AV.ok, AV.cellOk, AV.cells, this]
theorem elems_bits' (s : GSl UInt8) : ∃ z, (∀ st, elemsA st (s.av 1 bitAV) = some (z, s.xs.map bitAV)) ∧ ((s.xs.map bitAV).isEmpty || Nat.beq z 1) = true := by
  rcases s.cases bitAV 1 with ⟨h1, h2 | h2⟩ | h2 <;> rw [h2]
  · exact ⟨0, fun _ => by rw [h1]; rfl, by rw [h1]; rfl⟩
  · exact ⟨0, fun _ => by rw [h1]; rfl, by rw [h1]; rfl⟩
  · exact ⟨1, fun _ => rfl, by simp⟩
theorem isStr_av {α : Type} {sz : Nat} {f : α → AV} {s : GSl α} : isStrA (s.av sz f) = false := by
  rcases s.cases f sz with ⟨_, h2 | h2⟩ | h2 <;> rw [h2] <;> rfl
theorem sliceA_sl {E : Env} {t e : TypeId} {y et : Ty} {sz b off len : Nat} {k : IntKind} {h : Nat} (h1 : E.ty t = some y) (h2 : y.d = .slice e) (h3 : E.ty e = some et) (h4 : et.size = sz) (hle : h ≤ len) : sliceA E t (.sl sz b off len) none (some (.int k (h : Int))) none = some (.sl sz b off h) := by
  unfold sliceA
  rw [h1]
  dsimp only
  rw [h2]
  dsimp only
  rw [h3]
  dsimp only
  rw [if_pos h4]
  simp [cutA, optNat, asNat, hle]
theorem sliceA_slLo {E : Env} {t e : TypeId} {y et : Ty} {sz b off len : Nat} {k : IntKind} {h : Nat} (h1 : E.ty t = some y) (h2 : y.d = .slice e) (h3 : E.ty e = some et) (h4 : et.size = sz) (hle : h ≤ len) : sliceA E t (.sl sz b off len) (some (.int k (h : Int))) none none = some (.sl sz b (off + h) (len - h)) := by
  unfold sliceA
  rw [h1]
  dsimp only
  rw [h2]
  dsimp only
  rw [h3]
  dsimp only
  rw [if_pos h4]
  simp [cutA, optNat, asNat, hle]
attribute [local irreducible] WS QS OS OD Abs.Sub SubO SubK CW GSl.av accA
section
variable {pr : Prims}
theorem run46 (h1 : pr 46 = none) (l : List UInt8) (h0 : l ≠ []) (hl : l.length ≤ 1000000) (st : St) : CW (En pr) 46 [.vs 1 .any (l.map bitAV)] st fun r _ => ∃ t, r = .vs 1 (.tok t) (l.map bitAV) := by
  refine CW.start (N := 8) h1 rfl rfl ?_
  repeat' (first | (refine OS.do rfl ?_; first | refine OD.appendFull rfl rfl rfl rfl rfl rfl rfl rfl rfl rfl ⟨⟨_, rfl⟩, rfl⟩ (fun _ => rfl) (okBits rfl _) (Bool.or_true _) (by simpa using h0) (roomB rfl (by simp only [List.length_map, List.length_nil]; omega)) (fun tk => ?_) | refine OD.auto rfl rfl ?_) | refine OS.nil ?_ | refine WS.seq ?_ | refine QS.seqN ?_ | refine WS.region ?_ | refine WS.condF rfl ?_ | refine WS.skip ?_ | refine WS.ret ?_)
  exact QS.retR (by rfl) fun _ => ⟨_, rfl⟩
theorem run80 (h1 : pr 80 = none) (n : Nat) (h0 : 0 < n) (hn : n ≤ 1000000) {L : List (Nat × AObj)} {K : List (Nat × Bool)} {st : St} (hS : SFa L K st) :
    CW (En pr) 80 [.nilsl, .int .i64 (n : Int)] st fun r st' => ∃ b, r = .sl 1 b 0 0 ∧ SFa ((b, .row 1 ((List.replicate n (0 : UInt8)).map bitAV)) :: L) K st' := by
  refine CW.startS (N := 27) h1 rfl rfl hS ?_
  repeat' (first | (refine OS.do rfl ?_; first | refine OD.capNil rfl rfl rfl rfl ?_ | refine OD.bin (v := .int .i64 (n : Int)) rfl rfl rfl (congrArg (fun z => some (AV.int .i64 z)) (int_wrap (n := (n : Int) - 0) (by omega) (by omega) |>.trans (by omega))) ?_ | refine OD.appendZ rfl rfl rfl rfl rfl rfl rfl rfl rfl (by omega) (roomB rfl (by omega)) (fun b => ?_) | refine OD.slice rfl rfl rfl rfl rfl (sliceA_sl (h := 0) rfl rfl rfl rfl (by omega)) ?_ | refine OD.auto rfl rfl ?_ | refine OD.len rfl rfl (fun _ => rfl) ?_ | refine OD.slice rfl rfl rfl rfl rfl rfl ?_) | refine OS.nil ?_ | refine WS.seq ?_ | refine QS.seqN ?_ | refine WS.region ?_ | refine WS.condF rfl ?_ | refine WS.condD rfl (fun _ => ?_) (fun _ => ?_) | refine WS.skip ?_ | refine WS.ret ?_)
  all_goals try (exfalso; omega)
  refine QS.retRS (by rfl) fun st hS => ⟨_, rfl, ?_⟩
  rw [List.map_replicate]
  exact hS
/-- Rows one behind the other, wherever they lie. -/
def rowx (ls : List (List UInt8)) (n i : Nat) : List AV := if i = 0 then (List.replicate n (0 : UInt8)).map bitAV else ((ls.take i).flatten).map bitAV
theorem rowx_take (ls : List (List UInt8)) (n i : Nat) : (rowx ls n i).take ((ls.take i).flatten).length = ((ls.take i).flatten).map bitAV := by
  unfold rowx
  split
  · rename_i h; subst h; simp
  · rw [List.take_of_length_le (by rw [List.length_map]; exact Nat.le_refl _)]
theorem rowx_len (ls : List (List UInt8)) (n i : Nat) : ((ls.take i).flatten).length ≤ (rowx ls n i).length := by
  unfold rowx
  split
  · rename_i h; subst h; simp
  · rw [List.length_map]; exact Nat.le_refl _
theorem flat_succ {ls : List (List UInt8)} {i : Nat} (h : i < ls.length) : (ls.take (i + 1)).flatten = (ls.take i).flatten ++ ls[i] := by
  rw [List.take_succ_eq_append_getElem h, List.flatten_append, List.flatten_cons, List.flatten_nil, List.append_nil]
theorem flat_len {ls : List (List UInt8)} {i : Nat} (h : i < ls.length) : ((ls.take (i + 1)).flatten).length = ((ls.take i).flatten).length + ls[i].length := by rw [flat_succ h, List.length_append]
theorem rowx_succ {ls : List (List UInt8)} {n i : Nat} (h : i < ls.length) : (rowx ls n i).take ((ls.take i).flatten).length ++ ls[i].map bitAV = rowx ls n (i + 1) := by
  rw [rowx_take]
  unfold rowx
  rw [if_neg (by omega), flat_succ h, List.map_append]
theorem flat_le (ls : List (List UInt8)) (i : Nat) : ((ls.take i).flatten).length ≤ ls.flatten.length := by
  have h := List.take_append_drop i ls
  have : ls.flatten = (ls.take i).flatten ++ (ls.drop i).flatten := by rw [← List.flatten_append, h]
  rw [this]; simp
set_option maxHeartbeats 1000000 in
theorem run74 (h1 : pr 74 = none) (h80 : pr 80 = none) (A : AV) (es : List AV) (ls : List (List UInt8)) (hm : es.length = ls.length) (hml : ls.length ≤ 1000000) (h0 : 0 < ls.flatten.length) (hn : ls.flatten.length ≤ 1000000) {L : List (Nat × AObj)} {K : List (Nat × Bool)}
    (hA : ∀ st, lenTy (En pr) st 29 A = some (.int .i64 (ls.length : Int))) (hidx : ∀ (i : Nat) (h : i < es.length), indexAddrA (En pr) 29 A (.int .i64 (i : Int)) = some (.ip [es[i]])) (hpart : ∀ (i : Nat) (h : i < es.length), partA (En pr) 51 [es[i]] 0 = some es[i])
    (hlen : ∀ (i : Nat) (h : i < es.length) (st : St), lenTy (En pr) st 51 es[i] = some (.int .i64 (ls[i].length : Int))) (hstr : ∀ (i : Nat) (h : i < es.length), isStrA es[i] = false)
    (hel : ∀ (i : Nat) (h : i < es.length), ∃ z, (∀ st, SFa L K st → elemsA st es[i] = some (z, ls[i].map bitAV)) ∧ ((ls[i].map bitAV).isEmpty || Nat.beq z 1) = true) {st : St} (hS : SFa L K st) :
    CW (En pr) 74 [A] st fun r st' => ∃ b, r = .sl 1 b 0 ls.flatten.length ∧ SFa ((b, .row 1 (ls.flatten.map bitAV)) :: L) K st' := by
  refine CW.startS (N := 36) h1 rfl rfl hS ?_
  repeat' (first | (refine OS.do rfl ?_; first | refine OD.len rfl rfl hA ?_ | refine OD.auto rfl rfl ?_) | refine OS.nil ?_ | refine WS.seq ?_ | refine QS.seqN ?_ | refine WS.region ?_ | refine WS.block ?_)
  refine WS.loop (D := Nat) (fun i => [(0, A), (3, .int .i64 (((ls.take i).flatten).length : Int)), (9, A), (10, .int .i64 ls.length), (11, .int .i64 i)]) (fun _ => L) (fun _ => K)
    (fun i => i ≤ ls.length) (fun i => ls.length + 1 - i) 0 (by omega) ?_ (.refl _) (.refl _) ?_
  · repeat' (first | exact Sub.nil _ | refine Sub.cons (congrArg (fun z => some (AV.int .i64 z)) (wrap_succ (by omega))) ?_ | refine Sub.cons rfl ?_)
  rintro i hi
  have hle := flat_le ls i
  have hle' := flat_le ls (i + 1)
  repeat' (first | (refine OS.do rfl ?_; first | refine OD.indexAddr rfl rfl rfl (hidx i (by omega)) ?_ | refine OD.load rfl rfl (hpart i (by omega)) ?_ | refine OD.len rfl rfl (hlen i (by omega)) ?_ | refine OD.len rfl rfl hA ?_ | (have hfl := flat_len (ls := ls) (i := i) (by omega); refine OD.bin (v := .int .i64 (((ls.take (i + 1)).flatten).length : Int)) rfl rfl rfl (congrArg (fun z => some (AV.int .i64 z)) ((int_wrap (by omega) (by omega)).trans (by omega))) ?_) | refine OD.callN rfl rfl rfl rfl (fun st hS => run80 h80 ((ls.take i).flatten).length (by rw [List.take_of_length_le (by omega)]; omega) (by omega) hS) (fun b => ?_) | refine OD.auto rfl rfl ?_) | refine OS.nil ?_ | refine WS.seq ?_ | refine QS.seqN ?_ | refine WS.region ?_ | refine WS.condF rfl ?_ | refine WS.condD rfl (fun _ => ?_) (fun _ => ?_) | refine WS.skip ?_ | refine WS.block ?_ | refine QS.blockN ?_ | refine WS.exit ?_ | refine QS.seqE ?_ | refine QS.blockH ?_ | refine QS.loopE ?_)
  all_goals try (exfalso; omega)
  all_goals try (refine QS.loopN (i + 1) ?_ ?_ ?_ ?_ ?_
                 · omega
                 · omega
                 · repeat' (first | exact Sub.nil _ | refine Sub.cons (congrArg (fun z => some (AV.int .i64 z)) (wrap_succ (by omega))) ?_ | refine Sub.cons rfl ?_)
                 · exact .refl _
                 · exact .refl _)
  have hT : ls.take i = ls := List.take_of_length_le (by omega)
  rw [hT]
  rename_i b
  clear hi hle hle' hT
  refine WS.loop (D := Nat × Nat) (fun d => [(6, .sl 1 d.2 0 ((ls.take d.1).flatten).length), (25, A), (26, .int .i64 ls.length), (27, .int .i64 d.1)]) (fun d => (d.2, .row 1 (rowx ls ls.flatten.length d.1)) :: L) (fun _ => K)
    (fun d => d.1 ≤ ls.length) (fun d => ls.length + 1 - d.1) (0, b) (by omega) ?_ (.refl _) (.refl _) ?_
  · repeat' (first | exact Sub.nil _ | refine Sub.cons (congrArg (fun z => some (AV.int .i64 z)) (wrap_succ (by omega))) ?_ | refine Sub.cons rfl ?_)
  rintro ⟨i, b⟩ hi
  dsimp only at hi ⊢
  have hle := flat_le ls i
  have hle' := flat_le ls (i + 1)
  repeat' (first | (refine OS.do rfl ?_; first | refine OD.indexAddr rfl rfl rfl (hidx i (by omega)) ?_ | refine OD.load rfl rfl (hpart i (by omega)) ?_ | (obtain ⟨z, e1, e2⟩ := hel i (by omega); refine OD.appendSl 0 rfl rfl rfl rfl (rowx_len _ _ _) rfl rfl rfl rfl rfl rfl ⟨⟨_, rfl⟩, hstr i (by omega)⟩ (fun st hS => e1 st hS.tail) (okBits rfl _) e2 (roomB rfl (by have := flat_len (ls := ls) (i := i) (by omega); rw [List.length_map]; omega)) (fun b' => ?_)) | refine OD.auto rfl rfl ?_) | refine OS.nil ?_ | refine WS.seq ?_ | refine QS.seqN ?_ | refine WS.region ?_ | refine WS.condD rfl (fun _ => ?_) (fun _ => ?_) | refine WS.skip ?_ | refine WS.block ?_ | refine WS.ret ?_ | refine QS.blockN ?_ | refine WS.exit ?_ | refine QS.seqE ?_ | refine QS.blockH ?_ | refine QS.loopE ?_)
  all_goals try (have hlt : i < ls.length := by omega
                 have hfl := flat_len hlt
                 rename_i b' _ _
                 refine QS.loopN (i + 1, b') ?_ ?_ ?_ ?_ ?_
                 · dsimp only; omega
                 · dsimp only; omega
                 · repeat' (first | exact Sub.nil _ | refine Sub.cons (congrArg (fun z => some (AV.sl 1 _ 0 z)) (by rw [List.length_map]; exact hfl.symm)) ?_ | refine Sub.cons (congrArg (fun z => some (AV.int .i64 z)) (wrap_succ (by omega))) ?_ | refine Sub.cons rfl ?_)
                 · dsimp only
                   rw [← rowx_succ hlt]; exact .refl _
                 · exact .refl _)
  have hlt : ¬ i < ls.length := by omega
  have hT : ls.take i = ls := List.take_of_length_le (by omega)
  have h0' : i ≠ 0 := by
    rintro rfl
    have : ls = [] := List.length_eq_zero_iff.1 (by omega)
    rw [this] at h0; simp at h0
  refine QS.retRS (by rfl) fun st hS => ⟨b, by rw [hT], ?_⟩
  unfold rowx at hS
  rw [if_neg h0', hT] at hS
  exact hS
/-- The same of rows that are never written again. -/
theorem run74s (h1 : pr 74 = none) (h80 : pr 80 = none) (s : GSl (GSl UInt8)) (hml : s.xs.length ≤ 1000000) (h0 : 0 < (vals s).flatten.length) (hn : (vals s).flatten.length ≤ 1000000) {L : List (Nat × AObj)} {K : List (Nat × Bool)} {st : St} (hS : SFa L K st) :
    CW (En pr) 74 [rowsAV s] st fun r st' => ∃ b, r = .sl 1 b 0 (vals s).flatten.length ∧ SFa ((b, .row 1 ((vals s).flatten.map bitAV)) :: L) K st' := by
  have e1 : ∀ (i : Nat) (h : i < (s.xs.map fun x => x.av 1 bitAV).length), (s.xs.map fun x => x.av 1 bitAV)[i] = (s.xs[i]'(by simpa using h)).av 1 bitAV := fun i h => by simp
  have e2 : ∀ (i : Nat) (h : i < (s.xs.map fun x => x.av 1 bitAV).length), (vals s)[i]'(by rw [vals_len]; simpa using h) = (s.xs[i]'(by simpa using h)).xs := fun i h => by simp [vals]
  refine run74 h1 h80 (rowsAV s) (s.xs.map fun x => x.av 1 bitAV) (vals s) (by rw [List.length_map, vals_len]) (by rw [vals_len]; exact hml) h0 hn (fun st => by rw [vals_len]; exact lenTy_av rfl rfl) (fun i h => ?_) (fun i h => ?_) (fun i h st => ?_) (fun i h => ?_) (fun i h => ?_) hS
  · rw [e1 i h]; exact indexAddrA_natS rfl rfl rfl rfl (List.getElem?_eq_getElem _)
  · rfl
  · rw [e1 i h, e2 i h]; exact lenTy_av rfl rfl
  · rw [e1 i h]; exact isStr_av
  · rw [e1 i h, e2 i h]
    obtain ⟨z, hz⟩ := elems_bits' (s.xs[i]'(by simpa using h))
    exact ⟨z, fun st _ => hz.1 st, hz.2⟩
end
end Go.RtlEnv

/- The small functions of words' values: what is known of each. -/
namespace Go.RtlEnv
open Go Go.Proofs Go.Abs Go.RowKit
set_option maxRecDepth 10000
/-- A result is these bits. -/
def Res (l : List UInt8) (x : AV) (st : St) : Prop := ∃ r' st', freezeA st x = some (r', st') ∧ AV.plain r' = (nz l).av 1 bitAV ∧ AV.free r' = true
theorem Res.tok {l : List UInt8} {t : Nat} {st : St} : Res l (.vs 1 (.tok t) (l.map bitAV)) st := ⟨_, _, rfl, plain_vs bit_plain _ _ _, freeL_map bit_free l⟩
theorem Res.full {l : List UInt8} {st : St} : Res l (.vs 1 .full (l.map bitAV)) st := ⟨_, _, rfl, by simp [AV.plain, Own.plain, plainL_map bit_plain, nz_av], freeL_map bit_free l⟩
theorem Res.any {l : List UInt8} {st : St} : Res l (.vs 1 .any (l.map bitAV)) st := ⟨_, _, rfl, by simp [AV.plain, Own.plain, plainL_map bit_plain, nz_av], freeL_map bit_free l⟩
theorem Res.av {s : GSl UInt8} (h : s.xs ≠ []) {st : St} : Res s.xs (s.av 1 bitAV) st := by rw [nz_of h]; exact Res.any
theorem Res.acc {l : List UInt8} (h : l ≠ []) {t : Nat} {st : St} : Res l (accA t 1 (l.map bitAV)) st := by
  cases l with
  | nil => exact absurd rfl h
  | cons a l => exact Res.tok
theorem Res.row {l : List UInt8} {b n : Nat} {st : St} (hn : n = l.length) (h : st.get b = some (.row 1 (l.map bitAV))) : Res l (.sl 1 b 0 n) st := by
  obtain ⟨tk, st', h1⟩ := freeze_row h (n := n) (by rw [List.length_map]; exact hn.symm)
  exact ⟨_, _, h1, plain_vs bit_plain _ _ _, freeL_map bit_free l⟩
theorem Res.val {b : Bool} : ∀ st, ∃ r' st', freezeA st (.bool b) = some (r', st') ∧ AV.plain r' = .bool b ∧ AV.free r' = true := fun st => ⟨_, _, rfl, rfl, rfl⟩
theorem Res.int {k : IntKind} {b : Int} : ∀ st, ∃ r' st', freezeA st (.int k b) = some (r', st') ∧ AV.plain r' = .int k b ∧ AV.free r' = true := fun st => ⟨_, _, rfl, rfl, rfl⟩
theorem Good.add2 {pr : Prims} (h : Good pr) {f : FuncId} {R : Rel} (hc : Con2 (En pr) f R) (hent : ∀ (w : World) (vargs : Array Value), (callFunc f vargs).run Tryd.prog w = .ok (.enter f vargs) w) : Good (Go.RtlEnv.add pr f (primOf R)) :=
  ⟨fun B w0 => (h.ok B w0).addPrim (hc.does (En_ok pr) h.ok hent B w0)⟩
theorem rowsAV_free (s : GSl (GSl UInt8)) : AV.free (rowsAV s) = true := free_av fun a => free_av bit_free
theorem rowsAV_plain (s : GSl (GSl UInt8)) : AV.plain (rowsAV s) = rowsAV s := plain_av fun a => plain_av bit_plain
def Rel46 : Rel := fun a x => ∃ s : GSl UInt8, s.xs ≠ [] ∧ s.xs.length ≤ 1000000 ∧ a = [s.av 1 bitAV] ∧ x = (nz s.xs).av 1 bitAV
def Rel72 : Rel := fun a x => ∃ s : GSl UInt8, s.xs.length ≤ 1000000 ∧ a = [s.av 1 bitAV] ∧ x = (nz (invM s.xs)).av 1 bitAV
def Rel73 : Rel := fun a x => ∃ (s t : GSl UInt8) (c : UInt8), s.xs.length ≤ 1000000 ∧ t.xs.length = s.xs.length ∧ a = [s.av 1 bitAV, t.av 1 bitAV, bitAV c] ∧ x = (nz (addM s.xs t.xs c)).av 1 bitAV
def Rel74 : Rel := fun a x => ∃ s : GSl (GSl UInt8), s.xs.length ≤ 1000000 ∧ 0 < (vals s).flatten.length ∧ (vals s).flatten.length ≤ 1000000 ∧ a = [rowsAV s] ∧ x = (nz (vals s).flatten).av 1 bitAV
def oneM (b : Bool) : List UInt8 := [if b then 1 else 0]
def Rel75 : Rel := fun a x => ∃ b : Bool, a = [.bool b] ∧ x = (nz (oneM b)).av 1 bitAV
def Rel76 : Rel := fun a x => ∃ s t : GSl UInt8, s.xs.length ≤ 1000000 ∧ a = [s.av 1 bitAV, t.av 1 bitAV] ∧ x = .bool (decide (s.xs = t.xs))
def Rel77 : Rel := fun a x => ∃ s : GSl UInt8, s.xs.length ≤ 31 ∧ upto 1 s.xs = true ∧ a = [s.av 1 bitAV] ∧ x = .int .i64 (numM s.xs : Int)
def Rel59 : Rel := fun a x => ∃ s : GSl UInt8, s.xs ≠ [] ∧ s.xs.length ≤ 1000000 ∧ a = [s.av 1 bitAV] ∧ x = (nz (invM s.xs)).av 1 bitAV
def Rel60 : Rel := fun a x => ∃ (s t : GSl UInt8) (c : UInt8), s.xs ≠ [] ∧ s.xs.length ≤ 1000000 ∧ t.xs.length = s.xs.length ∧ a = [s.av 1 bitAV, t.av 1 bitAV, bitAV c] ∧ x = (nz (addM s.xs t.xs c)).av 1 bitAV
def Rel61 : Rel := fun a x => ∃ (s : GSl UInt8) (n : Int), s.xs.length ≤ 1000000 ∧ (-4611686018427387904 < n ∧ n < 4611686018427387904) ∧ a = [s.av 1 bitAV, .int .i64 n] ∧ x = (nz (leftM s.xs n)).av 1 bitAV
def Rel63 : Rel := fun a x => ∃ s t : GSl UInt8, s.xs.length ≤ 1000000 ∧ t.xs.length = s.xs.length ∧ a = [s.av 1 bitAV, t.av 1 bitAV] ∧ x = .bool (lessM s.xs t.xs)
theorem invM_ne {l : List UInt8} (h : l ≠ []) : invM l ≠ [] := by simpa [invM] using h
theorem ne_of_len {α : Type} {l : List α} (h : 0 < l.length) : l ≠ [] := List.length_pos_iff.1 h
section
variable {pr : Prims}
theorem con46 (h : pr 46 = none) : Con2 (En pr) 46 Rel46 :=
  ⟨by rintro a x ⟨s, _, _, rfl, rfl⟩; simp [AV.freeL, free_av bit_free], by
    rintro a x ⟨s, h0, h1, rfl, rfl⟩
    rw [nz_of h0]
    exact (run46 h s.xs h0 h1 _).mono fun x st ⟨t, e⟩ => by subst e; exact Res.tok⟩
theorem con72 (h : pr 72 = none) : Con2 (En pr) 72 Rel72 :=
  ⟨by rintro a x ⟨s, _, rfl, rfl⟩; simp [AV.freeL, free_av bit_free], by
    rintro a x ⟨s, h1, rfl, rfl⟩
    exact (run72 h s h1 _).mono fun x st ⟨b, e, hg⟩ => by subst e; exact Res.row (by simp [invM]) hg⟩
theorem con73 (h : pr 73 = none) : Con2 (En pr) 73 Rel73 :=
  ⟨by rintro a x ⟨s, t, c, _, _, rfl, rfl⟩; simp [AV.freeL, free_av bit_free, bit_free], by
    rintro a x ⟨s, t, c, h1, h2, rfl, rfl⟩
    exact (run73 h s t c h1 h2 _).mono fun x st ⟨b, e, hg⟩ => by subst e; exact Res.row (addM_len _ _ _ h2.symm).symm hg⟩
theorem con74 (h : pr 74 = none) (h80 : pr 80 = none) : Con2 (En pr) 74 Rel74 :=
  ⟨by rintro a x ⟨s, _, _, _, rfl, rfl⟩; simp [AV.freeL, rowsAV_free], by
    rintro a x ⟨s, h1, h2, h3, rfl, rfl⟩
    exact (run74s h h80 s h1 h2 h3 (L := []) (K := []) ⟨fun _ _ _ h => by simp at h, fun _ _ _ _ _ h => by simp at h, fun _ _ h => by simp at h, fun _ _ _ h => by simp at h⟩).mono fun x st ⟨b, e, hg⟩ => by subst e; exact Res.row rfl (hg.obj 0 b _ rfl).1⟩
theorem con75 (h : pr 75 = none) : Con2 (En pr) 75 Rel75 := ⟨by rintro a x ⟨b, rfl, rfl⟩; rfl, by rintro a x ⟨b, rfl, rfl⟩; exact (run75 h b _).mono fun x st e => by subst e; exact Res.full (l := oneM b)⟩
theorem con62 (h : pr 62 = none) : Con2 (En pr) 62 Rel75 := ⟨by rintro a x ⟨b, rfl, rfl⟩; rfl, by rintro a x ⟨b, rfl, rfl⟩; exact (run62 h b _).mono fun x st e => by subst e; exact Res.full (l := oneM b)⟩
theorem con76 (h : pr 76 = none) : Con2 (En pr) 76 Rel76 := ⟨by rintro a x ⟨s, t, _, rfl, rfl⟩; simp [AV.freeL, free_av bit_free], by
    rintro a x ⟨s, t, h1, rfl, rfl⟩; exact (run76 h s t (by omega) _).mono fun x st e => by subst e; exact Res.val _⟩
theorem con77 (h : pr 77 = none) : Con2 (En pr) 77 Rel77 := ⟨by rintro a x ⟨s, _, _, rfl, rfl⟩; simp [AV.freeL, free_av bit_free], by
    rintro a x ⟨s, h1, h2, rfl, rfl⟩; exact (run77 h s h1 h2 _).mono fun x st e => by subst e; exact Res.int _⟩
theorem con64 (h : pr 64 = none) : Con2 (En pr) 64 Rel77 := ⟨by rintro a x ⟨s, _, _, rfl, rfl⟩; simp [AV.freeL, free_av bit_free], by
    rintro a x ⟨s, h1, h2, rfl, rfl⟩; exact (run64 h s h1 h2 _).mono fun x st e => by subst e; exact Res.int _⟩
theorem con59 (h : pr 59 = none) : Con2 (En pr) 59 Rel59 := ⟨by rintro a x ⟨s, _, _, rfl, rfl⟩; simp [AV.freeL, free_av bit_free], by
    rintro a x ⟨s, h0, h1, rfl, rfl⟩; exact (run59 h s h1 _).mono fun x st ⟨t, e⟩ => by subst e; exact Res.acc (invM_ne h0)⟩
theorem con60 (h : pr 60 = none) : Con2 (En pr) 60 Rel60 := ⟨by rintro a x ⟨s, t, c, _, _, _, rfl, rfl⟩; simp [AV.freeL, free_av bit_free, bit_free], by
    rintro a x ⟨s, t, c, h0, h1, h2, rfl, rfl⟩
    exact (run60 h s t c h1 h2 _).mono fun x st ⟨t', e⟩ => by subst e; exact Res.acc (ne_of_len (by rw [addM_len _ _ _ h2.symm]; exact List.length_pos_iff.2 h0))⟩
theorem con61 (h : pr 61 = none) : Con2 (En pr) 61 Rel61 := ⟨by rintro a x ⟨s, n, _, _, rfl, rfl⟩; simp [AV.freeL, free_av bit_free, AV.free], by
    rintro a x ⟨s, n, h1, h2, rfl, rfl⟩; exact (run61 h s n h1 h2 _).mono fun x st ⟨b, e, hg⟩ => by subst e; exact Res.row (leftM_len _ _).symm hg⟩
theorem con63 (h : pr 63 = none) : Con2 (En pr) 63 Rel63 := ⟨by rintro a x ⟨s, t, _, _, rfl, rfl⟩; simp [AV.freeL, free_av bit_free], by
    rintro a x ⟨s, t, h1, h2, rfl, rfl⟩; exact (run63 h s t (by omega) h2 _).mono fun x st e => by subst e; exact Res.val _⟩
end
end Go.RtlEnv

/- What a word's value is. -/
namespace Go.RtlEnv
open Go Go.Proofs Go.Abs Go.RowKit
set_option maxRecDepth 10000
def bitM (op : Int) (a b : UInt8) : UInt8 := if op = 5 then a &&& b else if op = 6 then a ||| b else a ^^^ b
def mulS (x y : List UInt8) : Nat → List UInt8
  | 0 => List.replicate x.length 0
  | i + 1 => if y.getD i 0 = 1 then addM (mulS x y i) (leftM x i) 0 else mulS x y i
def kd (k : List (List UInt8)) (i : Nat) : List UInt8 := k.getD i []
def evalM (op len n : Int) (bits : List UInt8) (k : List (List UInt8)) : List UInt8 :=
  if op = 1 then bits
  else if op = 4 then invM (kd k 0)
  else if op = 5 ∨ op = 6 ∨ op = 7 then List.zipWith (bitM op) (kd k 0) (kd k 1)
  else if op = 8 then addM (kd k 0) (kd k 1) 0
  else if op = 9 then addM (kd k 0) (invM (kd k 1)) 1
  else if op = 10 then mulS (kd k 0) (kd k 1) (kd k 1).length
  else if op = 11 then oneM (decide (kd k 0 = kd k 1))
  else if op = 12 then oneM (lessM (kd k 0) (kd k 1))
  else if op = 13 then (if (kd k 0).getD 0 0 = 1 then kd k 1 else kd k 2)
  else if op = 14 then k.flatten
  else if op = 15 then ((kd k 0).drop n.toNat).take len.toNat
  else if op = 16 then leftM (kd k 0) (numM (kd k 1))
  else leftM (kd k 0) (-(numM (kd k 1) : Int))
structure KidsOk (op len n : Int) (k : List (List UInt8)) : Prop where
  size : 1 ≤ len ∧ len ≤ 4096
  count : okKids op k.length = true
  each : ∀ x ∈ k, upto 1 x = true ∧ 1 ≤ x.length ∧ x.length ≤ 4096
  same : 4 ≤ op ∧ op ≤ 10 → ∀ x ∈ k, (x.length : Int) = len
  cmp : op = 11 ∨ op = 12 → len = 1 ∧ (kd k 0).length = (kd k 1).length
  mux : op = 13 → (kd k 0).length = 1 ∧ ((kd k 1).length : Int) = len ∧ ((kd k 2).length : Int) = len
  join : op = 14 → (k.flatten.length : Int) = len
  part : op = 15 → 0 ≤ n ∧ n ≤ 4096 ∧ n + len ≤ (kd k 0).length
  shift : op = 16 ∨ op = 17 → ((kd k 0).length : Int) = len ∧ (kd k 1).length ≤ 31
theorem kd_mem {k : List (List UInt8)} {i : Nat} (h : i < k.length) : kd k i ∈ k := by
  unfold kd
  rw [List.getD_eq_getElem?_getD, List.getElem?_eq_getElem h, Option.getD_some]
  exact List.getElem_mem h
theorem kd_vals {s : GSl (GSl UInt8)} {i : Nat} {x : GSl UInt8} (h : s.xs[i]? = some x) : kd (vals s) i = x.xs := by
  unfold kd vals
  rw [List.getD_eq_getElem?_getD, List.getElem?_map, h]; rfl
/-- A row that is filled from its start on. -/
def fillM (m : List UInt8) (i : Nat) : List UInt8 := m.take i ++ List.replicate (m.length - i) 0
theorem fillM_zero (m : List UInt8) : fillM m 0 = List.replicate m.length 0 := by simp [fillM]
theorem fillM_all (m : List UInt8) {i : Nat} (h : m.length ≤ i) : fillM m i = m := by
  unfold fillM
  rw [List.take_of_length_le h, show m.length - i = 0 by omega]; simp
theorem fillM_len (m : List UInt8) {i : Nat} (h : i ≤ m.length) : (fillM m i).length = m.length := by
  unfold fillM; simp; omega
theorem fillM_set {m : List UInt8} {i : Nat} (h : i < m.length) {v : Int} (hv : v = (m[i].toNat : Int)) : ((fillM m i).map bitAV).set i (.int .u8 v) = (fillM m (i + 1)).map bitAV := by
  subst hv
  unfold fillM
  show List.set _ _ (bitAV m[i]) = _
  rw [← List.map_set, set_mid (by rw [List.length_take]; omega) (by rw [List.length_replicate]; omega), rep_tail, List.take_succ_eq_append_getElem h]
  rfl
theorem u8_bits (f : UInt8 → UInt8 → UInt8) (g : BitVec 8 → BitVec 8 → BitVec 8) (h : ∀ a b, (f a b).toBitVec = g a.toBitVec b.toBitVec) (a b : UInt8) : IntKind.u8.wrap ((g (BitVec.ofInt IntKind.u8.bits (a.toNat : Int)) (BitVec.ofInt IntKind.u8.bits (b.toNat : Int))).toNat : Int) = ((f a b).toNat : Int) := by
  have e : ∀ c : UInt8, BitVec.ofInt 8 (c.toNat : Int) = c.toBitVec := by
    intro c
    apply BitVec.eq_of_toNat_eq
    rw [BitVec.toNat_ofInt]
    have e1 : c.toBitVec.toNat = c.toNat := rfl
    have := c.toNat_lt
    rw [e1]
    omega
  show IntKind.u8.wrap ((g (BitVec.ofInt 8 (a.toNat : Int)) (BitVec.ofInt 8 (b.toNat : Int))).toNat : Int) = _
  rw [e, e, ← h, wrap8]
  have : (f a b).toBitVec.toNat = (f a b).toNat := rfl
  rw [this]
  have := (f a b).toNat_lt
  omega
theorem u8_and (a b : UInt8) : IntKind.u8.wrap ((BitVec.ofInt IntKind.u8.bits (a.toNat : Int) &&& BitVec.ofInt IntKind.u8.bits (b.toNat : Int)).toNat : Int) = ((a &&& b).toNat : Int) := u8_bits (· &&& ·) (· &&& ·) (fun _ _ => rfl) a b
theorem u8_or (a b : UInt8) : IntKind.u8.wrap ((BitVec.ofInt IntKind.u8.bits (a.toNat : Int) ||| BitVec.ofInt IntKind.u8.bits (b.toNat : Int)).toNat : Int) = ((a ||| b).toNat : Int) := u8_bits (· ||| ·) (· ||| ·) (fun _ _ => rfl) a b
theorem u8_xor (a b : UInt8) : IntKind.u8.wrap ((BitVec.ofInt IntKind.u8.bits (a.toNat : Int) ^^^ BitVec.ofInt IntKind.u8.bits (b.toNat : Int)).toNat : Int) = ((a ^^^ b).toNat : Int) := u8_bits (· ^^^ ·) (· ^^^ ·) (fun _ _ => rfl) a b
theorem zip_at {op : Int} {x y : List UInt8} {i : Nat} (h : i < (List.zipWith (bitM op) x y).length) (hx : i < x.length) (hy : i < y.length) : (List.zipWith (bitM op) x y)[i] = bitM op x[i] y[i] := by simp
/-- Moving up, and down, as taking and dropping. -/
theorem leftM_up (l : List UInt8) (n : Nat) (h : n ≤ l.length) : leftM l n = List.replicate n 0 ++ l.take (l.length - n) := by
  refine List.ext_getElem (by rw [leftM_len]; simp; omega) fun i h1 h2 => ?_
  rw [leftM_len] at h1
  rw [leftM_at]
  by_cases hi : i < n
  · rw [leftAt_out (by omega), List.getElem_append_left (by simpa using hi)]; simp
  · rw [leftAt_in (by omega) (by omega), List.getElem_append_right (by simpa using hi)]
    simp only [List.length_replicate, List.getElem_take]
    congr 1; omega
theorem leftM_over (l : List UInt8) (n : Int) (h : (l.length : Int) ≤ n) : leftM l n = List.replicate l.length 0 := by
  refine List.ext_getElem (by rw [leftM_len]; simp) fun i h1 h2 => ?_
  rw [leftM_len] at h1
  rw [leftM_at, leftAt_out (by omega)]; simp
theorem leftM_down (l : List UInt8) (n : Nat) (h : n ≤ l.length) : leftM l (-(n : Int)) = l.drop n ++ List.replicate n 0 := by
  refine List.ext_getElem (by rw [leftM_len]; simp; omega) fun i h1 h2 => ?_
  rw [leftM_len] at h1
  rw [leftM_at]
  by_cases hi : i < l.length - n
  · rw [leftAt_in (by omega) (by omega), List.getElem_append_left (by simpa using hi)]
    simp only [List.getElem_drop]
    congr 1; omega
  · rw [leftAt_out (by omega), List.getElem_append_right (by simpa using hi)]; simp
theorem leftM_under (l : List UInt8) (n : Int) (h : n ≤ -(l.length : Int)) : leftM l n = List.replicate l.length 0 := by
  refine List.ext_getElem (by rw [leftM_len]; simp) fun i h1 h2 => ?_
  rw [leftM_len] at h1
  rw [leftM_at, leftAt_out (by omega)]; simp
theorem mulS_len (x y : List UInt8) : ∀ i, (mulS x y i).length = x.length
  | 0 => by simp [mulS]
  | i + 1 => by
    simp only [mulS]
    split
    · rw [addM_len _ _ _ (by rw [mulS_len x y i, leftM_len]), mulS_len x y i]
    · exact mulS_len x y i
/-- A cut of bits that are there. -/
theorem slice_nz {E : Env} {t e : TypeId} {y et : Ty} {l : List UInt8} {k1 k2 : IntKind} {lo hi : Nat} (h1 : E.ty t = some y) (h2 : y.d = .slice e) (h3 : E.ty e = some et) (h4 : et.size = 1) (hlo : lo ≤ hi) (hhi : hi ≤ l.length) :
    sliceA E t ((nz l).av 1 bitAV) (some (.int k1 (lo : Int))) (some (.int k2 (hi : Int))) none = some ((nz ((l.drop lo).take (hi - lo))).av 1 bitAV) := by
  rw [nz_av, nz_av]
  unfold sliceA
  rw [h1]
  dsimp only
  rw [h2]
  dsimp only
  rw [h3]
  dsimp only
  rw [if_pos h4]
  simp [cutA, optNat, asNat, hlo, hhi, List.map_take, List.map_drop]
theorem slice_nzHi {E : Env} {t e : TypeId} {y et : Ty} {l : List UInt8} {k2 : IntKind} {hi : Nat} (h1 : E.ty t = some y) (h2 : y.d = .slice e) (h3 : E.ty e = some et) (h4 : et.size = 1) (hhi : hi ≤ l.length) :
    sliceA E t ((nz l).av 1 bitAV) none (some (.int k2 (hi : Int))) none = some ((nz (l.take hi)).av 1 bitAV) := by
  rw [nz_av, nz_av]
  unfold sliceA
  rw [h1]
  dsimp only
  rw [h2]
  dsimp only
  rw [h3]
  dsimp only
  rw [if_pos h4]
  simp [cutA, optNat, asNat, hhi, List.map_take]
theorem slice_nzLo {E : Env} {t e : TypeId} {y et : Ty} {l : List UInt8} {k1 : IntKind} {lo : Nat} (h1 : E.ty t = some y) (h2 : y.d = .slice e) (h3 : E.ty e = some et) (h4 : et.size = 1) (hlo : lo ≤ l.length) :
    sliceA E t ((nz l).av 1 bitAV) (some (.int k1 (lo : Int))) none none = some ((nz (l.drop lo)).av 1 bitAV) := by
  rw [nz_av, nz_av]
  unfold sliceA
  rw [h1]
  dsimp only
  rw [h2]
  dsimp only
  rw [h3]
  dsimp only
  rw [if_pos h4]
  simp [cutA, optNat, asNat, hlo, List.map_drop, List.take_of_length_le]
end Go.RtlEnv
