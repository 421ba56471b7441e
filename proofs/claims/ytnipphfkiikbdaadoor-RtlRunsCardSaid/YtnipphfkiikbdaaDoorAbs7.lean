/- Own text of this claim: part 7 of an interpreter that is proved sound against the model, and of what it shows of the law. -/
import Derived.Shelf.RegionOpenPlain
import Derived.Lib.Builder
import Derived.Lib.UnsafeStr
import Derived.WalkKit
import Derived.Laws.Externs
import Derived.Laws.IdiomCopy
import Derived.Test.YtnipphfkiikbdaaDoorAbsEnv
import Derived.Test.YtnipphfkiikbdaaDoorAbs5
import Derived.Test.YtnipphfkiikbdaaDoorAbs6
/- What a strings.Builder does: (copyCheck, String), for the interpreter. -/
namespace Go.RtlEnv
open Go Go.Proofs Go.Abs Go.RowKit

set_option maxHeartbeats 1000000 in
set_option maxRecDepth 100000 in
theorem copyCheck_used (b : Nat) (w : World) (h0 : w.cell? ⟨b, 0, none⟩ = some (.pointer (some ⟨b, 0, none⟩))) :
    Calls Tryd.prog 89 #[.pointer (some ⟨b, 0, none⟩)] w fun e w' => e = .returned (.tuple #[]) ∧ w' = w := by
  go_enter Tryd.func89, Tryd.ntmps89
  go_wp2
  rw [Lib.run_neq_ptr_same w _ Tryd.underlying117 (info_of Tryd.type119)]
  go_wp2
  go_end0
  exact ⟨rfl, rfl⟩

theorem liesAt_self {P : Program} {e : TypeId} {s : Nat} (hc : P.cellsOf e = s) (hs : s ≠ 0) (count : Nat) (hn : 1 ≤ count) : liesAt P P.depth e count 0 e 1 = true := by
  have hd : P.depth = (2 * (P.types.size + Made.depth) + 1) + 1 := rfl
  rw [hd]
  simp only [liesAt, Bool.or_eq_true]
  left
  rw [hd]
  simp [rowAt, hc, hs, hn, sameLayout]

set_option maxHeartbeats 1000000 in
set_option maxRecDepth 100000 in
theorem copyCheck_fresh (b n : Nat) (w : World) (hn : 2 ≤ n) (h0 : w.cell? ⟨b, 0, none⟩ = some (.pointer none)) (hsh : w.shape? b = some (119, n)) (hfz : w.frozen? ⟨b, 0, none⟩ = false) :
    Calls Tryd.prog 89 #[.pointer (some ⟨b, 0, none⟩)] w fun e w' => e = .returned (.tuple #[]) ∧ w' = w.setCell ⟨b, 0, none⟩ (.pointer (some ⟨b, 0, none⟩)) := by
  go_enter Tryd.func89, Tryd.ntmps89
  go_wp2
  rw [Lib.run_to_unsafe w ⟨b, 0, none⟩ Tryd.underlying117 Tryd.underlying128 (info_of Tryd.type119) (by decide) hsh (show 0 < n by omega)]
  simp only [Result.andThen]
  rw [Oper.upon_value]
  go_wp2
  rw [run_callFunc_extern Tryd.func91 (by kernel_rfl) (by kernel_rfl) (by kernel_rfl) (e := Extern.AbiNoEscape.same) (by kernel_rfl)]
  rw [Lib.run_noEscape]
  simp only [Result.andThen]
  rw [Oper.upon_value]
  go_wp2
  rw [Lib.run_from_unsafe w ⟨b, 0, none⟩ Tryd.underlying128 Tryd.underlying117 (info_of Tryd.type119) hsh (liesAt_self (by kernel_rfl : Tryd.prog.cellsOf 119 = 2) (by decide) (n / Tryd.prog.cellsOf 119) (by rw [(by kernel_rfl : Tryd.prog.cellsOf 119 = 2)]; omega))]
  simp only [Result.andThen]
  rw [Oper.upon_value]
  go_wp2
  go_end0
  exact ⟨rfl, rfl⟩

section
variable {P : Program} (w : World)
theorem liesAt_bytes_off {e : TypeId} (hc : P.cellsOf e = 1) (count off n : Nat) (hn : off + n ≤ count) : liesAt P P.depth e count off e n = true := by
  have hd : P.depth = (2 * (P.types.size + Made.depth) + 1) + 1 := rfl
  rw [hd]
  simp only [liesAt, Bool.or_eq_true]
  left
  rw [hd]
  simp [rowAt, hc, hn, sameLayout, Nat.mod_one]

theorem run_unsafeString_off (pt it ty e : TypeId) (hp : P.underlying pt = some (.pointer e)) (hc : P.cellsOf e = 1) (g o cells : Nat) (hsh : w.shape? g = some (e, cells)) (l : List UInt8) (h0 : l ≠ []) (hn : o + l.length ≤ cells) (h63 : l.length ≤ 9223372036854775807)
    (hcell : ∀ j x, l[j]? = some x → w.cell? ((⟨g, o, none⟩ : Addr).add j) = some (.int .u8 x.toNat)) :
    (Builtin.unsafeString_ #[pt, it] ty #[.pointer (some ⟨g, o, none⟩), .int .i64 l.length]).run P w = .ok (.string ⟨l.toArray⟩) (w.freeze ⟨g, o, none⟩ l.length) := by
  have hl : l.length ≠ 0 := by simpa using h0
  have hlb := Lib.run_loadBytes (P := P) w l ⟨g, o, none⟩ .empty hcell
  have hlies := liesAt_bytes_off (P := P) hc (cells / P.cellsOf e) o l.length (by rw [hc]; simpa using hn)
  have h63' : ¬ (9223372036854775807 : Int) < (l.length : Int) := by omega
  have hmax : IntKind.i64.max = 9223372036854775807 := rfl
  have hneg : ¬ (l.length : Int) < 0 := by omega
  refine (Sem.run_bind (P := P) (w := w) (asInt (.int .i64 l.length)) _).trans ?_
  simp [asInt, asIntOf, hmax, h63', hneg, hl, variablesAt, hsh, elemOf, run_underlying hp, hlies, hlb]
end

set_option maxHeartbeats 1000000 in
set_option maxRecDepth 100000 in
theorem builder_string (b g o cap cells : Nat) (l : List UInt8) (w : World) (h0 : l ≠ []) (c1 : w.cell? ⟨b, 1, none⟩ = some (.slice (some ⟨g, o, none⟩) l.length cap)) (hcap : l.length ≤ cap) (h63 : l.length ≤ 9223372036854775807)
    (hsh : w.shape? g = some (5, cells)) (hfit : o + l.length ≤ cells) (hcell : ∀ j x, l[j]? = some x → w.cell? ⟨g, o + j, none⟩ = some (.int .u8 x.toNat)) :
    Calls Tryd.prog 87 #[.pointer (some ⟨b, 0, none⟩)] w fun e w' => e = .returned (.string ⟨l.toArray⟩) ∧ w' = w.drew.freeze ⟨g, o, none⟩ l.length := by
  have hl0 : l.length ≠ 0 := by simpa using h0
  have c1' : w.drew.cell? ⟨b, 1, none⟩ = some (.slice (some ⟨g, o, none⟩) l.length cap) := c1
  have hSD : (Builtin.unsafeSliceData_ #[42] 127 #[.slice (some ⟨g, o, none⟩) l.length cap]).run Tryd.prog w.drew = .ok (.pointer (some ⟨g, o, none⟩)) w.drew :=
    Lib.run_unsafeSliceData_row _ _ _ _ _ _ (by omega)
  have hUS : (Builtin.unsafeString_ #[127, 3] 9 #[.pointer (some ⟨g, o, none⟩), .int .i64 l.length]).run Tryd.prog w.drew = .ok (.string ⟨l.toArray⟩) (w.drew.freeze ⟨g, o, none⟩ l.length) :=
    run_unsafeString_off w.drew 127 3 9 5 Tryd.underlying127 (by kernel_rfl) g o cells hsh l h0 hfit h63 (fun j x hx => by rw [add_mk]; exact hcell j x hx)
  have hmixed : Tryd.prog.follows .mixedOrders = true := mixed
  go_enter Tryd.func87, Tryd.ntmps87
  go_wp2
  go_region_o
  all_goals (go_wp2; go_ret; exact ⟨rfl, rfl⟩)
end Go.RtlEnv

/- awake(): a closed run. -/
namespace Go.RtlEnv
open Go Go.Proofs Go.Abs Go.RowKit

def prims (f : FuncId) : Option (List AV → St → Option (AV × St)) := bif Nat.beq f 89 then some (bldCopy 119) else bif Nat.beq f 87 then some (bldString 119 5) else none
noncomputable def E1 : Env := { ty := tys.find, fns := fns.find, prim := prims, pol := polOf [(68,3,2,1),(70,3,2,1),(50,6,2,0),(50,43,2,0),(50,14,5,0),(50,25,14,1),(74,9,1,0)], dyn := dyn }
theorem E1_ok : EnvOk Tryd.prog E1 := EnvOk.of_trees rfl rfl tys_ok fns_ok mixed
theorem E1_prims (B : Nat) (w0 : World) : PrimOk Tryd.prog E1 B w0 := by
  intro f g args st r st' hg h
  have hg' : prims f = some g := hg
  unfold prims at hg'
  cases h1 : Nat.beq f 89 with
  | true =>
    rw [h1] at hg'
    simp only [cond_true, Option.some.injEq] at hg'
    have hf : f = 89 := Nat.eq_of_beq_eq_true h1
    subst hf; subst hg'
    exact bldCopy_sound (fun w v => Tryd.call89 v w) copyCheck_used (fun b n w hn h0 hsh hfz => copyCheck_fresh b n w hn h0 hsh hfz) args st r st' h
  | false =>
    rw [h1] at hg'
    simp only [cond_false] at hg'
    cases h2 : Nat.beq f 87 with
    | true =>
      rw [h2] at hg'
      simp only [cond_true, Option.some.injEq] at hg'
      have hf : f = 87 := Nat.eq_of_beq_eq_true h2
      subst hf; subst hg'
      refine bldString_sound (fun w v => Tryd.call87 v w) (fun b q g o cap cells l w hq h0 c1 hcap h63 hsh hfit hcell => ?_) 119 args st r st' h
      subst hq
      exact builder_string b g o cap cells l w h0 c1 hcap h63 hsh hfit hcell
    | false => rw [h2] at hg'; cases hg'

def isT (x : Option (AV × St)) : Bool := match x with | some (.bool true, _) => true | _ => false
theorem isT_spec {x : Option (AV × St)} (h : isT x = true) : ∃ st, x = some (.bool true, st) := by
  unfold isT at h
  split at h
  · rename_i st; exact ⟨st, rfl⟩
  · cases h
set_option maxRecDepth 100000 in
theorem awake_run : isT (callF E1 400 9 [] St.empty) = true := by kernel_rfl
/-- awake() says true, and leaves what was there. -/
theorem awake_calls (w : World) : Calls Tryd.prog 9 #[] w fun e w' => e = .returned (.bool true) ∧ Below w.heap.size w w' := by
  obtain ⟨st, h⟩ := isT_spec awake_run
  refine (closed_calls E1_ok E1_prims h w).mono ?_
  rintro e w' ⟨v, Γ, rfl, hb, hr⟩
  simp only [R] at hr
  subst hr
  exact ⟨rfl, hb⟩
end Go.RtlEnv
