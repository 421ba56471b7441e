/- Own text of this claim: part 5 of an interpreter that is proved sound against the model, and of what it shows of the law. -/
import Derived.KernelRfl
import Derived.Test.YthomnnnhkfjbdaaGreatProg
import Derived.Test.YthomnnnhkfjbdaaGreatAbs4
namespace Go.OptEnv
open Go Go.Proofs Go.Abs
theorem info_of {t : TypeId} {i : TypeInfo} (h : Tryz.prog.types[t]? = some i) : Tryz.prog.info? t = some i := by
 have hs : t < Tryz.prog.types.size := (Array.getElem?_eq_some_iff.1 h).1
 unfold Tables.info?
 rw [if_pos hs, h]
def tyOfV (u : TypeDesc) (i : TypeInfo) : Option Ty :=
 match i.zero with
 | some z => if (isAggD u == (match z with | .agg _ => true | _ => false)) && (z.cells.toList.map ofCell).length == i.size && (z.cells.toList.map ofCell).all AV.cellOk then some { d := tdOf u, size := i.size, bytes := i.bytes, agg := isAggD u, zero := z.cells.toList.map ofCell, fs := fsOf u } else none
 | none => none
theorem tyA {t : TypeId} {y : Ty} {u : TypeDesc} {i : TypeInfo} (h1 : Tryz.prog.underlying t = some u) (h2 : Tryz.prog.types[t]? = some i) (h3 : tyOfV u i = some { y with eqOk := false }) (he : y.eqOk = true -> eqFine Tryz.prog t = true) : TyOk Tryz.prog t y := .of_tyOf (by unfold tyOf; rw [h1, info_of h2]; exact h3) he
theorem tyB {t : TypeId} {y : Ty} {u : TypeDesc} {i : TypeInfo} (h1 : Tryz.prog.underlying t = some u) (h2 : Tryz.prog.types[t]? = some i) (h3 : tyOfV u i = some { y with eqOk := false }) (he : y.eqOk = false) : TyOk Tryz.prog t y := tyA h1 h2 h3 fun h => by rw [he] at h; cases h
def ty1 : Ty := { d := .func, size := 1, bytes := 8, agg := false, zero := [.nilfn], fs := [], eqOk := false }
theorem ty1_ok : TyOk Tryz.prog 1 ty1 := tyB Tryz.underlying1 Tryz.type1 rfl rfl
def ty2 : Ty := { d := .int .i64, size := 1, bytes := 8, agg := false, zero := [.int .i64 0], fs := [], eqOk := false }
theorem ty2_ok : TyOk Tryz.prog 2 ty2 := tyB Tryz.underlying2 Tryz.type2 rfl rfl
def ty3 : Ty := { d := .int .i64, size := 1, bytes := 8, agg := false, zero := [.int .i64 0], fs := [], eqOk := false }
theorem ty3_ok : TyOk Tryz.prog 3 ty3 := tyB Tryz.underlying3 Tryz.type3 rfl rfl
def ty4 : Ty := { d := .bool, size := 1, bytes := 1, agg := false, zero := [.bool false], fs := [], eqOk := false }
theorem ty4_ok : TyOk Tryz.prog 4 ty4 := tyB Tryz.underlying4 Tryz.type4 rfl rfl
def ty5 : Ty := { d := .int .u8, size := 1, bytes := 1, agg := false, zero := [.int .u8 0], fs := [], eqOk := false }
theorem ty5_ok : TyOk Tryz.prog 5 ty5 := tyB Tryz.underlying5 Tryz.type5 rfl rfl
def ty9 : Ty := { d := .string, size := 1, bytes := 16, agg := false, zero := [.str ⟨#[]⟩], fs := [], eqOk := false }
theorem ty9_ok : TyOk Tryz.prog 9 ty9 := tyB Tryz.underlying9 Tryz.type9 rfl rfl
def ty22 : Ty := { d := .slice 9, size := 1, bytes := 24, agg := false, zero := [.nilsl], fs := [], eqOk := false }
theorem ty22_ok : TyOk Tryz.prog 22 ty22 := tyB Tryz.underlying22 Tryz.type22 rfl rfl
def ty23 : Ty := { d := .slice 68, size := 1, bytes := 24, agg := false, zero := [.nilsl], fs := [], eqOk := false }
theorem ty23_ok : TyOk Tryz.prog 23 ty23 := tyB Tryz.underlying23 Tryz.type23 rfl rfl
def ty24 : Ty := { d := .slice 53, size := 1, bytes := 24, agg := false, zero := [.nilsl], fs := [], eqOk := false }
theorem ty24_ok : TyOk Tryz.prog 24 ty24 := tyB Tryz.underlying24 Tryz.type24 rfl rfl
def ty25 : Ty := { d := .slice 55, size := 1, bytes := 24, agg := false, zero := [.nilsl], fs := [], eqOk := false }
theorem ty25_ok : TyOk Tryz.prog 25 ty25 := tyB Tryz.underlying25 Tryz.type25 rfl rfl
def ty27 : Ty := { d := .struct, size := 4, bytes := 96, agg := true, zero := [.nilsl, .nilsl, .nilsl, .nilsl], fs := [(22, 0), (23, 1), (24, 2), (25, 3)], eqOk := true }
theorem ty27_ok : TyOk Tryz.prog 27 ty27 := tyA Tryz.underlying27 Tryz.type27 rfl (by intro _; simp only [eqFine, Tryz.eqGuardType27, Tryz.underlying27, Tryz.stoodInHeld27]; rfl)
def ty30 : Ty := { d := .int .i64, size := 1, bytes := 8, agg := false, zero := [.int .i64 0], fs := [], eqOk := false }
theorem ty30_ok : TyOk Tryz.prog 30 ty30 := tyB Tryz.underlying30 Tryz.type30 rfl rfl
def ty32 : Ty := { d := .func, size := 1, bytes := 8, agg := false, zero := [.nilfn], fs := [], eqOk := false }
theorem ty32_ok : TyOk Tryz.prog 32 ty32 := tyB Tryz.underlying32 Tryz.type32 rfl rfl
def ty34 : Ty := { d := .slice 63, size := 1, bytes := 24, agg := false, zero := [.nilsl], fs := [], eqOk := false }
theorem ty34_ok : TyOk Tryz.prog 34 ty34 := tyB Tryz.underlying34 Tryz.type34 rfl rfl
def ty38 : Ty := { d := .slice 3, size := 1, bytes := 24, agg := false, zero := [.nilsl], fs := [], eqOk := false }
theorem ty38_ok : TyOk Tryz.prog 38 ty38 := tyB Tryz.underlying38 Tryz.type38 rfl rfl
def ty41 : Ty := { d := .slice 5, size := 1, bytes := 24, agg := false, zero := [.nilsl], fs := [], eqOk := false }
theorem ty41_ok : TyOk Tryz.prog 41 ty41 := tyB Tryz.underlying41 Tryz.type41 rfl rfl
def ty53 : Ty := { d := .array 2 3, size := 2, bytes := 16, agg := true, zero := [.int .i64 0, .int .i64 0], fs := [], eqOk := true }
theorem ty53_ok : TyOk Tryz.prog 53 ty53 := tyA Tryz.underlying53 Tryz.type53 rfl (by intro _; simp only [eqFine, Tryz.eqGuardType53, Tryz.underlying53]; rfl)
def ty55 : Ty := { d := .struct, size := 2, bytes := 24, agg := true, zero := [.str ⟨#[]⟩, .int .i64 0], fs := [(9, 0), (3, 1)], eqOk := true }
theorem ty55_ok : TyOk Tryz.prog 55 ty55 := tyA Tryz.underlying55 Tryz.type55 rfl (by intro _; simp only [eqFine, Tryz.eqGuardType55, Tryz.underlying55, Tryz.stoodInHeld55]; rfl)
def ty57 : Ty := { d := .map 9 4, size := 1, bytes := 8, agg := false, zero := [.nilmap], fs := [], eqOk := false }
theorem ty57_ok : TyOk Tryz.prog 57 ty57 := tyB Tryz.underlying57 Tryz.type57 rfl rfl
def ty59 : Ty := { d := .func, size := 1, bytes := 8, agg := false, zero := [.nilfn], fs := [], eqOk := false }
theorem ty59_ok : TyOk Tryz.prog 59 ty59 := tyB Tryz.underlying59 Tryz.type59 rfl rfl
def ty60 : Ty := { d := .slice 32, size := 1, bytes := 24, agg := false, zero := [.nilsl], fs := [], eqOk := false }
theorem ty60_ok : TyOk Tryz.prog 60 ty60 := tyB Tryz.underlying60 Tryz.type60 rfl rfl
def ty63 : Ty := { d := .int .u8, size := 1, bytes := 1, agg := false, zero := [.int .u8 0], fs := [], eqOk := false }
theorem ty63_ok : TyOk Tryz.prog 63 ty63 := tyB Tryz.underlying63 Tryz.type63 rfl rfl
def ty68 : Ty := { d := .struct, size := 3, bytes := 32, agg := true, zero := [.str ⟨#[]⟩, .int .u8 0, .int .i64 0], fs := [(9, 0), (63, 1), (3, 2)], eqOk := true }
theorem ty68_ok : TyOk Tryz.prog 68 ty68 := tyA Tryz.underlying68 Tryz.type68 rfl (by intro _; simp only [eqFine, Tryz.eqGuardType68, Tryz.underlying68, Tryz.stoodInHeld68]; rfl)
def ty69 : Ty := { d := .slice 4, size := 1, bytes := 24, agg := false, zero := [.nilsl], fs := [], eqOk := false }
theorem ty69_ok : TyOk Tryz.prog 69 ty69 := tyB Tryz.underlying69 Tryz.type69 rfl rfl
def ty70 : Ty := { d := .map 3 4, size := 1, bytes := 8, agg := false, zero := [.nilmap], fs := [], eqOk := false }
theorem ty70_ok : TyOk Tryz.prog 70 ty70 := tyB Tryz.underlying70 Tryz.type70 rfl rfl
def ty77 : Ty := { d := .func, size := 1, bytes := 8, agg := false, zero := [.nilfn], fs := [], eqOk := false }
theorem ty77_ok : TyOk Tryz.prog 77 ty77 := tyB Tryz.underlying77 Tryz.type77 rfl rfl
def ty80 : Ty := { d := .func, size := 1, bytes := 8, agg := false, zero := [.nilfn], fs := [], eqOk := false }
theorem ty80_ok : TyOk Tryz.prog 80 ty80 := tyB Tryz.underlying80 Tryz.type80 rfl rfl
def ty81 : Ty := { d := .pointer 127, size := 1, bytes := 8, agg := false, zero := [.nilptr], fs := [], eqOk := false }
theorem ty81_ok : TyOk Tryz.prog 81 ty81 := tyB Tryz.underlying81 Tryz.type81 rfl rfl
def ty85 : Ty := { d := .map 53 3, size := 1, bytes := 8, agg := false, zero := [.nilmap], fs := [], eqOk := false }
theorem ty85_ok : TyOk Tryz.prog 85 ty85 := tyB Tryz.underlying85 Tryz.type85 rfl rfl
def ty89 : Ty := { d := .func, size := 1, bytes := 8, agg := false, zero := [.nilfn], fs := [], eqOk := false }
theorem ty89_ok : TyOk Tryz.prog 89 ty89 := tyB Tryz.underlying89 Tryz.type89 rfl rfl
def ty92 : Ty := { d := .int .u64, size := 1, bytes := 8, agg := false, zero := [.int .u64 0], fs := [], eqOk := false }
theorem ty92_ok : TyOk Tryz.prog 92 ty92 := tyB Tryz.underlying92 Tryz.type92 rfl rfl
def ty96 : Ty := { d := .map 3 53, size := 1, bytes := 8, agg := false, zero := [.nilmap], fs := [], eqOk := false }
theorem ty96_ok : TyOk Tryz.prog 96 ty96 := tyB Tryz.underlying96 Tryz.type96 rfl rfl
def ty98 : Ty := { d := .struct, size := 1, bytes := 8, agg := true, zero := [.nilmap], fs := [(96, 0)], eqOk := true }
theorem ty98_ok : TyOk Tryz.prog 98 ty98 := tyA Tryz.underlying98 Tryz.type98 rfl (by intro _; simp only [eqFine, Tryz.eqGuardType98, Tryz.underlying98, Tryz.stoodInHeld98]; rfl)
def ty100 : Ty := { d := .slice 38, size := 1, bytes := 24, agg := false, zero := [.nilsl], fs := [], eqOk := false }
theorem ty100_ok : TyOk Tryz.prog 100 ty100 := tyB Tryz.underlying100 Tryz.type100 rfl rfl
def ty101 : Ty := { d := .map 3 3, size := 1, bytes := 8, agg := false, zero := [.nilmap], fs := [], eqOk := false }
theorem ty101_ok : TyOk Tryz.prog 101 ty101 := tyB Tryz.underlying101 Tryz.type101 rfl rfl
def ty103 : Ty := { d := .func, size := 1, bytes := 8, agg := false, zero := [.nilfn], fs := [], eqOk := false }
theorem ty103_ok : TyOk Tryz.prog 103 ty103 := tyB Tryz.underlying103 Tryz.type103 rfl rfl
def ty106 : Ty := { d := .int .u64, size := 1, bytes := 8, agg := false, zero := [.int .u64 0], fs := [], eqOk := false }
theorem ty106_ok : TyOk Tryz.prog 106 ty106 := tyB Tryz.underlying106 Tryz.type106 rfl rfl
def ty108 : Ty := { d := .array 4 106, size := 4, bytes := 32, agg := true, zero := [.int .u64 0, .int .u64 0, .int .u64 0, .int .u64 0], fs := [], eqOk := true }
theorem ty108_ok : TyOk Tryz.prog 108 ty108 := tyA Tryz.underlying108 Tryz.type108 rfl (by intro _; simp only [eqFine, Tryz.eqGuardType108, Tryz.underlying108]; rfl)
def ty109 : Ty := { d := .slice 108, size := 1, bytes := 24, agg := false, zero := [.nilsl], fs := [], eqOk := false }
theorem ty109_ok : TyOk Tryz.prog 109 ty109 := tyB Tryz.underlying109 Tryz.type109 rfl rfl
def ty112 : Ty := { d := .map 108 38, size := 1, bytes := 8, agg := false, zero := [.nilmap], fs := [], eqOk := false }
theorem ty112_ok : TyOk Tryz.prog 112 ty112 := tyB Tryz.underlying112 Tryz.type112 rfl rfl
def ty127 : Ty := { d := .struct, size := 6, bytes := 112, agg := true, zero := [.bool false, .nilsl, .nilsl, .nilsl, .nilsl, .nilmap], fs := [(4, 0), (27, 1), (85, 5)], eqOk := true }
theorem ty127_ok : TyOk Tryz.prog 127 ty127 := tyA Tryz.underlying127 Tryz.type127 rfl (by intro _; simp only [eqFine, Tryz.eqGuardType127, Tryz.underlying127, Tryz.stoodInHeld127]; rfl)
def ty135 : Ty := { d := .func, size := 1, bytes := 8, agg := false, zero := [.nilfn], fs := [], eqOk := false }
theorem ty135_ok : TyOk Tryz.prog 135 ty135 := tyB Tryz.underlying135 Tryz.type135 rfl rfl
def ty137 : Ty := { d := .func, size := 1, bytes := 8, agg := false, zero := [.nilfn], fs := [], eqOk := false }
theorem ty137_ok : TyOk Tryz.prog 137 ty137 := tyB Tryz.underlying137 Tryz.type137 rfl rfl
def ty140 : Ty := { d := .slice 63, size := 1, bytes := 24, agg := false, zero := [.nilsl], fs := [], eqOk := false }
theorem ty140_ok : TyOk Tryz.prog 140 ty140 := tyB Tryz.underlying140 Tryz.type140 rfl rfl
def ty153 : Ty := { d := .struct, size := 2, bytes := 32, agg := true, zero := [.int .i64 0, .nilsl], fs := [(3, 0), (100, 1)], eqOk := true }
theorem ty153_ok : TyOk Tryz.prog 153 ty153 := tyA Tryz.underlying153 Tryz.type153 rfl (by intro _; simp only [eqFine, Tryz.eqGuardType153, Tryz.underlying153, Tryz.stoodInHeld153]; rfl)
def ty163 : Ty := { d := .int .u32, size := 1, bytes := 4, agg := false, zero := [.int .u32 0], fs := [], eqOk := false }
theorem ty163_ok : TyOk Tryz.prog 163 ty163 := tyB Tryz.underlying163 Tryz.type163 rfl rfl
def ty176 : Ty := { d := .pointer 188, size := 1, bytes := 8, agg := false, zero := [.nilptr], fs := [], eqOk := false }
theorem ty176_ok : TyOk Tryz.prog 176 ty176 := tyB Tryz.underlying176 Tryz.type176 rfl rfl
def ty178 : Ty := { d := .int .i64, size := 1, bytes := 8, agg := false, zero := [.int .i64 0], fs := [], eqOk := false }
theorem ty178_ok : TyOk Tryz.prog 178 ty178 := tyB Tryz.underlying178 Tryz.type178 rfl rfl
def ty184 : Ty := { d := .slice 203, size := 1, bytes := 24, agg := false, zero := [.nilsl], fs := [], eqOk := false }
theorem ty184_ok : TyOk Tryz.prog 184 ty184 := tyB Tryz.underlying184 Tryz.type184 rfl rfl
def ty185 : Ty := { d := .slice 197, size := 1, bytes := 24, agg := false, zero := [.nilsl], fs := [], eqOk := false }
theorem ty185_ok : TyOk Tryz.prog 185 ty185 := tyB Tryz.underlying185 Tryz.type185 rfl rfl
def ty186 : Ty := { d := .slice 185, size := 1, bytes := 24, agg := false, zero := [.nilsl], fs := [], eqOk := false }
theorem ty186_ok : TyOk Tryz.prog 186 ty186 := tyB Tryz.underlying186 Tryz.type186 rfl rfl
def ty188 : Ty := { d := .struct, size := 13, bytes := 232, agg := true, zero := [.int .i64 0, .nilsl, .nilsl, .nilsl, .nilsl, .nilsl, .nilsl, .int .i64 0, .nilsl, .int .i64 0, .nilsl, .int .i64 0, .bool false], fs := [(3, 0), (184, 1), (38, 2), (185, 3), (186, 4), (38, 5), (38, 6), (3, 7), (38, 8), (3, 9), (100, 10), (3, 11), (4, 12)], eqOk := true }
theorem ty188_ok : TyOk Tryz.prog 188 ty188 := tyA Tryz.underlying188 Tryz.type188 rfl (by intro _; simp only [eqFine, Tryz.eqGuardType188, Tryz.underlying188, Tryz.stoodInHeld188]; rfl)
def ty197 : Ty := { d := .pointer 207, size := 1, bytes := 8, agg := false, zero := [.nilptr], fs := [], eqOk := false }
theorem ty197_ok : TyOk Tryz.prog 197 ty197 := tyB Tryz.underlying197 Tryz.type197 rfl rfl
def ty203 : Ty := { d := .int .i8, size := 1, bytes := 1, agg := false, zero := [.int .i8 0], fs := [], eqOk := false }
theorem ty203_ok : TyOk Tryz.prog 203 ty203 := tyB Tryz.underlying203 Tryz.type203 rfl rfl
def ty207 : Ty := { d := .struct, size := 1, bytes := 24, agg := true, zero := [.nilsl], fs := [(38, 0)], eqOk := true }
theorem ty207_ok : TyOk Tryz.prog 207 ty207 := tyA Tryz.underlying207 Tryz.type207 rfl (by intro _; simp only [eqFine, Tryz.eqGuardType207, Tryz.underlying207, Tryz.stoodInHeld207]; rfl)
def ty211 : Ty := { d := .func, size := 1, bytes := 8, agg := false, zero := [.nilfn], fs := [], eqOk := false }
theorem ty211_ok : TyOk Tryz.prog 211 ty211 := tyB Tryz.underlying211 Tryz.type211 rfl rfl
def tys : Tree Ty := (.node 85 ty85 (.node 38 ty38 (.node 23 ty23 (.node 4 ty4 (.node 2 ty2 (.node 1 ty1 .leaf .leaf) (.node 3 ty3 .leaf .leaf)) (.node 9 ty9 (.node 5 ty5 .leaf .leaf) (.node 22 ty22 .leaf .leaf))) (.node 30 ty30 (.node 25 ty25 (.node 24 ty24 .leaf .leaf) (.node 27 ty27 .leaf .leaf)) (.node 34 ty34 (.node 32 ty32 .leaf .leaf) .leaf))) (.node 63 ty63 (.node 57 ty57 (.node 53 ty53 (.node 41 ty41 .leaf .leaf) (.node 55 ty55 .leaf .leaf)) (.node 60 ty60 (.node 59 ty59 .leaf .leaf) .leaf)) (.node 77 ty77 (.node 69 ty69 (.node 68 ty68 .leaf .leaf) (.node 70 ty70 .leaf .leaf)) (.node 81 ty81 (.node 80 ty80 .leaf .leaf) .leaf)))) (.node 137 ty137 (.node 103 ty103 (.node 98 ty98 (.node 92 ty92 (.node 89 ty89 .leaf .leaf) (.node 96 ty96 .leaf .leaf)) (.node 101 ty101 (.node 100 ty100 .leaf .leaf) .leaf)) (.node 112 ty112 (.node 108 ty108 (.node 106 ty106 .leaf .leaf) (.node 109 ty109 .leaf .leaf)) (.node 135 ty135 (.node 127 ty127 .leaf .leaf) .leaf))) (.node 185 ty185 (.node 176 ty176 (.node 153 ty153 (.node 140 ty140 .leaf .leaf) (.node 163 ty163 .leaf .leaf)) (.node 184 ty184 (.node 178 ty178 .leaf .leaf) .leaf)) (.node 203 ty203 (.node 188 ty188 (.node 186 ty186 .leaf .leaf) (.node 197 ty197 .leaf .leaf)) (.node 211 ty211 (.node 207 ty207 .leaf .leaf) .leaf)))))
theorem tys_ok : tys.All (TyOk Tryz.prog) := ⟨ty85_ok, ⟨ty38_ok, ⟨ty23_ok, ⟨ty4_ok, ⟨ty2_ok, ⟨ty1_ok, trivial, trivial⟩, ⟨ty3_ok, trivial, trivial⟩⟩, ⟨ty9_ok, ⟨ty5_ok, trivial, trivial⟩, ⟨ty22_ok, trivial, trivial⟩⟩⟩, ⟨ty30_ok, ⟨ty25_ok, ⟨ty24_ok, trivial, trivial⟩, ⟨ty27_ok, trivial, trivial⟩⟩, ⟨ty34_ok, ⟨ty32_ok, trivial, trivial⟩, trivial⟩⟩⟩, ⟨ty63_ok, ⟨ty57_ok, ⟨ty53_ok, ⟨ty41_ok, trivial, trivial⟩, ⟨ty55_ok, trivial, trivial⟩⟩, ⟨ty60_ok, ⟨ty59_ok, trivial, trivial⟩, trivial⟩⟩, ⟨ty77_ok, ⟨ty69_ok, ⟨ty68_ok, trivial, trivial⟩, ⟨ty70_ok, trivial, trivial⟩⟩, ⟨ty81_ok, ⟨ty80_ok, trivial, trivial⟩, trivial⟩⟩⟩⟩, ⟨ty137_ok, ⟨ty103_ok, ⟨ty98_ok, ⟨ty92_ok, ⟨ty89_ok, trivial, trivial⟩, ⟨ty96_ok, trivial, trivial⟩⟩, ⟨ty101_ok, ⟨ty100_ok, trivial, trivial⟩, trivial⟩⟩, ⟨ty112_ok, ⟨ty108_ok, ⟨ty106_ok, trivial, trivial⟩, ⟨ty109_ok, trivial, trivial⟩⟩, ⟨ty135_ok, ⟨ty127_ok, trivial, trivial⟩, trivial⟩⟩⟩, ⟨ty185_ok, ⟨ty176_ok, ⟨ty153_ok, ⟨ty140_ok, trivial, trivial⟩, ⟨ty163_ok, trivial, trivial⟩⟩, ⟨ty184_ok, ⟨ty178_ok, trivial, trivial⟩, trivial⟩⟩, ⟨ty203_ok, ⟨ty188_ok, ⟨ty186_ok, trivial, trivial⟩, ⟨ty197_ok, trivial, trivial⟩⟩, ⟨ty211_ok, ⟨ty207_ok, trivial, trivial⟩, trivial⟩⟩⟩⟩⟩
def mks : Nat -> Nat -> Bool := mkOf [(24, 7), (29, 4), (38, 4), (40, 22)]
def dyn : Nat -> Nat -> List (Nat × Nat) := dynOf [(29, 8, [(15, 8), (15, 9)]), (56, 15, [(9, 6)]), (6, 12, [(6, 0)]),(7, 9, [(41, 42)]),(8, 20, [(4, 7), (4, 8)]),(20, 4, [(2, 0)]),(27, 16, [(4, 7)]),(27, 33, [(5, 8)]),(27, 40, [(7, 3)]),(31, 21, [(3, 1), (12, 10)]),(31, 24, [(1, 3), (1, 4)]),(38, 4, [(4, 0), (4, 6), (4, 7)]),(39, 36, [(4, 7)]),(40, 10, [(2, 0)]),(40, 11, [(4, 0)]),(40, 18, [(3, 0), (3, 4), (3, 5), (7, 0), (7, 4), (11, 0)]),(40, 22, [(4, 0), (4, 6), (4, 7)]),(40, 24, [(2, 1)]),(45, 13, [(1, 2)]),(46, 1, [(3, 6), (3, 10), (3, 14), (7, 10), (7, 14), (11, 14)]),(52, 13, [(4, 7)]),(52, 19, [(13, 4)]),(52, 24, [(11, 5), (11, 7)]),(53, 26, [(2, 5), (2, 8), (2, 9), (6, 8), (6, 9)]),(53, 27, [(5, 1), (5, 8), (9, 1)]),(53, 32, [(10, 1)]),(53, 37, [(10, 1)]),(54, 24, [(5, 1), (5, 8), (9, 1)]),(54, 36, [(7, 1), (7, 3)]),(55, 20, [(5, 1), (5, 8), (9, 1)]),(55, 25, [(10, 1)]),(55, 30, [(7, 1), (7, 3)]),(61, 14, [(4, 7)]),(61, 23, [(12, 2), (12, 3)]),(61, 29, [(6, 9)]),(61, 42, [(6, 2)]),(63, 20, [(12, 2), (12, 3)]),(63, 26, [(3, 6)]),(63, 33, [(10, 1)]),(63, 38, [(7, 1), (7, 3)]),(69, 6, [(4, 7)]),(74, 1, [(2, 0)]),(86, 7, [(2, 3)]),(90, 7, [(3, 5)]),(93, 6, [(4, 7)]),(98, 19, [(4, 9), (4, 10)]),(100, 1, [(1, 3), (1, 4)]),(109, 10, [(4, 7)]),(118, 1, [(2, 4), (2, 7), (2, 10), (5, 7), (5, 10), (8, 10)]),(119, 10, [(7, 1), (7, 13), (7, 19), (7, 24), (14, 1), (14, 19), (14, 24), (20, 1), (20, 24), (25, 1)]),(119, 12, [(4, 1)]),(126, 4, [(5, 10), (5, 11)]),(143, 10, [(6, 4)]),(162, 0, [(10, 3), (10, 14), (10, 18), (10, 20), (21, 3), (21, 14), (26, 3)]),(162, 1, [(10, 3), (10, 14), (10, 18), (10, 20), (21, 3), (21, 14), (26, 3)])]
theorem fnA {f : Nat} {F : Func} {i : FnI} (h : Tryz.prog.funcs[f]? = some F) (h1 : F.body = some i.code) (h2 : F.ntmps = i.ntmps) (h3 : F.results.toList = i.results) (h4 : (F.name == "runtime.NumGoroutine") = false) (hs : codeOk (dyn f) (mks f) i.code = true) : FnOk Tryz.prog dyn f i (mks f) := ⟨⟨F, h, h1, h2, h3, h4⟩, hs⟩
abbrev FO (f : Nat) (F : Func) : Prop := FnOk Tryz.prog dyn f (fi F) (mks f)
theorem fn13_ok : FO 13 Tryz.f13 := fnA Tryz.func13 rfl rfl rfl rfl (by kernel_rfl)
theorem fn15_ok : FO 15 Tryz.f15 := fnA Tryz.func15 rfl rfl rfl rfl (by kernel_rfl)
theorem fn16_ok : FO 16 Tryz.f16 := fnA Tryz.func16 rfl rfl rfl rfl (by kernel_rfl)
theorem fn17_ok : FO 17 Tryz.f17 := fnA Tryz.func17 rfl rfl rfl rfl (by kernel_rfl)
theorem fn19_ok : FO 19 Tryz.f19 := fnA Tryz.func19 rfl rfl rfl rfl (by kernel_rfl)
theorem fn21_ok : FO 21 Tryz.f21 := fnA Tryz.func21 rfl rfl rfl rfl (by kernel_rfl)
theorem fn22_ok : FO 22 Tryz.f22 := fnA Tryz.func22 rfl rfl rfl rfl (by kernel_rfl)
theorem fn24_ok : FO 24 Tryz.f24 := fnA Tryz.func24 rfl rfl rfl rfl (by kernel_rfl)
theorem fn26_ok : FO 26 Tryz.f26 := fnA Tryz.func26 rfl rfl rfl rfl (by kernel_rfl)
theorem fn27_ok : FO 27 Tryz.f27 := fnA Tryz.func27 rfl rfl rfl rfl (by kernel_rfl)
theorem fn29_ok : FO 29 Tryz.f29 := fnA Tryz.func29 rfl rfl rfl rfl (by kernel_rfl)
theorem fn31_ok : FO 31 Tryz.f31 := fnA Tryz.func31 rfl rfl rfl rfl (by kernel_rfl)
theorem fn38_ok : FO 38 Tryz.f38 := fnA Tryz.func38 rfl rfl rfl rfl (by kernel_rfl)
theorem fn39_ok : FO 39 Tryz.f39 := fnA Tryz.func39 rfl rfl rfl rfl (by kernel_rfl)
theorem fn40_ok : FO 40 Tryz.f40 := fnA Tryz.func40 rfl rfl rfl rfl (by kernel_rfl)
theorem fn45_ok : FO 45 Tryz.f45 := fnA Tryz.func45 rfl rfl rfl rfl (by kernel_rfl)
theorem fn46_ok : FO 46 Tryz.f46 := fnA Tryz.func46 rfl rfl rfl rfl (by kernel_rfl)
theorem fn50_ok : FO 50 Tryz.f50 := fnA Tryz.func50 rfl rfl rfl rfl (by kernel_rfl)
theorem fn51_ok : FO 51 Tryz.f51 := fnA Tryz.func51 rfl rfl rfl rfl (by kernel_rfl)
theorem fn54_ok : FO 54 Tryz.f54 := fnA Tryz.func54 rfl rfl rfl rfl (by kernel_rfl)
theorem fn57_ok : FO 57 Tryz.f57 := fnA Tryz.func57 rfl rfl rfl rfl (by kernel_rfl)
theorem fn58_ok : FO 58 Tryz.f58 := fnA Tryz.func58 rfl rfl rfl rfl (by kernel_rfl)
theorem fn59_ok : FO 59 Tryz.f59 := fnA Tryz.func59 rfl rfl rfl rfl (by kernel_rfl)
theorem fn60_ok : FO 60 Tryz.f60 := fnA Tryz.func60 rfl rfl rfl rfl (by kernel_rfl)
theorem fn61_ok : FO 61 Tryz.f61 := fnA Tryz.func61 rfl rfl rfl rfl (by kernel_rfl)
theorem fn62_ok : FO 62 Tryz.f62 := fnA Tryz.func62 rfl rfl rfl rfl (by kernel_rfl)
theorem fn64_ok : FO 64 Tryz.f64 := fnA Tryz.func64 rfl rfl rfl rfl (by kernel_rfl)
theorem fn65_ok : FO 65 Tryz.f65 := fnA Tryz.func65 rfl rfl rfl rfl (by kernel_rfl)
theorem fn66_ok : FO 66 Tryz.f66 := fnA Tryz.func66 rfl rfl rfl rfl (by kernel_rfl)
theorem fn67_ok : FO 67 Tryz.f67 := fnA Tryz.func67 rfl rfl rfl rfl (by kernel_rfl)
theorem fn68_ok : FO 68 Tryz.f68 := fnA Tryz.func68 rfl rfl rfl rfl (by kernel_rfl)
theorem fn70_ok : FO 70 Tryz.f70 := fnA Tryz.func70 rfl rfl rfl rfl (by kernel_rfl)
theorem fn71_ok : FO 71 Tryz.f71 := fnA Tryz.func71 rfl rfl rfl rfl (by kernel_rfl)
theorem fn72_ok : FO 72 Tryz.f72 := fnA Tryz.func72 rfl rfl rfl rfl (by kernel_rfl)
theorem fn73_ok : FO 73 Tryz.f73 := fnA Tryz.func73 rfl rfl rfl rfl (by kernel_rfl)
theorem fn75_ok : FO 75 Tryz.f75 := fnA Tryz.func75 rfl rfl rfl rfl (by kernel_rfl)
theorem fn76_ok : FO 76 Tryz.f76 := fnA Tryz.func76 rfl rfl rfl rfl (by kernel_rfl)
theorem fn77_ok : FO 77 Tryz.f77 := fnA Tryz.func77 rfl rfl rfl rfl (by kernel_rfl)
theorem fn78_ok : FO 78 Tryz.f78 := fnA Tryz.func78 rfl rfl rfl rfl (by kernel_rfl)
theorem fn79_ok : FO 79 Tryz.f79 := fnA Tryz.func79 rfl rfl rfl rfl (by kernel_rfl)
theorem fn80_ok : FO 80 Tryz.f80 := fnA Tryz.func80 rfl rfl rfl rfl (by kernel_rfl)
theorem fn81_ok : FO 81 Tryz.f81 := fnA Tryz.func81 rfl rfl rfl rfl (by kernel_rfl)
theorem fn82_ok : FO 82 Tryz.f82 := fnA Tryz.func82 rfl rfl rfl rfl (by kernel_rfl)
theorem fn83_ok : FO 83 Tryz.f83 := fnA Tryz.func83 rfl rfl rfl rfl (by kernel_rfl)
theorem fn84_ok : FO 84 Tryz.f84 := fnA Tryz.func84 rfl rfl rfl rfl (by kernel_rfl)
theorem fn85_ok : FO 85 Tryz.f85 := fnA Tryz.func85 rfl rfl rfl rfl (by kernel_rfl)
theorem fn86_ok : FO 86 Tryz.f86 := fnA Tryz.func86 rfl rfl rfl rfl (by kernel_rfl)
theorem fn87_ok : FO 87 Tryz.f87 := fnA Tryz.func87 rfl rfl rfl rfl (by kernel_rfl)
theorem fn91_ok : FO 91 Tryz.f91 := fnA Tryz.func91 rfl rfl rfl rfl (by kernel_rfl)
theorem fn93_ok : FO 93 Tryz.f93 := fnA Tryz.func93 rfl rfl rfl rfl (by kernel_rfl)
theorem fn94_ok : FO 94 Tryz.f94 := fnA Tryz.func94 rfl rfl rfl rfl (by kernel_rfl)
theorem fn95_ok : FO 95 Tryz.f95 := fnA Tryz.func95 rfl rfl rfl rfl (by kernel_rfl)
theorem fn96_ok : FO 96 Tryz.f96 := fnA Tryz.func96 rfl rfl rfl rfl (by kernel_rfl)
theorem fn97_ok : FO 97 Tryz.f97 := fnA Tryz.func97 rfl rfl rfl rfl (by kernel_rfl)
theorem fn101_ok : FO 101 Tryz.f101 := fnA Tryz.func101 rfl rfl rfl rfl (by kernel_rfl)
theorem fn102_ok : FO 102 Tryz.f102 := fnA Tryz.func102 rfl rfl rfl rfl (by kernel_rfl)
theorem fn103_ok : FO 103 Tryz.f103 := fnA Tryz.func103 rfl rfl rfl rfl (by kernel_rfl)
theorem fn104_ok : FO 104 Tryz.f104 := fnA Tryz.func104 rfl rfl rfl rfl (by kernel_rfl)
theorem fn105_ok : FO 105 Tryz.f105 := fnA Tryz.func105 rfl rfl rfl rfl (by kernel_rfl)
theorem fn106_ok : FO 106 Tryz.f106 := fnA Tryz.func106 rfl rfl rfl rfl (by kernel_rfl)
theorem fn107_ok : FO 107 Tryz.f107 := fnA Tryz.func107 rfl rfl rfl rfl (by kernel_rfl)
theorem fn108_ok : FO 108 Tryz.f108 := fnA Tryz.func108 rfl rfl rfl rfl (by kernel_rfl)
theorem fn109_ok : FO 109 Tryz.f109 := fnA Tryz.func109 rfl rfl rfl rfl (by kernel_rfl)
theorem fn110_ok : FO 110 Tryz.f110 := fnA Tryz.func110 rfl rfl rfl rfl (by kernel_rfl)
theorem fn111_ok : FO 111 Tryz.f111 := fnA Tryz.func111 rfl rfl rfl rfl (by kernel_rfl)
theorem fn112_ok : FO 112 Tryz.f112 := fnA Tryz.func112 rfl rfl rfl rfl (by kernel_rfl)
theorem fn114_ok : FO 114 Tryz.f114 := fnA Tryz.func114 rfl rfl rfl rfl (by kernel_rfl)
theorem fn116_ok : FO 116 Tryz.f116 := fnA Tryz.func116 rfl rfl rfl rfl (by kernel_rfl)
theorem fn117_ok : FO 117 Tryz.f117 := fnA Tryz.func117 rfl rfl rfl rfl (by kernel_rfl)
theorem fn118_ok : FO 118 Tryz.f118 := fnA Tryz.func118 rfl rfl rfl rfl (by kernel_rfl)
theorem fn120_ok : FO 120 Tryz.f120 := fnA Tryz.func120 rfl rfl rfl rfl (by kernel_rfl)
theorem fn125_ok : FO 125 Tryz.f125 := fnA Tryz.func125 rfl rfl rfl rfl (by kernel_rfl)
theorem fn128_ok : FO 128 Tryz.f128 := fnA Tryz.func128 rfl rfl rfl rfl (by kernel_rfl)
theorem fn129_ok : FO 129 Tryz.f129 := fnA Tryz.func129 rfl rfl rfl rfl (by kernel_rfl)
theorem fn130_ok : FO 130 Tryz.f130 := fnA Tryz.func130 rfl rfl rfl rfl (by kernel_rfl)
theorem fn131_ok : FO 131 Tryz.f131 := fnA Tryz.func131 rfl rfl rfl rfl (by kernel_rfl)
theorem fn132_ok : FO 132 Tryz.f132 := fnA Tryz.func132 rfl rfl rfl rfl (by kernel_rfl)
theorem fn133_ok : FO 133 Tryz.f133 := fnA Tryz.func133 rfl rfl rfl rfl (by kernel_rfl)
theorem fn135_ok : FO 135 Tryz.f135 := fnA Tryz.func135 rfl rfl rfl rfl (by kernel_rfl)
theorem fn136_ok : FO 136 Tryz.f136 := fnA Tryz.func136 rfl rfl rfl rfl (by kernel_rfl)
theorem fn137_ok : FO 137 Tryz.f137 := fnA Tryz.func137 rfl rfl rfl rfl (by kernel_rfl)
theorem fn138_ok : FO 138 Tryz.f138 := fnA Tryz.func138 rfl rfl rfl rfl (by kernel_rfl)
theorem fn139_ok : FO 139 Tryz.f139 := fnA Tryz.func139 rfl rfl rfl rfl (by kernel_rfl)
theorem fn150_ok : FO 150 Tryz.f150 := fnA Tryz.func150 rfl rfl rfl rfl (by kernel_rfl)
theorem fn151_ok : FO 151 Tryz.f151 := fnA Tryz.func151 rfl rfl rfl rfl (by kernel_rfl)
theorem fn152_ok : FO 152 Tryz.f152 := fnA Tryz.func152 rfl rfl rfl rfl (by kernel_rfl)
theorem fn154_ok : FO 154 Tryz.f154 := fnA Tryz.func154 rfl rfl rfl rfl (by kernel_rfl)
theorem fn168_ok : FO 168 Tryz.f168 := fnA Tryz.func168 rfl rfl rfl rfl (by kernel_rfl)
theorem fn169_ok : FO 169 Tryz.f169 := fnA Tryz.func169 rfl rfl rfl rfl (by kernel_rfl)
theorem fn171_ok : FO 171 Tryz.f171 := fnA Tryz.func171 rfl rfl rfl rfl (by kernel_rfl)
noncomputable def fns : Tree FnI := (.node 85 (fi Tryz.f85) (.node 59 (fi Tryz.f59) (.node 31 (fi Tryz.f31) (.node 21 (fi Tryz.f21) (.node 16 (fi Tryz.f16) (.node 15 (fi Tryz.f15) (.node 13 (fi Tryz.f13) .leaf .leaf) .leaf) (.node 19 (fi Tryz.f19) (.node 17 (fi Tryz.f17) .leaf .leaf) .leaf)) (.node 26 (fi Tryz.f26) (.node 24 (fi Tryz.f24) (.node 22 (fi Tryz.f22) .leaf .leaf) .leaf) (.node 29 (fi Tryz.f29) (.node 27 (fi Tryz.f27) .leaf .leaf) .leaf))) (.node 50 (fi Tryz.f50) (.node 40 (fi Tryz.f40) (.node 39 (fi Tryz.f39) (.node 38 (fi Tryz.f38) .leaf .leaf) .leaf) (.node 46 (fi Tryz.f46) (.node 45 (fi Tryz.f45) .leaf .leaf) .leaf)) (.node 57 (fi Tryz.f57) (.node 54 (fi Tryz.f54) (.node 51 (fi Tryz.f51) .leaf .leaf) .leaf) (.node 58 (fi Tryz.f58) .leaf .leaf)))) (.node 73 (fi Tryz.f73) (.node 66 (fi Tryz.f66) (.node 62 (fi Tryz.f62) (.node 61 (fi Tryz.f61) (.node 60 (fi Tryz.f60) .leaf .leaf) .leaf) (.node 65 (fi Tryz.f65) (.node 64 (fi Tryz.f64) .leaf .leaf) .leaf)) (.node 70 (fi Tryz.f70) (.node 68 (fi Tryz.f68) (.node 67 (fi Tryz.f67) .leaf .leaf) .leaf) (.node 72 (fi Tryz.f72) (.node 71 (fi Tryz.f71) .leaf .leaf) .leaf))) (.node 80 (fi Tryz.f80) (.node 77 (fi Tryz.f77) (.node 76 (fi Tryz.f76) (.node 75 (fi Tryz.f75) .leaf .leaf) .leaf) (.node 79 (fi Tryz.f79) (.node 78 (fi Tryz.f78) .leaf .leaf) .leaf)) (.node 83 (fi Tryz.f83) (.node 82 (fi Tryz.f82) (.node 81 (fi Tryz.f81) .leaf .leaf) .leaf) (.node 84 (fi Tryz.f84) .leaf .leaf))))) (.node 117 (fi Tryz.f117) (.node 104 (fi Tryz.f104) (.node 95 (fi Tryz.f95) (.node 91 (fi Tryz.f91) (.node 87 (fi Tryz.f87) (.node 86 (fi Tryz.f86) .leaf .leaf) .leaf) (.node 94 (fi Tryz.f94) (.node 93 (fi Tryz.f93) .leaf .leaf) .leaf)) (.node 101 (fi Tryz.f101) (.node 97 (fi Tryz.f97) (.node 96 (fi Tryz.f96) .leaf .leaf) .leaf) (.node 103 (fi Tryz.f103) (.node 102 (fi Tryz.f102) .leaf .leaf) .leaf))) (.node 110 (fi Tryz.f110) (.node 107 (fi Tryz.f107) (.node 106 (fi Tryz.f106) (.node 105 (fi Tryz.f105) .leaf .leaf) .leaf) (.node 109 (fi Tryz.f109) (.node 108 (fi Tryz.f108) .leaf .leaf) .leaf)) (.node 114 (fi Tryz.f114) (.node 112 (fi Tryz.f112) (.node 111 (fi Tryz.f111) .leaf .leaf) .leaf) (.node 116 (fi Tryz.f116) .leaf .leaf)))) (.node 136 (fi Tryz.f136) (.node 130 (fi Tryz.f130) (.node 125 (fi Tryz.f125) (.node 120 (fi Tryz.f120) (.node 118 (fi Tryz.f118) .leaf .leaf) .leaf) (.node 129 (fi Tryz.f129) (.node 128 (fi Tryz.f128) .leaf .leaf) .leaf)) (.node 133 (fi Tryz.f133) (.node 132 (fi Tryz.f132) (.node 131 (fi Tryz.f131) .leaf .leaf) .leaf) (.node 135 (fi Tryz.f135) .leaf .leaf))) (.node 152 (fi Tryz.f152) (.node 139 (fi Tryz.f139) (.node 138 (fi Tryz.f138) (.node 137 (fi Tryz.f137) .leaf .leaf) .leaf) (.node 151 (fi Tryz.f151) (.node 150 (fi Tryz.f150) .leaf .leaf) .leaf)) (.node 169 (fi Tryz.f169) (.node 168 (fi Tryz.f168) (.node 154 (fi Tryz.f154) .leaf .leaf) .leaf) (.node 171 (fi Tryz.f171) .leaf .leaf))))))
theorem fns_ok : fns.All (fun f i => FnOk Tryz.prog dyn f i (mks f)) := ⟨fn85_ok, ⟨fn59_ok, ⟨fn31_ok, ⟨fn21_ok, ⟨fn16_ok, ⟨fn15_ok, ⟨fn13_ok, trivial, trivial⟩, trivial⟩, ⟨fn19_ok, ⟨fn17_ok, trivial, trivial⟩, trivial⟩⟩, ⟨fn26_ok, ⟨fn24_ok, ⟨fn22_ok, trivial, trivial⟩, trivial⟩, ⟨fn29_ok, ⟨fn27_ok, trivial, trivial⟩, trivial⟩⟩⟩, ⟨fn50_ok, ⟨fn40_ok, ⟨fn39_ok, ⟨fn38_ok, trivial, trivial⟩, trivial⟩, ⟨fn46_ok, ⟨fn45_ok, trivial, trivial⟩, trivial⟩⟩, ⟨fn57_ok, ⟨fn54_ok, ⟨fn51_ok, trivial, trivial⟩, trivial⟩, ⟨fn58_ok, trivial, trivial⟩⟩⟩⟩, ⟨fn73_ok, ⟨fn66_ok, ⟨fn62_ok, ⟨fn61_ok, ⟨fn60_ok, trivial, trivial⟩, trivial⟩, ⟨fn65_ok, ⟨fn64_ok, trivial, trivial⟩, trivial⟩⟩, ⟨fn70_ok, ⟨fn68_ok, ⟨fn67_ok, trivial, trivial⟩, trivial⟩, ⟨fn72_ok, ⟨fn71_ok, trivial, trivial⟩, trivial⟩⟩⟩, ⟨fn80_ok, ⟨fn77_ok, ⟨fn76_ok, ⟨fn75_ok, trivial, trivial⟩, trivial⟩, ⟨fn79_ok, ⟨fn78_ok, trivial, trivial⟩, trivial⟩⟩, ⟨fn83_ok, ⟨fn82_ok, ⟨fn81_ok, trivial, trivial⟩, trivial⟩, ⟨fn84_ok, trivial, trivial⟩⟩⟩⟩⟩, ⟨fn117_ok, ⟨fn104_ok, ⟨fn95_ok, ⟨fn91_ok, ⟨fn87_ok, ⟨fn86_ok, trivial, trivial⟩, trivial⟩, ⟨fn94_ok, ⟨fn93_ok, trivial, trivial⟩, trivial⟩⟩, ⟨fn101_ok, ⟨fn97_ok, ⟨fn96_ok, trivial, trivial⟩, trivial⟩, ⟨fn103_ok, ⟨fn102_ok, trivial, trivial⟩, trivial⟩⟩⟩, ⟨fn110_ok, ⟨fn107_ok, ⟨fn106_ok, ⟨fn105_ok, trivial, trivial⟩, trivial⟩, ⟨fn109_ok, ⟨fn108_ok, trivial, trivial⟩, trivial⟩⟩, ⟨fn114_ok, ⟨fn112_ok, ⟨fn111_ok, trivial, trivial⟩, trivial⟩, ⟨fn116_ok, trivial, trivial⟩⟩⟩⟩, ⟨fn136_ok, ⟨fn130_ok, ⟨fn125_ok, ⟨fn120_ok, ⟨fn118_ok, trivial, trivial⟩, trivial⟩, ⟨fn129_ok, ⟨fn128_ok, trivial, trivial⟩, trivial⟩⟩, ⟨fn133_ok, ⟨fn132_ok, ⟨fn131_ok, trivial, trivial⟩, trivial⟩, ⟨fn135_ok, trivial, trivial⟩⟩⟩, ⟨fn152_ok, ⟨fn139_ok, ⟨fn138_ok, ⟨fn137_ok, trivial, trivial⟩, trivial⟩, ⟨fn151_ok, ⟨fn150_ok, trivial, trivial⟩, trivial⟩⟩, ⟨fn169_ok, ⟨fn168_ok, ⟨fn154_ok, trivial, trivial⟩, trivial⟩, ⟨fn171_ok, trivial, trivial⟩⟩⟩⟩⟩⟩
theorem mixed : Tryz.prog.follows .mixedOrders = true := by rfl
end Go.OptEnv
namespace Go.Abs
open Go.RowKit
section
variable {P : Program} {B : Nat} {w0 w w' : World} {Γ : Ghost} {st : St}
def PrimDoes (P : Program) (B : Nat) (w0 : World) (f : FuncId) (g : List AV -> St -> Option (AV × St)) : Prop :=
 ∀ args st r st', g args st = some (r, st') -> (∀ (w : World) (vargs : Array Value), (callFunc f vargs).run P w = .ok (.enter f vargs) w) /\
  ∀ Γ w (vargs : Array Value), Inv B w0 Γ st w -> RL Γ args vargs.toList ->
   Calls P f vargs w fun e w' => ∃ v Γ', e = .returned v /\ Out B w0 Γ st Γ' st' w' /\ R Γ' r v
end
end Go.Abs
namespace Go.Abs
open Go.RowKit
section
variable {P : Program}
def Ghost.empty : Ghost := ⟨fun _ _ => none, fun _ => none, fun _ => none, fun _ => none, fun _ => none, fun _ _ => none⟩
def St.empty : St := ⟨0, [], [], []⟩
theorem Inv.empty (w : World) : Inv w.heap.size w Ghost.empty St.empty w := by
 refine ⟨Below.refl _ w, Nat.le_refl _, fun _ _ _ h => (by cases h), fun _ _ => ⟨rfl, rfl, rfl, rfl, rfl⟩, fun _ _ _ _ _ _ _ h => (by cases h), fun _ _ _ _ _ h => (by cases h), fun _ _ _ _ h => (by cases h), ?_, ?_, fun _ h => (by cases h), fun _ _ h => (by cases h), fun _ _ h => (by cases h), fun _ _ h => (by cases h), fun _ _ _ _ h => (by cases h)⟩
 ·rintro i j blk (⟨_, _, _, _, _, h, _⟩ | ⟨_, _, _, h, _⟩ | ⟨h, _⟩) <;> cases h
 ·rintro i blk (⟨_, _, _, _, _, h, _⟩ | ⟨_, _, _, h, _⟩ | ⟨h, _⟩) <;> cases h
theorem closed_calls {E : Env} (hE : EnvOk P E) (hp : ∀ B w0, PrimOk P E B w0) {f : FuncId} {n : Nat} {r : AV} {st' : St} (h : callF E n f [] St.empty = some (r, st')) (w : World) :
  Calls P f #[] w fun e w' => ∃ v Γ', e = .returned v /\ Below w.heap.size w w' /\ R Γ' r v := by
 refine ((callF_sound hE (hp w.heap.size w) n f [] St.empty r st' h).2 Ghost.empty w #[] (Inv.empty w) (RL.nil _)).mono ?_
 rintro e w' ⟨v, Γ', he, out, hr⟩
 exact ⟨v, Γ', he, out.inv.below, hr⟩
end
end Go.Abs
namespace Go.Abs
open Go.RowKit
def Own.plain (_ : Own) : Own := .any
mutual
def AV.plain : AV -> AV
 | .ip cells => .ip (AV.plainL cells)
 | .vs sz own xs => .vs sz own.plain (AV.plainL xs)
 | .fn f a b => .fn f (AV.plainL a) (AV.plainL b)
 | .iface t x => .iface t (AV.plain x)
 | .agg cells => .agg (AV.plainL cells)
 | .tup xs => .tup (AV.plainL xs)
 | x => x
def AV.plainL : List AV -> List AV
 | [] => []
 | x :: xs => AV.plain x :: AV.plainL xs
end
mutual
def AV.free : AV -> Bool
 | .ptr _ _ _ | .sl _ _ _ _ | .map _ => false
 | .ip cells => AV.freeL cells
 | .vs _ _ xs => AV.freeL xs
 | .fn _ a b => AV.freeL a && AV.freeL b
 | .iface _ x => AV.free x
 | .agg cells => AV.freeL cells
 | .tup xs => AV.freeL xs
 | _ => true
def AV.freeL : List AV -> Bool
 | [] => true
 | x :: xs => AV.free x && AV.freeL xs
end
theorem plainL_length : ∀ xs : List AV, (AV.plainL xs).length = xs.length
 | [] => rfl
 | x :: xs => by simp [AV.plainL, plainL_length xs]
theorem cellOk_plain (x : AV) : (AV.plain x).cellOk = x.cellOk := by cases x <;> rfl
theorem allOk_plain : ∀ xs : List AV, (AV.plainL xs).all AV.cellOk = xs.all AV.cellOk
 | [] => rfl
 | x :: xs => by simp [AV.plainL, cellOk_plain, allOk_plain xs]
theorem ok_plain (x : AV) : (AV.plain x).ok = x.ok := by
 cases x <;> first | rfl | exact allOk_plain _
mutual
theorem R.plain {Γ Δ : Ghost} (h : ∀ b o v, Γ.inert b o = some v -> Δ.inert b o = some v) : ∀ (x : AV) (v : Value), AV.free x = true -> R Γ x v -> R Δ (AV.plain x) v
 | .bool _, _, _, k | .int _ _, _, _, k | .str _, _, _, k | .nilptr, _, _, k | .gptr _, _, _, k | .nilsl, _, _, k | .es, _, _, k | .nilmap, _, _, k | .nilfn, _, _, k | .nilif, _, _, k => by simpa only [AV.plain, R] using k
 | .junk, _, _, _ => by simp only [AV.plain, R]
 | .ptr _ _ _, _, hf, _ | .sl _ _ _ _, _, hf, _ | .map _, _, hf, _ => by simp [AV.free] at hf
 | .ip cells, v, hf, k => by
  simp only [AV.free] at hf
  simp only [AV.plain, R] at k ⊢
  obtain ⟨blk, o, vs, k1, k2, k3⟩ := k
  exact ⟨blk, o, vs, k1, RL.plain h cells vs hf k2, k3.mono (h blk)⟩
 | .vs sz own xs, v, hf, k => by
  simp only [AV.free] at hf
  simp only [AV.plain, R] at k ⊢
  obtain ⟨blk, o, cap, k1, k2, k3, k4, k5⟩ := k
  refine ⟨blk, o, cap, by rw [plainL_length]; exact k1, by rw [plainL_length]; exact k2, k3, ?_, RE.plain h xs _ _ o sz (h blk) hf k5⟩
  cases own with
  | full => rw [plainL_length]; exact trivial
  | any => trivial
  | tok t => trivial
 | .fn f a b, v, hf, k => by
  simp only [AV.free, Bool.and_eq_true] at hf
  simp only [AV.plain, R] at k ⊢
  obtain ⟨vf, vc, k1, k2, k3⟩ := k
  exact ⟨vf, vc, k1, RL.plain h a _ hf.1 k2, RL.plain h b _ hf.2 k3⟩
 | .iface t x, v, hf, k => by
  simp only [AV.free] at hf
  simp only [AV.plain, R] at k ⊢
  obtain ⟨y, k1, k2⟩ := k
  exact ⟨y, k1, R.plain h x y hf k2⟩
 | .agg cells, v, hf, k => by
  simp only [AV.free] at hf
  simp only [AV.plain, R] at k ⊢
  obtain ⟨vs, k1, k2⟩ := k
  exact ⟨vs, k1, RL.plain h cells _ hf k2⟩
 | .tup cells, v, hf, k => by
  simp only [AV.free] at hf
  simp only [AV.plain, R] at k ⊢
  obtain ⟨vs, k1, k2⟩ := k
  exact ⟨vs, k1, RL.plain h cells _ hf k2⟩
theorem RL.plain {Γ Δ : Ghost} (h : ∀ b o v, Γ.inert b o = some v -> Δ.inert b o = some v) : ∀ (xs : List AV) (vs : List Value), AV.freeL xs = true -> RL Γ xs vs -> RL Δ (AV.plainL xs) vs
 | [], _, _, k => by simpa only [AV.plainL, RL] using k
 | x :: xs, _, hf, k => by
  simp only [AV.freeL, Bool.and_eq_true] at hf
  simp only [AV.plainL, RL] at k ⊢
  obtain ⟨v, r, k1, k2, k3⟩ := k
  exact ⟨v, r, k1, R.plain h x v hf.1 k2, RL.plain h xs r hf.2 k3⟩
theorem RE.plain {Γ Δ : Ghost} (h : ∀ b o v, Γ.inert b o = some v -> Δ.inert b o = some v) : ∀ (xs : List AV) (f g : Nat -> Option Value) (o sz : Nat), (∀ k v, f k = some v -> g k = some v) -> AV.freeL xs = true -> RE Γ xs f o sz -> RE Δ (AV.plainL xs) g o sz
 | [], _, _, _, _, _, _, _ => by simp only [AV.plainL, RE]
 | x :: xs, f, g, o, sz, hf, hr, k => by
  simp only [AV.freeL, Bool.and_eq_true] at hr
  simp only [AV.plainL, RE] at k ⊢
  obtain ⟨⟨v, k1, k2, k3, k4⟩, k5⟩ := k
  exact ⟨⟨v, R.plain h x v hr.1 k1, by rw [ok_plain]; exact k2, k3, k4.mono hf⟩, RE.plain h xs f g (o + sz) sz hf hr.2 k5⟩
end
end Go.Abs
namespace Go.Abs
open Go.RowKit
section
variable {P : Program}
theorem Inv.inner {B : Nat} {w0 w : World} {Γ : Ghost} {st : St} (hI : Inv B w0 Γ st w) :
  Inv w.heap.size w ⟨Γ.inert, fun _ => none, fun _ => none, fun _ => none, fun _ => none, Γ.inert⟩ St.empty w := by
 refine ⟨Below.refl _ w, Nat.le_refl _, hI.inert, fun _ _ => ⟨rfl, rfl, rfl, rfl, rfl⟩, fun _ _ _ _ _ _ _ h => (by cases h), fun _ _ _ _ _ h => (by cases h), fun _ _ _ _ h => (by cases h), ?_, ?_, fun _ h => (by cases h), fun _ _ h => (by cases h), fun _ _ h => (by cases h), fun _ _ h => (by cases h), fun _ _ _ _ h => h⟩
 ·rintro i j blk (⟨_, _, _, _, _, h, _⟩ | ⟨_, _, _, h, _⟩ | ⟨h, _⟩) <;> cases h
 ·rintro i blk (⟨_, _, _, _, _, h, _⟩ | ⟨_, _, _, h, _⟩ | ⟨h, _⟩) <;> cases h
def Ghost.back (Γ : Ghost) (n : Nat) (f : Nat -> Nat -> Option Value) : Ghost := { Γ with inert := fun b o => if b < n then Γ.inert b o else f b o }
theorem Inv.back {B : Nat} {w0 w w' : World} {Γ Γ1 : Ghost} {st st' : St} (hI : Inv B w0 Γ st w) (h1 : Inv w.heap.size w Γ1 st' w') :
  Out B w0 Γ st (Γ.back w.heap.size Γ1.inert) st w' := by
 have hle : Γ.Le (Γ.back w.heap.size Γ1.inert) := ⟨fun b o v k => by
  simp only [Ghost.back]
  rw [if_pos (hI.inert_lt k)]; exact k, fun _ _ k => k, fun _ _ k => k, fun _ _ k => k, fun _ _ k => k, rfl⟩
 have hb := h1.below
 have hno : ∀ b o, b < w.heap.size -> (Γ.back w.heap.size Γ1.inert).inert b o = Γ.inert b o := fun b o h => by
  simp only [Ghost.back]; rw [if_pos h]
 refine ⟨hle, ⟨hI.below.trans ⟨hb.os, hb.tape, hb.output, hb.size, fun k hk => hb.block k (Nat.lt_of_lt_of_le hk hI.base)⟩, Nat.le_trans hI.base hb.size, ?_, hI.fresh, ?_, ?_, ?_, hI.uniq, hI.above, hI.disj, ?_, hI.tys, hI.ttys, ?_⟩, Keep.refl Γ st⟩
 ·intro b o v k
  by_cases hlt : b < w.heap.size
  ·rw [hno b o hlt] at k
   rw [cell_same (hb.block b hlt) o]; exact hI.inert b o v k
  ·simp only [Ghost.back] at k
   rw [if_neg hlt] at k
   exact h1.inert b o v k
 ·intro i sz xs blk bs sz' tot k1 k2
  obtain ⟨r1, r2, r3, r4⟩ := hI.rows i sz xs blk bs sz' tot k1 k2
  refine ⟨r1, r2, r3, fun ht => ?_⟩
  have hlt := hI.lt (.inl ⟨sz, xs, bs, sz', tot, k1, k2, ht⟩)
  obtain ⟨⟨c, T, hc, hs, hre⟩, hn⟩ := r4 ht
  exact ⟨⟨c, T, (hb.block blk hlt).trans hc, hs, RE.mono hle xs _ _ _ _ (fun _ _ k => k) hre⟩, fun o => (hno blk o hlt).trans (hn o)⟩
 ·intro i kt et es blk k1 hm
  obtain ⟨en, clock, hc, hs, hre⟩ := hI.maps i kt et es blk k1 hm
  have hlt := hI.lt (.inr (.inl ⟨kt, et, es, k1, hm⟩))
  refine ⟨en, clock, (hb.block blk hlt).trans hc, hs, fun i' k v hi' => ?_⟩
  obtain ⟨e, he, r1, r2, r3, r4⟩ := hre i' k v hi'
  exact ⟨e, he, r1.mono hle, r2.mono hle, r3, r4⟩
 ·intro i blk e tot k1 k2
  have hlt := hI.lt (.inr (.inr ⟨k1, e, tot, k2⟩))
  obtain ⟨⟨c, T, hc, hs⟩, hn⟩ := hI.toks i blk e tot k1 k2
  exact ⟨⟨c, T, (hb.block blk hlt).trans hc, hs⟩, fun o ho => (hno blk o hlt).trans (hn o ho)⟩
 ·intro blk T k
  obtain ⟨c, fr, hc⟩ := hI.ety blk T k
  exact ⟨c, fr, (hb.block blk (Array.getElem?_eq_some_iff.1 hc).1).trans hc⟩
 ·intro b o v hlt k
  rw [hno b o (Nat.lt_of_lt_of_le hlt hI.base)] at k
  exact hI.old b o v hlt k
end
end Go.Abs
namespace Go.Abs
def CallLe (c d : Call1) : Prop := ∀ f args st r, c f args st = some r -> d f args st = some r
theorem loud_mono {E : Env} {c d : Call1} (hc : CallLe c d) {pol : Nat} {tm : TM} {st : St} {o : Oper} {r : AV × St} (h : loud E c pol tm st o = some r) : loud E d pol tm st o = some r := by
 obtain ⟨dst, op, ty, pos, after, guard⟩ := o
 cases op <;> simp only [loud] at h ⊢ <;> (try exact h)
 case makeMap t x => cases x <;> exact h
 case call cl =>
  obtain ⟨callee, args, tys⟩ := cl
  cases callee with
  | builtin b => cases b <;> exact h
  | invoke rv m => exact h
  | value f =>
   dsimp only at h ⊢
   split at h
   ·rename_i g first cap he
    exact hc _ _ _ _ h
   ·cases h
theorem stepOp_mono {E : Env} {c d : Call1} (hc : CallLe c d) {pol : Nat} {tm : TM} {st : St} {o : Oper} {r : AV × St} (h : stepOp E c pol tm st o = some r) : stepOp E d pol tm st o = some r := by
 unfold stepOp at h ⊢
 split at h
 ·rename_i hl
  rw [if_pos hl]
  split at h
  ·rename_i v st' hs
   rw [loud_mono hc hs]
   exact h
  ·cases h
 ·rename_i hl
  rw [if_neg hl]; exact h
theorem stepPre_mono {E : Env} {c d : Call1} (hc : CallLe c d) {pre : Pre} {pol i : Nat} {tm : TM} {st : St} {o : Oper} {r : AV × St} (h : stepPre E c pre pol i tm st o = some r) : stepPre E d pre pol i tm st o = some r := by
 unfold stepPre at h ⊢
 split at h
 ·exact h
 ·exact h
 ·exact h
 ·exact stepOp_mono hc h
theorem runOps_mono {E : Env} {c d : Call1} (hc : CallLe c d) {pre : Pre} {pol : Nat -> Nat} {ops : Array Oper} : ∀ (l : List Oper) (i : Nat) (tm : TM) (st : St) {r : TM × St}, runOps E c pre pol ops l i tm st = some r -> runOps E d pre pol ops l i tm st = some r
 | [], _, _, _, _, h => h
 | o :: l, i, tm, st, r, h => by
  simp only [runOps] at h ⊢
  split at h
  ·split at h
   ·rename_i v st' hs
    rw [stepPre_mono hc hs]
    exact runOps_mono hc l (i + 1) _ _ h
   ·cases h
  ·exact runOps_mono hc l (i + 1) _ _ h
  ·cases h
theorem runOpsT_mono {E : Env} {c d : Call1} (hc : CallLe c d) {pre : Pre} {pol : Nat -> Nat} {ops : Array Oper} : ∀ (l : List Oper) (i : Nat) (tm : TM) (st : St) {r : List Tr × TM × St}, runOpsT E c pre pol ops l i tm st = some r -> runOpsT E d pre pol ops l i tm st = some r
 | [], _, _, _, _, h => h
 | o :: l, i, tm, st, r, h => by
  simp only [runOpsT] at h ⊢
  split at h
  ·split at h
   ·rename_i v st' hs
    rw [stepPre_mono hc hs]
    split at h
    ·rename_i l' q hl
     simp only [runOpsT_mono hc l (i + 1) _ _ hl]
     exact h
    ·cases h
   ·cases h
  ·split at h
   ·rename_i l' q hl
    simp only [runOpsT_mono hc l (i + 1) _ _ hl]
    exact h
   ·cases h
  ·cases h
theorem execReg_mono {E : Env} {c d : Call1} (hc : CallLe c d) {pol : Nat -> Nat} {dy : List (Nat × Nat)} {mk : Bool} {ops : Array Oper} {draw : Bool} {tm : TM} {st : St} {r : TM × St} (h : execReg E c pol dy mk ops draw tm st = some r) : execReg E d pol dy mk ops draw tm st = some r := by
 unfold execReg at h ⊢
 split at h
 ·rename_i hd
  rw [if_pos hd]
  split at h
  ·cases h
  ·rename_i objs hp
   cases mk with
   | true =>
    dsimp only at h ⊢
    split at h
    ·rename_i l1 q1 hl1
     rw [runOpsT_mono hc _ _ _ _ hl1]
     dsimp only at h ⊢
     split at h
     ·rename_i l q hl
      rw [runOpsT_mono hc _ _ _ _ hl]
      exact h
     ·cases h
    ·cases h
   | false =>
    dsimp only at h ⊢
    split at h
    ·exact runOps_mono hc _ _ _ _ h
    ·split at h
     ·rename_i l q hl
      rw [runOpsT_mono hc _ _ _ _ hl]
      exact h
     ·cases h
 ·rename_i hd
  rw [if_neg hd]
  exact runOps_mono hc _ _ _ _ h
theorem exec_mono {E : Env} {c d : Call1} (hc : CallLe c d) {fid : Nat} : ∀ (n m : Nat) (k : Code) (tm : TM) (st : St) {r : AExit × TM × St}, n <= m -> exec E c fid n k tm st = some r -> exec E d fid m k tm st = some r
 | 0, _, _, _, _, _, _, h => by simp [exec] at h
 | n + 1, 0, _, _, _, _, hm, _ => by omega
 | n + 1, m + 1, k, tm, st, r, hm, h => by
  have ih : ∀ (k : Code) (tm : TM) (st : St) {r : AExit × TM × St}, exec E c fid n k tm st = some r -> exec E d fid m k tm st = some r := fun k tm st _ h => exec_mono hc n m k tm st (by omega) h
  cases k with
  | region id ops draw =>
   simp only [exec] at h ⊢
   split at h
   ·rename_i tm' st' hr
    rw [execReg_mono hc hr]; exact h
   ·cases h
  | seq a b =>
   simp only [exec] at h ⊢
   split at h
   ·rename_i tm' st' ha
    rw [ih a _ _ ha]; exact ih b _ _ h
   ·rename_i x hx
    rw [ih a _ _ h]
    obtain ⟨e, tm', st'⟩ := r
    cases e with
    | normal => exact absurd h (hx _ _)
    | exit i => rfl
    | ret => rfl
  | cond x a b =>
   simp only [exec] at h ⊢
   split at h
   ·exact ih a _ _ h
   ·exact ih b _ _ h
   ·cases h
  | block id a =>
   simp only [exec] at h ⊢
   split at h
   ·rename_i i tm' st' ha
    rw [ih a _ _ ha]; exact h
   ·rename_i x hx
    rw [ih a _ _ h]
    obtain ⟨e, tm', st'⟩ := r
    cases e with
    | normal => rfl
    | exit i => exact absurd h (hx _ _ _)
    | ret => rfl
  | loop a =>
   simp only [exec] at h ⊢
   split at h
   ·rename_i tm' st' ha
    rw [ih a _ _ ha]; exact ih (.loop a) _ _ h
   ·rename_i x hx
    rw [ih a _ _ h]
    obtain ⟨e, tm', st'⟩ := r
    cases e with
    | normal => exact absurd h (hx _ _)
    | exit i => rfl
    | ret => rfl
  | skip => exact h
  | ret => exact h
  | exit id => exact h
  | _ => simp [exec] at h
theorem callF_mono {E : Env} : ∀ (n m : Nat), n <= m -> CallLe (callF E n) (callF E m)
 | 0, _, _ => fun _ _ _ _ h => by simp [callF] at h
 | n + 1, 0, h => by omega
 | n + 1, m + 1, hm => fun f args st r h => by
  simp only [callF] at h ⊢
  split at h
  ·exact h
  ·split at h
   ·cases h
   ·rename_i fn hf
    split at h
    ·rename_i tm' st' hx
     rw [exec_mono (callF_mono n m (by omega)) n m _ _ _ (by omega) hx]; exact h
    ·rename_i tm' st' hx
     rw [exec_mono (callF_mono n m (by omega)) n m _ _ _ (by omega) hx]; exact h
    ·cases h
end Go.Abs
namespace Go.Abs
theorem exec_lift {E : Env} {fid n m k : Nat} {c : Code} {tm : TM} {st : St} {r : AExit × TM × St} (h : exec E (callF E n) fid n c tm st = some r) (hm : n <= m) (hk : n <= k) : exec E (callF E k) fid m c tm st = some r :=
 exec_mono (callF_mono n k hk) n m c tm st hm h
def W (E : Env) (fid : Nat) (c : Code) (tm : TM) (st : St) (Q : AExit -> TM -> St -> Prop) : Prop :=
 ∃ n e tm' st', exec E (callF E n) fid n c tm st = some (e, tm', st') /\ Q e tm' st'
def CW (E : Env) (f : FuncId) (args : List AV) (st : St) (Q : AV -> St -> Prop) : Prop :=
 ∃ n r st', callF E n f args st = some (r, st') /\ Q r st'
def OW (E : Env) (pre : Pre) (pol : Nat -> Nat) (ops : Array Oper) (l : List Oper) (i : Nat) (tm : TM) (st : St) (Q : TM -> St -> Prop) : Prop :=
 ∃ n tm' st', runOps E (callF E n) pre pol ops l i tm st = some (tm', st') /\ Q tm' st'
section
variable {E : Env} {fid : Nat} {tm : TM} {st : St}
def seqQ (E : Env) (fid : Nat) (b : Code) (Q : AExit -> TM -> St -> Prop) (e : AExit) (tm : TM) (st : St) : Prop :=
 match e with
 | .normal => W E fid b tm st Q
 | e => Q e tm st
theorem W.seq {a b : Code} {Q : AExit -> TM -> St -> Prop} (h : W E fid a tm st (seqQ E fid b Q)) : W E fid (.seq a b) tm st Q := by
 obtain ⟨n, e, tm1, st1, h1, h2⟩ := h
 cases e with
 | normal =>
  obtain ⟨m, e', tm2, st2, h3, h4⟩ := h2
  refine ⟨max n m + 1, e', tm2, st2, ?_, h4⟩
  simp only [exec]
  rw [exec_lift h1 (by omega) (by omega)]
  exact exec_lift h3 (by omega) (by omega)
 | exit i =>
  refine ⟨n + 1, _, tm1, st1, ?_, h2⟩
  simp only [exec]
  rw [exec_lift h1 (by omega) (by omega)]
 | ret =>
  refine ⟨n + 1, _, tm1, st1, ?_, h2⟩
  simp only [exec]
  rw [exec_lift h1 (by omega) (by omega)]
theorem seqQ.normal {b : Code} {Q : AExit -> TM -> St -> Prop} (h : W E fid b tm st Q) : seqQ E fid b Q .normal tm st := h
theorem seqQ.exit {b : Code} {Q : AExit -> TM -> St -> Prop} {i : Nat} (h : Q (.exit i) tm st) : seqQ E fid b Q (.exit i) tm st := h
theorem seqQ.ret {b : Code} {Q : AExit -> TM -> St -> Prop} (h : Q .ret tm st) : seqQ E fid b Q .ret tm st := h
def blockQ (i : Nat) (Q : AExit -> TM -> St -> Prop) (e : AExit) (tm : TM) (st : St) : Prop :=
 match e with
 | .exit j => if j = i then Q .normal tm st else Q (.exit j) tm st
 | e => Q e tm st
theorem W.block {a : Code} {i : Nat} {Q : AExit -> TM -> St -> Prop} (h : W E fid a tm st (blockQ i Q)) : W E fid (.block i a) tm st Q := by
 obtain ⟨n, e, tm1, st1, h1, h2⟩ := h
 cases e with
 | normal =>
  refine ⟨n + 1, _, tm1, st1, ?_, h2⟩
  simp only [exec]
  rw [exec_lift h1 (by omega) (by omega)]
 | exit j =>
  simp only [blockQ] at h2
  by_cases hj : j = i
  ·rw [if_pos hj] at h2
   refine ⟨n + 1, _, tm1, st1, ?_, h2⟩
   simp only [exec]
   rw [exec_lift h1 (by omega) (by omega)]
   dsimp only
   rw [if_pos hj]
  ·rw [if_neg hj] at h2
   refine ⟨n + 1, _, tm1, st1, ?_, h2⟩
   simp only [exec]
   rw [exec_lift h1 (by omega) (by omega)]
   dsimp only
   rw [if_neg hj]
 | ret =>
  refine ⟨n + 1, _, tm1, st1, ?_, h2⟩
  simp only [exec]
  rw [exec_lift h1 (by omega) (by omega)]
theorem blockQ.normal {i : Nat} {Q : AExit -> TM -> St -> Prop} (h : Q .normal tm st) : blockQ i Q .normal tm st := h
theorem blockQ.here {i : Nat} {Q : AExit -> TM -> St -> Prop} (h : Q .normal tm st) : blockQ i Q (.exit i) tm st := by
 simp only [blockQ, if_true]; exact h
theorem blockQ.exit {i j : Nat} {Q : AExit -> TM -> St -> Prop} (hj : Nat.beq j i = false) (h : Q (.exit j) tm st) : blockQ i Q (.exit j) tm st := by
 have : j ≠ i := fun k => by subst k; simp at hj
 simp only [blockQ, if_neg this]; exact h
theorem blockQ.ret {i : Nat} {Q : AExit -> TM -> St -> Prop} (h : Q .ret tm st) : blockQ i Q .ret tm st := h
theorem W.skip {Q : AExit -> TM -> St -> Prop} (h : Q .normal tm st) : W E fid .skip tm st Q := ⟨1, _, _, _, rfl, h⟩
theorem W.ret {Q : AExit -> TM -> St -> Prop} (h : Q .ret tm st) : W E fid .ret tm st Q := ⟨1, _, _, _, rfl, h⟩
theorem W.exit {i : Nat} {Q : AExit -> TM -> St -> Prop} (h : Q (.exit i) tm st) : W E fid (.exit i) tm st Q := ⟨1, _, _, _, rfl, h⟩
theorem W.cond {c : Operand} {a b : Code} {Q : AExit -> TM -> St -> Prop} {t : Bool} (ht : evalO tm c = .bool t) (h1 : t = true -> W E fid a tm st Q) (h2 : t = false -> W E fid b tm st Q) : W E fid (.cond c a b) tm st Q := by
 cases t with
 | true =>
  obtain ⟨n, e, tm1, st1, h3, h4⟩ := h1 rfl
  refine ⟨n + 1, e, tm1, st1, ?_, h4⟩
  simp only [exec]
  rw [ht]
  exact exec_lift h3 (by omega) (by omega)
 | false =>
  obtain ⟨n, e, tm1, st1, h3, h4⟩ := h2 rfl
  refine ⟨n + 1, e, tm1, st1, ?_, h4⟩
  simp only [exec]
  rw [ht]
  exact exec_lift h3 (by omega) (by omega)
theorem W.mono {c : Code} {Q Q' : AExit -> TM -> St -> Prop} (h : W E fid c tm st Q) (hq : ∀ e tm st, Q e tm st -> Q' e tm st) : W E fid c tm st Q' := by
 obtain ⟨n, e, tm1, st1, h1, h2⟩ := h
 exact ⟨n, e, tm1, st1, h1, hq _ _ _ h2⟩
def loopQ (I : Nat -> TM -> St -> Prop) (k : Nat) (Q : AExit -> TM -> St -> Prop) (e : AExit) (tm : TM) (st : St) : Prop :=
 match e with
 | .normal => ∃ j, j < k /\ I j tm st
 | e => Q e tm st
theorem W.loop {c : Code} {Q : AExit -> TM -> St -> Prop} (I : Nat -> TM -> St -> Prop) (hb : ∀ k tm st, I k tm st -> W E fid c tm st (loopQ I k Q)) : ∀ (k : Nat) (tm : TM) (st : St), I k tm st -> W E fid (.loop c) tm st Q := by
 intro k
 induction k using Nat.strongRecOn with
 | ind k ih =>
  intro tm st h
  obtain ⟨n, e, tm1, st1, h1, h2⟩ := hb k tm st h
  cases e with
  | normal =>
   obtain ⟨j, hj, hI⟩ := h2
   obtain ⟨m, e', tm2, st2, h3, h4⟩ := ih j hj tm1 st1 hI
   refine ⟨max n m + 1, e', tm2, st2, ?_, h4⟩
   simp only [exec]
   rw [exec_lift h1 (by omega) (by omega)]
   exact exec_lift h3 (by omega) (by omega)
  | exit i =>
   refine ⟨n + 1, _, tm1, st1, ?_, h2⟩
   simp only [exec]
   rw [exec_lift h1 (by omega) (by omega)]
  | ret =>
   refine ⟨n + 1, _, tm1, st1, ?_, h2⟩
   simp only [exec]
   rw [exec_lift h1 (by omega) (by omega)]
theorem loopQ.normal {I : Nat -> TM -> St -> Prop} {k : Nat} {Q : AExit -> TM -> St -> Prop} (j : Nat) (hj : j < k) (h : I j tm st) : loopQ I k Q .normal tm st := ⟨j, hj, h⟩
theorem loopQ.exit {I : Nat -> TM -> St -> Prop} {k : Nat} {Q : AExit -> TM -> St -> Prop} {i : Nat} (h : Q (.exit i) tm st) : loopQ I k Q (.exit i) tm st := h
theorem loopQ.ret {I : Nat -> TM -> St -> Prop} {k : Nat} {Q : AExit -> TM -> St -> Prop} (h : Q .ret tm st) : loopQ I k Q .ret tm st := h
theorem W.region {id : Nat} {ops : Array Oper} {Q : AExit -> TM -> St -> Prop} (h : OW E none (E.pol fid id) ops ops.toList 0 tm st (Q .normal)) : W E fid (.region id ops false) tm st Q := by
 obtain ⟨n, tm1, st1, h1, h2⟩ := h
 refine ⟨n + 1, .normal, tm1, st1, ?_, h2⟩
 simp only [exec, execReg, Bool.false_eq_true, if_false]
 rw [runOps_mono (callF_mono n (n + 1) (by omega)) _ _ _ _ h1]
def St.at (st : St) (n : Nat) : St := { st with next := n }
def hasAlloc (ops : Array Oper) : Bool := ops.toList.any fun o => match o.op with | .alloc _ => true | _ => false
theorem preObjs_none {E : Env} {base : Nat} : ∀ (l : List Oper) (i : Nat) (acc : List (Nat × AObj)), (l.any fun o => match o.op with | .alloc _ => true | _ => false) = false -> preObjs E base l i acc = some acc
 | [], _, _, _ => rfl
 | o :: l, i, acc, h => by
  simp only [List.any_cons, Bool.or_eq_false_iff] at h
  have ih := preObjs_none (E := E) (base := base) l (i + 1) acc h.2
  unfold preObjs
  split
  ·rename_i t ht
   rw [ht] at h; simp at h
  ·exact ih
theorem W.draw {id : Nat} {ops : Array Oper} {Q : AExit -> TM -> St -> Prop} {objs : List (Nat × AObj)} (hd : E.dyn fid id = []) (ho : preObjs E st.next ops.toList 0 st.objs = some objs) (hk : E.mks fid id = false)
  (h : OW E (some (st.next, false)) (E.pol fid id) ops ops.toList 0 tm { st with next := st.next + ops.size, objs := objs } (Q .normal)) : W E fid (.region id ops true) tm st Q := by
 obtain ⟨n, tm1, st1, h1, h2⟩ := h
 refine ⟨n + 1, .normal, tm1, st1, ?_, h2⟩
 simp only [exec, execReg, if_true, ho, hd, hk]
 rw [runOps_mono (callF_mono n (n + 1) (by omega)) _ _ _ _ h1]
theorem W.draw0 {id : Nat} {ops : Array Oper} {Q : AExit -> TM -> St -> Prop} (hd : E.dyn fid id = []) (ho : hasAlloc ops = false) (hk : E.mks fid id = false)
  (h : OW E (some (st.next, false)) (E.pol fid id) ops ops.toList 0 tm (st.at (st.next + ops.size)) (Q .normal)) : W E fid (.region id ops true) tm st Q :=
 W.draw hd (preObjs_none _ _ _ ho) hk h
theorem OW.nil {pre : Pre} {pol : Nat -> Nat} {ops : Array Oper} {i : Nat} {Q : TM -> St -> Prop} (h : Q tm st) : OW E pre pol ops [] i tm st Q := ⟨0, tm, st, rfl, h⟩
theorem stepPre_quiet {call : Call1} {pre : Pre} {pol i : Nat} {o : Oper} {v : AV} (hl : isLoud o.op = false) (hq : quiet E tm st o = some v) : stepPre E call pre pol i tm st o = some (v, st) := by
 unfold stepPre
 split
 ·rename_i h; rw [h] at hl; simp [isLoud] at hl
 ·rename_i h; rw [h] at hl; simp [isLoud] at hl
 ·rename_i h; rw [h] at hl; simp [isLoud] at hl
 ·unfold stepOp
  rw [hl, hq]; rfl
theorem OW.skip {pre : Pre} {pol : Nat -> Nat} {ops : Array Oper} {o : Oper} {r : List Oper} {i : Nat} {Q : TM -> St -> Prop} (hw : wantedA ops tm o = some false)
  (k : OW E pre pol ops r (i + 1) (putO tm o.dst (.tup [])) st Q) : OW E pre pol ops (o :: r) i tm st Q := by
 obtain ⟨n, tm1, st1, h1, h2⟩ := k
 refine ⟨n, tm1, st1, ?_, h2⟩
 simp only [runOps]
 rw [hw]
 exact h1
def noCall : Call1 := fun _ _ _ => none
theorem stepPre_loud {call : Call1} {pre : Pre} {pol i : Nat} {o : Oper} {v : AV} {st' : St} (hp : ∀ b, pre = some b -> b.2 = false /\ ∀ t, o.op ≠ .alloc t) (hl : isLoud o.op = true) (hf : isFnCall o.op = false) (hq : loud E noCall pol tm st o = some (v, st')) : stepPre E call pre pol i tm st o = some (v, st') := by
 unfold stepPre
 split
 ·rename_i b f t h; exact absurd h ((hp _ rfl).2 t)
 ·have := (hp _ rfl).1; cases this
 ·have := (hp _ rfl).1; cases this
 ·unfold stepOp
  rw [if_pos hl, loud_mono (fun _ _ _ _ h => by cases h) hq]
  dsimp only
  rw [hf, Bool.and_false]; rfl
def retQ (E : Env) (rs : List ResultVar) (Q : AV -> St -> Prop) (e : AExit) (tm : TM) (st : St) : Prop :=
 (e = .normal \/ e = .ret) /\ ∃ v, resultsA E rs tm st = some v /\ Q v st
theorem retQ.ret {rs : List ResultVar} {Q : AV -> St -> Prop} {v : AV} (h : resultsA E rs tm st = some v) (hq : Q v st) : retQ E rs Q .ret tm st := ⟨.inr rfl, v, h, hq⟩
theorem CW.fn {f : FuncId} {fn : FnI} {args : List AV} {Q : AV -> St -> Prop} (hp : E.prim f = none) (hf : E.fns f = some fn)
  (h : ∀ tm, tm.n = max fn.ntmps args.length -> (∀ i x, args[i]? = some x -> tm.get i = x) -> W E f fn.code tm st (retQ E fn.results Q)) : CW E f args st Q := by
 have hof : ∀ i x, args[i]? = some x -> (TM.of args fn.ntmps).get i = x := fun i x hx => by
  obtain ⟨hi, h1⟩ := List.getElem?_eq_some_iff.1 hx
  simp only [TM.of, TM.get]
  rw [Tri.get_ofL, if_pos (by omega), Nat.sub_zero, List.getD_eq_getElem?_getD, hx]; rfl
 obtain ⟨n, e, tm1, st1, h1, he, v, h2, h3⟩ := h (TM.of args fn.ntmps) rfl hof
 refine ⟨n + 1, v, st1, ?_, h3⟩
 simp only [callF, hp, hf]
 rw [h1]
 rcases he with rfl | rfl <;> simp only [h2, Option.map_some]
theorem CW.prim {f : FuncId} {g : List AV -> St -> Option (AV × St)} {args : List AV} {Q : AV -> St -> Prop} {r : AV} {st' : St} (hp : E.prim f = some g) (h : g args st = some (r, st')) (hq : Q r st') : CW E f args st Q := by
 refine ⟨1, r, st', ?_, hq⟩
 simp only [callF, hp]
 exact h
theorem CW.mono {f : FuncId} {args : List AV} {Q Q' : AV -> St -> Prop} (h : CW E f args st Q) (hq : ∀ r st, Q r st -> Q' r st) : CW E f args st Q' := by
 obtain ⟨n, r, st1, h1, h2⟩ := h
 exact ⟨n, r, st1, h1, hq _ _ h2⟩
end
end Go.Abs
namespace Go.Abs
theorem runOps_of_T {E : Env} {c : Call1} {pre : Pre} {pol : Nat -> Nat} {ops : Array Oper} : ∀ (l : List Oper) (i : Nat) (tm : TM) (st : St) {tr : List Tr} {q : TM × St}, runOpsT E c pre pol ops l i tm st = some (tr, q) -> runOps E c pre pol ops l i tm st = some q /\ tr.length = l.length
 | [], _, _, _, _, _, h => by
  simp only [runOpsT, Option.some.injEq, Prod.mk.injEq] at h
  obtain ⟨rfl, rfl⟩ := h
  exact ⟨rfl, rfl⟩
 | o :: l, i, tm, st, tr, q, h => by
  cases hw : wantedA ops tm o with
  | none => simp only [runOpsT, hw] at h; cases h
  | some b =>
   cases b with
   | true =>
    cases hs : stepPre E c pre (pol i) i tm st o with
    | none => simp only [runOpsT, hw, hs] at h; cases h
    | some vs =>
     obtain ⟨v, st'⟩ := vs
     cases hl : runOpsT E c pre pol ops l (i + 1) (putO tm o.dst v) st' with
     | none => simp only [runOpsT, hw, hs, hl] at h; cases h
     | some lq =>
      obtain ⟨l', q'⟩ := lq
      simp only [runOpsT, hw, hs, hl, Option.some.injEq, Prod.mk.injEq] at h
      obtain ⟨rfl, rfl⟩ := h
      have := runOps_of_T l (i + 1) _ _ hl
      simp only [runOps, hw, hs]
      exact ⟨this.1, by simp [this.2]⟩
   | false =>
    cases hl : runOpsT E c pre pol ops l (i + 1) (putO tm o.dst (.tup [])) st with
    | none => simp only [runOpsT, hw, hl] at h; cases h
    | some lq =>
     obtain ⟨l', q'⟩ := lq
     simp only [runOpsT, hw, hl, Option.some.injEq, Prod.mk.injEq] at h
     obtain ⟨rfl, rfl⟩ := h
     have := runOps_of_T l (i + 1) _ _ hl
     simp only [runOps, hw]
     exact ⟨this.1, by simp [this.2]⟩
def Stays (E : Env) (st : St) (l : List Oper) (tr : List Tr) : Prop :=
 ∀ (k : Nat) (t : Tr) (o : Oper), tr[k]? = some t -> l[k]? = some o -> t.was = st /\ t.now = st /\ (t.did = true -> isLoud o.op = false -> quiet E t.tm st o = some t.v)
theorem Stays.cons {E : Env} {st : St} {o : Oper} {l : List Oper} {t : Tr} {tr : List Tr} (h : t.was = st /\ t.now = st /\ (t.did = true -> isLoud o.op = false -> quiet E t.tm st o = some t.v)) (hs : Stays E st l tr) : Stays E st (o :: l) (t :: tr) := by
 intro k t' o' h1 h2
 cases k with
 | zero =>
  simp only [List.getElem?_cons_zero, Option.some.injEq] at h1 h2
  subst h1; subst h2; exact h
 | succ k =>
  simp only [List.getElem?_cons_succ] at h1 h2
  exact hs k t' o' h1 h2
def OWc (E : Env) (c : Bool) (pre : Pre) (pol : Nat -> Nat) (ops : Array Oper) (l : List Oper) (i : Nat) (tm : TM) (st : St) (Q : TM -> St -> Prop) : Prop :=
 ∃ n tr tm' st', runOpsT E (callF E n) pre pol ops l i tm st = some (tr, tm', st') /\ (c = true -> st' = st /\ Stays E st l tr) /\ Q tm' st'
section
variable {E : Env} {fid : Nat} {tm : TM} {st : St}
theorem OWc.toOW {c : Bool} {pre : Pre} {pol : Nat -> Nat} {ops : Array Oper} {l : List Oper} {i : Nat} {Q : TM -> St -> Prop} (h : OWc E c pre pol ops l i tm st Q) : OW E pre pol ops l i tm st Q := by
 obtain ⟨n, tr, tm', st', h1, _, h2⟩ := h
 exact ⟨n, tm', st', (runOps_of_T _ _ _ _ h1).1, h2⟩
def dyCheck (ops : Array Oper) (dy : List (Nat × Nat)) : Bool :=
 dy.all fun p => Nat.blt p.1 ops.toList.length && Nat.blt p.2 ops.toList.length && (match ops.toList[p.2]? with | some o => !isLoud o.op | none => false)
theorem W.drawC {id : Nat} {ops : Array Oper} {dy : List (Nat × Nat)} {Q : AExit -> TM -> St -> Prop} (hd : E.dyn fid id = dy) (ho : hasAlloc ops = false) (hc : dyCheck ops dy = true)
  (h : OWc E true (some (st.next, false)) (E.pol fid id) ops ops.toList 0 tm (st.at (st.next + ops.size)) (Q .normal)) (hk : E.mks fid id = false := by rfl) : W E fid (.region id ops true) tm st Q := by
 obtain ⟨n, tr, tm1, st1, h1, hs, h2⟩ := h
 obtain ⟨hst, hsy⟩ := hs rfl
 subst hst
 have hlen := (runOps_of_T _ _ _ _ h1).2
 refine ⟨n + 1, .normal, tm1, _, ?_, h2⟩
 have hpre : preObjs E st.next ops.toList 0 st.objs = some st.objs := preObjs_none _ _ _ ho
 have h1' := runOpsT_mono (callF_mono n (n + 1) (by omega)) _ _ _ _ h1
 simp only [exec, execReg, if_true, hpre, hd, hk]
 cases dy with
 | nil =>
  dsimp only
  have := (runOps_of_T _ _ _ _ h1').1
  unfold St.at at this
  rw [this]
  rfl
 | cons d ds =>
  dsimp only
  unfold St.at at h1'
  rw [h1']
  dsimp only
  have hall : (d :: ds).all (dynOk E ops tr) = true := by
   rw [List.all_eq_true]
   intro p hp
   have hc' := List.all_eq_true.1 hc p hp
   simp only [Bool.and_eq_true] at hc'
   obtain ⟨⟨c1, c2⟩, c3⟩ := hc'
   have c1 : p.1 < ops.toList.length := Eq.mp Nat.blt_eq c1
   have c2 : p.2 < ops.toList.length := Eq.mp Nat.blt_eq c2
   have e1 : p.1 < tr.length := by rw [hlen]; exact c1
   have e2 : p.2 < tr.length := by rw [hlen]; exact c2
   have o1 := List.getElem?_eq_getElem c1
   have o2 := List.getElem?_eq_getElem c2
   have t1 := List.getElem?_eq_getElem e1
   have t2 := List.getElem?_eq_getElem e2
   rw [o2] at c3
   have c3 : isLoud ops.toList[p.2].op = false := by simpa using c3
   obtain ⟨a1, a2, _⟩ := hsy p.1 _ _ t1 o1
   obtain ⟨_, _, b3⟩ := hsy p.2 _ _ t2 o2
   unfold dynOk
   rw [t1, t2, show ops[p.2]? = ops.toList[p.2]? from (Array.getElem?_toList).symm, o2]
   dsimp only
   by_cases hd1 : tr[p.2].did = true
   ·rw [a1, a2, b3 hd1 c3]
    simp [AV.beq_refl]
   ·simp [hd1]
  rw [if_pos hall]
  rfl
def lk : List (Nat × AV) -> Nat -> Option AV
 | [], _ => none
 | (i, v) :: r, j => bif Nat.beq i j then some v else lk r j
def evL (l : List (Nat × AV)) : Operand -> Option AV
 | .tmp t => lk l t
 | .const v => some (ofValue v)
 | .global g => some (.gptr g)
 | .func f => some (.fn f [] [])
def evLs (l : List (Nat × AV)) : List Operand -> Option (List AV)
 | [] => some []
 | x :: r => match evL l x, evLs l r with
  | some v, some vs => some (v :: vs)
  | _, _ => none
structure Fa (N : Nat) (l : List (Nat × AV)) (L : List (Nat × AObj)) (K : List (Nat × Bool)) (tm : TM) (st : St) : Prop where
 n : tm.n = N
 get : ∀ i v, lk l i = some v -> tm.get i = v
 obj : ∀ (k b : Nat) (o : AObj), L[k]? = some (b, o) -> st.get b = some o /\ b < st.next
 uniq : ∀ (k k' b : Nat) (o o' : AObj), L[k]? = some (b, o) -> L[k']? = some (b, o') -> k = k'
 tok : ∀ (k t : Nat), K[k]? = some (t, true) -> st.alive t = true /\ t < st.next
 uniqT : ∀ (k k' t : Nat), K[k]? = some (t, true) -> K[k']? = some (t, true) -> k = k'
theorem Fa.ev {N : Nat} {l : List (Nat × AV)} {L : List (Nat × AObj)} {K : List (Nat × Bool)} (h : Fa N l L K tm st) {x : Operand} {v : AV} (hx : evL l x = some v) : evalO tm x = v := by
 cases x with
 | tmp t => exact h.get t v hx
 | const u => simpa [evL, evalO] using hx
 | global g => simpa [evL, evalO] using hx
 | func f => simpa [evL, evalO] using hx
theorem Fa.evs {N : Nat} {l : List (Nat × AV)} {L : List (Nat × AObj)} {K : List (Nat × Bool)} (h : Fa N l L K tm st) : ∀ {xs : List Operand} {vs : List AV}, evLs l xs = some vs -> xs.map (evalO tm) = vs
 | [], vs, hx => by simpa [evLs] using hx
 | x :: xs, vs, hx => by
  simp only [evLs] at hx
  split at hx
  ·rename_i v ws h1 h2
   cases hx
   rw [List.map_cons, h.ev h1, h.evs h2]
  ·cases hx
theorem Fa.put {N : Nat} {l : List (Nat × AV)} {L : List (Nat × AObj)} {K : List (Nat × Bool)} (h : Fa N l L K tm st) {d : Nat} (hd : Nat.blt d N = true) (v : AV) : Fa N ((d, v) :: l) L K (tm.put d v) st := by
 have hd' : d < tm.n := by rw [h.n]; exact Eq.mp Nat.blt_eq hd
 refine ⟨by rw [TM.n_put]; exact h.n, fun i u hu => ?_, h.obj, h.uniq, h.tok, h.uniqT⟩
 rw [TM.get_put]
 simp only [lk] at hu
 cases hb : Nat.beq d i with
 | true =>
  rw [hb] at hu
  simp only [cond_true, Option.some.injEq] at hu
  have := Nat.eq_of_beq_eq_true hb
  rw [if_pos ⟨this.symm, hd'⟩]; exact hu
 | false =>
  rw [hb] at hu
  simp only [cond_false] at hu
  have := Nat.ne_of_beq_eq_false hb
  rw [if_neg (fun k => this k.1.symm)]
  exact h.get i u hu
def Sub (l l' : List (Nat × AV)) : Prop := ∀ i v, lk l' i = some v -> lk l i = some v
theorem Sub.nil (l : List (Nat × AV)) : Sub l [] := fun _ _ h => by simp [lk] at h
theorem Sub.cons {l l' : List (Nat × AV)} {i : Nat} {v : AV} (h : lk l i = some v) (k : Sub l l') : Sub l ((i, v) :: l') := by
 intro j u hu
 simp only [lk] at hu
 cases hb : Nat.beq i j with
 | true =>
  rw [hb] at hu
  simp only [cond_true, Option.some.injEq] at hu
  have := Nat.eq_of_beq_eq_true hb
  subst this; rw [h, hu]
 | false =>
  rw [hb] at hu
  exact k j u hu
theorem Sub.refl (l : List (Nat × AV)) : Sub l l := fun _ _ h => h
def SubO (L L' : List (Nat × AObj)) : Prop := ∃ f : Nat -> Nat, (∀ (k : Nat) (p : Nat × AObj), L'[k]? = some p -> L[f k]? = some p) /\ ∀ k k' : Nat, k < L'.length -> k' < L'.length -> f k = f k' -> k = k'
theorem SubO.nil (L : List (Nat × AObj)) : SubO L [] := ⟨id, fun k p h => by simp at h, fun k k' h => by simp at h⟩
theorem SubO.refl (L : List (Nat × AObj)) : SubO L L := ⟨id, fun k p h => h, fun k k' _ _ h => h⟩
def SubK (K K' : List (Nat × Bool)) : Prop := ∃ f : Nat -> Nat, (∀ (k t : Nat), K'[k]? = some (t, true) -> K[f k]? = some (t, true)) /\ ∀ k k' t t' : Nat, K'[k]? = some (t, true) -> K'[k']? = some (t', true) -> f k = f k' -> k = k'
theorem SubK.nil (K : List (Nat × Bool)) : SubK K [] := ⟨id, fun k t h => by simp at h, fun k k' t t' h => by simp at h⟩
theorem SubK.refl (K : List (Nat × Bool)) : SubK K K := ⟨id, fun _ _ h => h, fun _ _ _ _ _ _ h => h⟩
theorem SubK.drop {K K' : List (Nat × Bool)} {p : Nat × Bool} (h : SubK K K') : SubK (p :: K) K' := by
 obtain ⟨f, h1, h2⟩ := h
 exact ⟨fun k => f k + 1, fun k q hk => by simpa using h1 k q hk, fun k k' t t' a b e => h2 k k' t t' a b (by simpa using e)⟩
theorem SubK.keep {K K' : List (Nat × Bool)} {t : Nat} {b b' : Bool} (hb : b' = true -> b = true) (h : SubK K K') : SubK ((t, b) :: K) ((t, b') :: K') := by
 obtain ⟨f, h1, h2⟩ := h
 refine ⟨fun k => match k with | 0 => 0 | k + 1 => f k + 1, fun k q hk => ?_, fun k k' u u' a b e => ?_⟩
 ·cases k with
  | zero =>
   simp only [List.getElem?_cons_zero, Option.some.injEq, Prod.mk.injEq] at hk ⊢
   exact ⟨hk.1, hb hk.2⟩
  | succ k => simpa using h1 k q (by simpa using hk)
 ·cases k with
  | zero => cases k' with
   | zero => rfl
   | succ k' => simp at e
  | succ k => cases k' with
   | zero => simp at e
   | succ k' =>
    simp only [Nat.add_right_cancel_iff] at e
    rw [h2 k k' u u' (by simpa using a) (by simpa using b) e]
theorem SubK.new {K K' : List (Nat × Bool)} {t : Nat} (h : SubK K K') : SubK K ((t, false) :: K') := by
 obtain ⟨f, h1, h2⟩ := h
 refine ⟨fun k => match k with | 0 => 0 | k + 1 => f k, fun k q hk => ?_, fun k k' u u' a b e => ?_⟩
 ·cases k with
  | zero => simp at hk
  | succ k => simpa using h1 k q (by simpa using hk)
 ·cases k with
  | zero => simp at a
  | succ k => cases k' with
   | zero => simp at b
   | succ k' => rw [h2 k k' u u' (by simpa using a) (by simpa using b) e]
theorem SubO.drop {L L' : List (Nat × AObj)} {p : Nat × AObj} (h : SubO L L') : SubO (p :: L) L' := by
 obtain ⟨f, h1, h2⟩ := h
 exact ⟨fun k => f k + 1, fun k q hk => by simpa using h1 k q hk, fun k k' a b e => h2 k k' a b (by simpa using e)⟩
theorem SubO.keep {L L' : List (Nat × AObj)} {p : Nat × AObj} (h : SubO L L') : SubO (p :: L) (p :: L') := by
 obtain ⟨f, h1, h2⟩ := h
 refine ⟨fun k => match k with | 0 => 0 | k + 1 => f k + 1, fun k q hk => ?_, fun k k' a b e => ?_⟩
 ·cases k with
  | zero => exact hk
  | succ k => simpa using h1 k q (by simpa using hk)
 ·simp only [List.length_cons] at a b
  cases k with
  | zero => cases k' with
   | zero => rfl
   | succ k' => simp at e
  | succ k => cases k' with
   | zero => simp at e
   | succ k' =>
    simp only [Nat.add_right_cancel_iff] at e
    rw [h2 k k' (by omega) (by omega) e]
theorem Fa.sub {N : Nat} {l l' : List (Nat × AV)} {L L' : List (Nat × AObj)} {K K' : List (Nat × Bool)} (h : Fa N l L K tm st) (h1 : Sub l l') (h2 : SubO L L') (h3 : SubK K K') : Fa N l' L' K' tm st := by
 obtain ⟨f, f1, f2⟩ := h2
 obtain ⟨g, g1, g2⟩ := h3
 refine ⟨h.n, fun i v hv => h.get i v (h1 i v hv), fun k b o hk => h.obj (f k) b o (f1 k _ hk), fun k k' b o o' hk hk' => ?_, fun k t hk => ?_, fun k k' t hk hk' => ?_⟩
 ·exact f2 k k' (List.getElem?_eq_some_iff.1 hk).1 (List.getElem?_eq_some_iff.1 hk').1 (h.uniq _ _ b o o' (f1 k _ hk) (f1 k' _ hk'))
 ·exact h.tok (g k) t (g1 k t hk)
 ·exact g2 k k' t t hk hk' (h.uniqT _ _ t (g1 k t hk) (g1 k' t hk'))
theorem Fa.at {N : Nat} {l : List (Nat × AV)} {L : List (Nat × AObj)} {K : List (Nat × Bool)} (h : Fa N l L K tm st) {m : Nat} (hm : st.next <= m) : Fa N l L K tm (st.at m) :=
 ⟨h.n, h.get, fun k b o hk => ⟨(h.obj k b o hk).1, Nat.lt_of_lt_of_le (h.obj k b o hk).2 hm⟩, h.uniq, fun k t hk => ⟨(h.tok k t hk).1, Nat.lt_of_lt_of_le (h.tok k t hk).2 hm⟩, h.uniqT⟩
end
def WS (E : Env) (fid N : Nat) (c : Code) (l : List (Nat × AV)) (L : List (Nat × AObj)) (K : List (Nat × Bool)) (Q : AExit -> TM -> St -> Prop) : Prop :=
 ∀ tm st, Fa N l L K tm st -> W E fid c tm st Q
def QS (N : Nat) (e : AExit) (l : List (Nat × AV)) (L : List (Nat × AObj)) (K : List (Nat × Bool)) (Q : AExit -> TM -> St -> Prop) : Prop :=
 ∀ tm st, Fa N l L K tm st -> Q e tm st
def OS (E : Env) (c : Bool) (pol : Nat -> Nat) (ops : Array Oper) (r : List Oper) (i N : Nat) (l : List (Nat × AV)) (L : List (Nat × AObj)) (K : List (Nat × Bool)) (Q : AExit -> TM -> St -> Prop) : Prop :=
 ∀ pre tm st, Fa N l L K tm st -> (∀ b, pre = some b -> hasAlloc ops = false /\ b.2 = false) -> OWc E c pre pol ops r i tm st (Q .normal)
def OD (E : Env) (c : Bool) (pol : Nat -> Nat) (ops : Array Oper) (o : Oper) (r : List Oper) (i N : Nat) (l : List (Nat × AV)) (L : List (Nat × AObj)) (K : List (Nat × Bool)) (Q : AExit -> TM -> St -> Prop) : Prop :=
 ∀ pre tm st, Fa N l L K tm st -> (∀ b, pre = some b -> hasAlloc ops = false /\ b.2 = false) -> wantedA ops tm o = some true -> OWc E c pre pol ops (o :: r) i tm st (Q .normal)
section
variable {E : Env} {fid N : Nat} {l : List (Nat × AV)} {L : List (Nat × AObj)} {K : List (Nat × Bool)} {Q : AExit -> TM -> St -> Prop}
theorem WS.seq {a b : Code} (h : WS E fid N a l L K (seqQ E fid b Q)) : WS E fid N (.seq a b) l L K Q := fun tm st hF => .seq (h tm st hF)
theorem WS.block {a : Code} {i : Nat} (h : WS E fid N a l L K (blockQ i Q)) : WS E fid N (.block i a) l L K Q := fun tm st hF => .block (h tm st hF)
theorem WS.skip (h : QS N .normal l L K Q) : WS E fid N .skip l L K Q := fun tm st hF => .skip (h tm st hF)
theorem WS.ret (h : QS N .ret l L K Q) : WS E fid N .ret l L K Q := fun tm st hF => .ret (h tm st hF)
theorem WS.exit {i : Nat} (h : QS N (.exit i) l L K Q) : WS E fid N (.exit i) l L K Q := fun tm st hF => .exit (h tm st hF)
theorem WS.condT {c : Operand} {a b : Code} (ht : evL l c = some (.bool true)) (h : WS E fid N a l L K Q) : WS E fid N (.cond c a b) l L K Q :=
 fun tm st hF => .cond (hF.ev ht) (fun _ => h tm st hF) (fun k => by cases k)
theorem WS.condF {c : Operand} {a b : Code} (ht : evL l c = some (.bool false)) (h : WS E fid N b l L K Q) : WS E fid N (.cond c a b) l L K Q :=
 fun tm st hF => .cond (hF.ev ht) (fun k => by cases k) (fun _ => h tm st hF)
theorem WS.cond {c : Operand} {a b : Code} {t : Bool} (ht : evL l c = some (.bool t)) (h1 : t = true -> WS E fid N a l L K Q) (h2 : t = false -> WS E fid N b l L K Q) : WS E fid N (.cond c a b) l L K Q :=
 fun tm st hF => .cond (hF.ev ht) (fun k => h1 k tm st hF) (fun k => h2 k tm st hF)
theorem WS.region {id : Nat} {ops : Array Oper} (h : OS E false (E.pol fid id) ops ops.toList 0 N l L K Q) : WS E fid N (.region id ops false) l L K Q :=
 fun tm st hF => .region (h none tm st hF (fun _ k => by cases k)).toOW
theorem WS.draw {id : Nat} {ops : Array Oper} (hd : E.dyn fid id = []) (ho : hasAlloc ops = false) (h : OS E false (E.pol fid id) ops ops.toList 0 N l L K Q) (hk : E.mks fid id = false := by rfl) : WS E fid N (.region id ops true) l L K Q :=
 fun tm st hF => .draw0 hd ho hk (h (some (st.next, false)) tm _ (hF.at (by omega)) (fun b hb => ⟨ho, by cases hb; rfl⟩)).toOW
theorem WS.drawC {id : Nat} {ops : Array Oper} {dy : List (Nat × Nat)} (hd : E.dyn fid id = dy) (ho : hasAlloc ops = false) (hc : dyCheck ops dy = true) (h : OS E true (E.pol fid id) ops ops.toList 0 N l L K Q) (hk : E.mks fid id = false := by rfl) : WS E fid N (.region id ops true) l L K Q :=
 fun tm st hF => .drawC hd ho hc (h (some (st.next, false)) tm _ (hF.at (by omega)) (fun b hb => ⟨ho, by cases hb; rfl⟩)) hk
theorem WS.sub {c : Code} {l' : List (Nat × AV)} {L' : List (Nat × AObj)} {K' : List (Nat × Bool)} (h1 : Sub l l') (h2 : SubO L L') (h3 : SubK K K') (h : WS E fid N c l' L' K' Q) : WS E fid N c l L K Q :=
 fun tm st hF => h tm st (hF.sub h1 h2 h3)
theorem QS.seqN {b : Code} (h : WS E fid N b l L K Q) : QS N .normal l L K (seqQ E fid b Q) := h
theorem QS.seqE {b : Code} {i : Nat} (h : QS N (.exit i) l L K Q) : QS N (.exit i) l L K (seqQ E fid b Q) := h
theorem QS.seqR {b : Code} (h : QS N .ret l L K Q) : QS N .ret l L K (seqQ E fid b Q) := h
theorem QS.blockN {i : Nat} (h : QS N .normal l L K Q) : QS N .normal l L K (blockQ i Q) := h
theorem QS.blockH {i : Nat} (h : QS N .normal l L K Q) : QS N (.exit i) l L K (blockQ i Q) := fun tm st hF => blockQ.here (h tm st hF)
theorem QS.blockR {i : Nat} (h : QS N .ret l L K Q) : QS N .ret l L K (blockQ i Q) := h
def resS (l : List (Nat × AV)) : List ResultVar -> Option (List AV)
 | [] => some []
 | .tmp t :: rs => match lk l t, resS l rs with
  | some v, some vs => some (v :: vs)
  | _, _ => none
 | .cell _ _ :: _ => none
def res1 (l : List (Nat × AV)) (rs : List ResultVar) : Option AV :=
 match resS l rs with
 | some [v] => some v
 | some vs => some (.tup vs)
 | none => none
theorem Fa.resS {tm : TM} {st : St} (hF : Fa N l L K tm st) : ∀ {rs : List ResultVar} {vs : List AV}, resS l rs = some vs -> resL E tm st rs = some vs
 | [], vs, h => h
 | .cell _ _ :: _, vs, h => by simp [Abs.resS] at h
 | .tmp t :: rs, vs, h => by
  simp only [Abs.resS] at h
  split at h
  ·rename_i v vs' h1 h2
   simp only [resL, resA, hF.get t v h1, hF.resS h2]
   exact h
  ·cases h
theorem Fa.res1 {tm : TM} {st : St} (hF : Fa N l L K tm st) {rs : List ResultVar} {v : AV} (h : res1 l rs = some v) : resultsA E rs tm st = some v := by
 unfold Abs.res1 at h
 cases hr : Abs.resS l rs with
 | none => rw [hr] at h; cases h
 | some vs =>
  rw [hr] at h
  unfold resultsA
  rw [hF.resS hr]
  match vs, h with
  | [], h => exact h
  | [_], h => exact h
  | _ :: _ :: _, h => exact h
theorem QS.retR {rs : List ResultVar} {v : AV} {Q : AV -> St -> Prop} (h : res1 l rs = some v) (hq : ∀ st, Q v st) : QS N .ret l L K (retQ E rs Q) :=
 fun _ st hF => retQ.ret (hF.res1 h) (hq st)
def loopS {D : Type} (N : Nat) (lf : D -> List (Nat × AV)) (Lf : D -> List (Nat × AObj)) (Kf : D -> List (Nat × Bool)) (p : D -> Prop) (m : D -> Nat) (k : Nat) (tm : TM) (st : St) : Prop :=
 ∃ d, m d = k /\ p d /\ Fa N (lf d) (Lf d) (Kf d) tm st
theorem WS.loop {D : Type} {c : Code} (lf : D -> List (Nat × AV)) (Lf : D -> List (Nat × AObj)) (Kf : D -> List (Nat × Bool)) (p : D -> Prop) (m : D -> Nat) (d0 : D) (h0 : p d0) (hl : Sub l (lf d0)) (hL : SubO L (Lf d0)) (hK : SubK K (Kf d0))
  (hb : ∀ d, p d -> WS E fid N c (lf d) (Lf d) (Kf d) (loopQ (loopS N lf Lf Kf p m) (m d) Q)) : WS E fid N (.loop c) l L K Q := by
 intro tm st hF
 refine W.loop (loopS N lf Lf Kf p m) ?_ (m d0) tm st ⟨d0, rfl, h0, hF.sub hl hL hK⟩
 rintro k tm st ⟨d, rfl, hp, hF⟩
 exact hb d hp tm st hF
theorem QS.loopN {D : Type} {lf : D -> List (Nat × AV)} {Lf : D -> List (Nat × AObj)} {Kf : D -> List (Nat × Bool)} {p : D -> Prop} {m : D -> Nat} {k : Nat} (d : D) (hp : p d) (hm : m d < k) (hl : Sub l (lf d)) (hL : SubO L (Lf d)) (hK : SubK K (Kf d)) : QS N .normal l L K (loopQ (loopS N lf Lf Kf p m) k Q) :=
 fun _ _ hF => loopQ.normal (m d) hm ⟨d, rfl, hp, hF.sub hl hL hK⟩
theorem QS.loopE {I : Nat -> TM -> St -> Prop} {k i : Nat} (h : QS N (.exit i) l L K Q) : QS N (.exit i) l L K (loopQ I k Q) := h
theorem QS.loopR {I : Nat -> TM -> St -> Prop} {k : Nat} (h : QS N .ret l L K Q) : QS N .ret l L K (loopQ I k Q) := h
variable {c : Bool} {pol : Nat -> Nat} {ops : Array Oper} {o : Oper} {r : List Oper} {i : Nat}
theorem OS.nil (h : QS N .normal l L K Q) : OS E c pol ops [] i N l L K Q := by
 intro pre tm st hF _
 exact ⟨0, [], tm, st, rfl, fun _ => ⟨rfl, fun k t o h1 h2 => by simp at h1⟩, h tm st hF⟩
def wantS (ops : Array Oper) (l : List (Nat × AV)) (o : Oper) : Option Bool :=
 match o.guard with
 | none => some true
 | some (j, want) =>
  match (ops.toList[j]?).bind (·.dst) with
  | none => some false
  | some d =>
   match lk l d with
   | some (.bool b) => some (b == want)
   | some (.tup _) => some false
   | _ => none
theorem Fa.want {tm : TM} {st : St} (hF : Fa N l L K tm st) {b : Bool} (h : wantS ops l o = some b) : wantedA ops tm o = some b := by
 unfold wantS at h
 unfold wantedA
 split at h
 ·rename_i hg; rw [hg]; exact h
 ·rename_i j want hg
  rw [hg]
  dsimp only
  rw [<- Array.getElem?_toList]
  split at h
  ·rename_i hd; rw [hd]; exact h
  ·rename_i d hd
   rw [hd]
   dsimp only
   split at h
   ·rename_i b' hb; rw [hF.get d _ hb]; exact h
   ·rename_i b' hb; rw [hF.get d _ hb]; exact h
   ·cases h
theorem OS.do (hw : wantS ops l o = some true) (h : OD E c pol ops o r i N l L K Q) : OS E c pol ops (o :: r) i N l L K Q :=
 fun pre tm st hF hp => h pre tm st hF hp (hF.want hw)
theorem OWc.skip {pre : Pre} {tm : TM} {st : St} {Q : TM -> St -> Prop} (hw : wantedA ops tm o = some false) (k : OWc E c pre pol ops r (i + 1) (putO tm o.dst (.tup [])) st Q) : OWc E c pre pol ops (o :: r) i tm st Q := by
 obtain ⟨n, tr, tm1, st1, h1, hs, h2⟩ := k
 refine ⟨n, ⟨tm, st, st, .tup [], false⟩ :: tr, tm1, st1, ?_, fun hc => ⟨(hs hc).1, ?_⟩, h2⟩
 ·simp only [runOpsT]
  rw [hw]
  dsimp only
  rw [h1]
 ·exact .cons ⟨rfl, rfl, fun k => by cases k⟩ (hs hc).2
theorem OS.skip {d : Nat} (hw : wantS ops l o = some false) (hd : o.dst = some d) (hn : Nat.blt d N = true) (h : OS E c pol ops r (i + 1) N ((d, .tup []) :: l) L K Q) : OS E c pol ops (o :: r) i N l L K Q := by
 intro pre tm st hF hp
 refine .skip (hF.want hw) ?_
 rw [hd]
 exact h pre _ st (hF.put hn _) hp
theorem OS.split {j d : Nat} {want b : Bool} (hg : o.guard = some (j, want)) (hd : (ops.toList[j]?).bind (·.dst) = some d) (hb : lk l d = some (.bool b))
  (h1 : b = true -> OS E c pol ops (o :: r) i N ((d, .bool true) :: l) L K Q) (h2 : b = false -> OS E c pol ops (o :: r) i N ((d, .bool false) :: l) L K Q) : OS E c pol ops (o :: r) i N l L K Q := by
 intro pre tm st hF hp
 have hF' : ∀ v, v = AV.bool b -> Fa N ((d, v) :: l) L K tm st := fun v hv => hF.sub (fun i u hu => by
  simp only [lk] at hu
  cases hb' : Nat.beq d i with
  | true =>
   rw [hb'] at hu
   simp only [cond_true, Option.some.injEq] at hu
   have := Nat.eq_of_beq_eq_true hb'
   subst this; rw [hb, <- hu, hv]
  | false => rw [hb'] at hu; exact hu) (.refl _) (.refl _)
 cases b with
 | true => exact h1 rfl pre tm st (hF' _ rfl) hp
 | false => exact h2 rfl pre tm st (hF' _ rfl) hp
theorem OD.quiet {d : Nat} {v : AV} (hd : o.dst = some d) (hn : Nat.blt d N = true) (hl : isLoud o.op = false) (hq : ∀ tm st, Fa N l L K tm st -> quiet E tm st o = some v) (k : OS E c pol ops r (i + 1) N ((d, v) :: l) L K Q) : OD E c pol ops o r i N l L K Q := by
 intro pre tm st hF hp hw
 obtain ⟨n, tr, tm1, st1, h1, hs, h2⟩ := k pre (tm.put d v) st (hF.put hn v) hp
 refine ⟨n, ⟨tm, st, st, v, true⟩ :: tr, tm1, st1, ?_, fun hc => ⟨(hs hc).1, ?_⟩, h2⟩
 ·simp only [runOpsT]
  rw [hw]
  dsimp only
  rw [stepPre_quiet hl (hq tm st hF), hd]
  dsimp only [putO]
  rw [h1]
 ·exact .cons ⟨rfl, rfl, fun _ _ => hq tm st hF⟩ (hs hc).2
end
end Go.Abs
