/- Own text of this claim: part 6 of an interpreter that is proved sound against the model, and of what it shows of the law. -/
import Derived.KernelRfl
import Derived.Test.YthomnnnhkfjbdaaGreatProg
import Derived.Test.YthomnnnhkfjbdaaGreatAbs5
namespace Go.OptEnv
open Go Go.Proofs Go.Abs

theorem info_of {t : TypeId} {i : TypeInfo} (h : Tryz.prog.types[t]? = some i) : Tryz.prog.info? t = some i := by
  have hs : t < Tryz.prog.types.size := (Array.getElem?_eq_some_iff.1 h).1
  unfold Tables.info?
  rw [if_pos hs, h]
def tyOfV (u : TypeDesc) (i : TypeInfo) : Option Ty :=
  match i.zero with
  | some z => if (isAggD u == (match z with | .agg _ => true | _ => false)) && (z.cells.toList.map ofCell).length == i.size && (z.cells.toList.map ofCell).all AV.cellOk then some { d := tdOf u, size := i.size, bytes := i.bytes, agg := isAggD u, zero := z.cells.toList.map ofCell, fs := fsOf u } else none
  | none => none
theorem tyA {t : TypeId} {y : Ty} {u : TypeDesc} {i : TypeInfo} (h1 : Tryz.prog.underlying t = some u) (h2 : Tryz.prog.types[t]? = some i) (h3 : tyOfV u i = some { y with eqOk := false }) (he : y.eqOk = true → eqFine Tryz.prog t = true) : TyOk Tryz.prog t y := .of_tyOf (by unfold tyOf; rw [h1, info_of h2]; exact h3) he
theorem tyB {t : TypeId} {y : Ty} {u : TypeDesc} {i : TypeInfo} (h1 : Tryz.prog.underlying t = some u) (h2 : Tryz.prog.types[t]? = some i) (h3 : tyOfV u i = some { y with eqOk := false }) (he : y.eqOk = false) : TyOk Tryz.prog t y := tyA h1 h2 h3 fun h => by rw [he] at h; cases h
def ty1 : Ty := { d := .func, size := 1, bytes := 8, agg := false, zero := [.nilfn], fs := [], eqOk := false }
theorem ty1_ok : TyOk Tryz.prog 1 ty1 := tyB Tryz.underlying1 Tryz.type1 rfl rfl
def ty2 : Ty := { d := .int .i64, size := 1, bytes := 8, agg := false, zero := [.int .i64 0], fs := [], eqOk := false }
theorem ty2_ok : TyOk Tryz.prog 2 ty2 := tyB Tryz.underlying2 Tryz.type2 rfl rfl
def ty3 : Ty := { d := .int .i64, size := 1, bytes := 8, agg := false, zero := [.int .i64 0], fs := [], eqOk := false }
theorem ty3_ok : TyOk Tryz.prog 3 ty3 := tyB Tryz.underlying3 Tryz.type3 rfl rfl
def ty4 : Ty := { d := .bool, size := 1, bytes := 1, agg := false, zero := [.bool false], fs := [], eqOk := false }
theorem ty4_ok : TyOk Tryz.prog 4 ty4 := tyB Tryz.underlying4 Tryz.type4 rfl rfl
def ty5 : Ty := { d := .int .u8, size := 1, bytes := 1, agg := false, zero := [.int .u8 0], fs := [], eqOk := false }
theorem ty5_ok : TyOk Tryz.prog 5 ty5 := tyB Tryz.underlying5 Tryz.type5 rfl rfl
def ty6 : Ty := { d := .int .u8, size := 1, bytes := 1, agg := false, zero := [.int .u8 0], fs := [], eqOk := false }
theorem ty6_ok : TyOk Tryz.prog 6 ty6 := tyB Tryz.underlying6 Tryz.type6 rfl rfl
def ty7 : Ty := { d := .struct, size := 4, bytes := 24, agg := true, zero := [.int .i64 0, .int .i64 0, .bool false, .int .u8 0], fs := [(2, 0), (3, 1), (4, 2), (6, 3)], eqOk := true }
theorem ty7_ok : TyOk Tryz.prog 7 ty7 := tyA Tryz.underlying7 Tryz.type7 rfl (by intro _; simp only [eqFine, Tryz.eqGuardType7, Tryz.underlying7, Tryz.stoodInHeld7]; rfl)
def ty8 : Ty := { d := .struct, size := 4, bytes := 24, agg := true, zero := [.int .i64 0, .int .i64 0, .bool false, .int .u8 0], fs := [(2, 0), (3, 1), (4, 2), (6, 3)], eqOk := true }
theorem ty8_ok : TyOk Tryz.prog 8 ty8 := tyA Tryz.underlying8 Tryz.type8 rfl (by intro _; simp only [eqFine, Tryz.eqGuardType8, Tryz.underlying8, Tryz.stoodInHeld8]; rfl)
def ty9 : Ty := { d := .string, size := 1, bytes := 16, agg := false, zero := [.str ⟨#[]⟩], fs := [], eqOk := false }
theorem ty9_ok : TyOk Tryz.prog 9 ty9 := tyB Tryz.underlying9 Tryz.type9 rfl rfl
def ty10 : Ty := { d := .string, size := 1, bytes := 16, agg := false, zero := [.str ⟨#[]⟩], fs := [], eqOk := false }
theorem ty10_ok : TyOk Tryz.prog 10 ty10 := tyB Tryz.underlying10 Tryz.type10 rfl rfl
def ty11 : Ty := { d := .string, size := 1, bytes := 16, agg := false, zero := [.str ⟨#[]⟩], fs := [], eqOk := false }
theorem ty11_ok : TyOk Tryz.prog 11 ty11 := tyB Tryz.underlying11 Tryz.type11 rfl rfl
def ty12 : Ty := { d := .int .u64, size := 1, bytes := 8, agg := false, zero := [.int .u64 0], fs := [], eqOk := false }
theorem ty12_ok : TyOk Tryz.prog 12 ty12 := tyB Tryz.underlying12 Tryz.type12 rfl rfl
def ty13 : Ty := { d := .struct, size := 2, bytes := 24, agg := true, zero := [.str ⟨#[]⟩, .int .u64 0], fs := [(9, 0), (12, 1)], eqOk := false }
theorem ty13_ok : TyOk Tryz.prog 13 ty13 := tyB Tryz.underlying13 Tryz.type13 rfl rfl
def ty14 : Ty := { d := .struct, size := 2, bytes := 24, agg := true, zero := [.str ⟨#[]⟩, .int .u64 0], fs := [(9, 0), (12, 1)], eqOk := false }
theorem ty14_ok : TyOk Tryz.prog 14 ty14 := tyB Tryz.underlying14 Tryz.type14 rfl rfl
def ty15 : Ty := { d := .pointer 217, size := 1, bytes := 8, agg := false, zero := [.nilptr], fs := [], eqOk := false }
theorem ty15_ok : TyOk Tryz.prog 15 ty15 := tyB Tryz.underlying15 Tryz.type15 rfl rfl
def ty16 : Ty := { d := .pointer 220, size := 1, bytes := 8, agg := false, zero := [.nilptr], fs := [], eqOk := false }
theorem ty16_ok : TyOk Tryz.prog 16 ty16 := tyB Tryz.underlying16 Tryz.type16 rfl rfl
def ty17 : Ty := { d := .pointer 228, size := 1, bytes := 8, agg := false, zero := [.nilptr], fs := [], eqOk := false }
theorem ty17_ok : TyOk Tryz.prog 17 ty17 := tyB Tryz.underlying17 Tryz.type17 rfl rfl
def ty18 : Ty := { d := .struct, size := 1, bytes := 8, agg := true, zero := [.nilptr], fs := [(17, 0)], eqOk := false }
theorem ty18_ok : TyOk Tryz.prog 18 ty18 := tyB Tryz.underlying18 Tryz.type18 rfl rfl
def ty19 : Ty := { d := .struct, size := 1, bytes := 8, agg := true, zero := [.nilptr], fs := [(17, 0)], eqOk := false }
theorem ty19_ok : TyOk Tryz.prog 19 ty19 := tyB Tryz.underlying19 Tryz.type19 rfl rfl
def ty20 : Ty := { d := .iface, size := 1, bytes := 16, agg := false, zero := [.nilif], fs := [], eqOk := false }
theorem ty20_ok : TyOk Tryz.prog 20 ty20 := tyB Tryz.underlying20 Tryz.type20 rfl rfl
def ty21 : Ty := { d := .int .i32, size := 1, bytes := 4, agg := false, zero := [.int .i32 0], fs := [], eqOk := false }
theorem ty21_ok : TyOk Tryz.prog 21 ty21 := tyB Tryz.underlying21 Tryz.type21 rfl rfl
def ty22 : Ty := { d := .slice 9, size := 1, bytes := 24, agg := false, zero := [.nilsl], fs := [], eqOk := false }
theorem ty22_ok : TyOk Tryz.prog 22 ty22 := tyB Tryz.underlying22 Tryz.type22 rfl rfl
def ty23 : Ty := { d := .slice 68, size := 1, bytes := 24, agg := false, zero := [.nilsl], fs := [], eqOk := false }
theorem ty23_ok : TyOk Tryz.prog 23 ty23 := tyB Tryz.underlying23 Tryz.type23 rfl rfl
def ty24 : Ty := { d := .slice 53, size := 1, bytes := 24, agg := false, zero := [.nilsl], fs := [], eqOk := false }
theorem ty24_ok : TyOk Tryz.prog 24 ty24 := tyB Tryz.underlying24 Tryz.type24 rfl rfl
def ty25 : Ty := { d := .slice 55, size := 1, bytes := 24, agg := false, zero := [.nilsl], fs := [], eqOk := false }
theorem ty25_ok : TyOk Tryz.prog 25 ty25 := tyB Tryz.underlying25 Tryz.type25 rfl rfl
def ty26 : Ty := { d := .struct, size := 4, bytes := 96, agg := true, zero := [.nilsl, .nilsl, .nilsl, .nilsl], fs := [(22, 0), (23, 1), (24, 2), (25, 3)], eqOk := true }
theorem ty26_ok : TyOk Tryz.prog 26 ty26 := tyA Tryz.underlying26 Tryz.type26 rfl (by intro _; simp only [eqFine, Tryz.eqGuardType26, Tryz.underlying26, Tryz.stoodInHeld26]; rfl)
def ty27 : Ty := { d := .struct, size := 4, bytes := 96, agg := true, zero := [.nilsl, .nilsl, .nilsl, .nilsl], fs := [(22, 0), (23, 1), (24, 2), (25, 3)], eqOk := true }
theorem ty27_ok : TyOk Tryz.prog 27 ty27 := tyA Tryz.underlying27 Tryz.type27 rfl (by intro _; simp only [eqFine, Tryz.eqGuardType27, Tryz.underlying27, Tryz.stoodInHeld27]; rfl)
def ty28 : Ty := { d := .func, size := 1, bytes := 8, agg := false, zero := [.nilfn], fs := [], eqOk := false }
theorem ty28_ok : TyOk Tryz.prog 28 ty28 := tyB Tryz.underlying28 Tryz.type28 rfl rfl
def ty29 : Ty := { d := .func, size := 1, bytes := 8, agg := false, zero := [.nilfn], fs := [], eqOk := false }
theorem ty29_ok : TyOk Tryz.prog 29 ty29 := tyB Tryz.underlying29 Tryz.type29 rfl rfl
def ty30 : Ty := { d := .int .i64, size := 1, bytes := 8, agg := false, zero := [.int .i64 0], fs := [], eqOk := false }
theorem ty30_ok : TyOk Tryz.prog 30 ty30 := tyB Tryz.underlying30 Tryz.type30 rfl rfl
def ty32 : Ty := { d := .func, size := 1, bytes := 8, agg := false, zero := [.nilfn], fs := [], eqOk := false }
theorem ty32_ok : TyOk Tryz.prog 32 ty32 := tyB Tryz.underlying32 Tryz.type32 rfl rfl
def ty33 : Ty := { d := .func, size := 1, bytes := 8, agg := false, zero := [.nilfn], fs := [], eqOk := false }
theorem ty33_ok : TyOk Tryz.prog 33 ty33 := tyB Tryz.underlying33 Tryz.type33 rfl rfl
def ty34 : Ty := { d := .slice 63, size := 1, bytes := 24, agg := false, zero := [.nilsl], fs := [], eqOk := false }
theorem ty34_ok : TyOk Tryz.prog 34 ty34 := tyB Tryz.underlying34 Tryz.type34 rfl rfl
def ty36 : Ty := { d := .func, size := 1, bytes := 8, agg := false, zero := [.nilfn], fs := [], eqOk := false }
theorem ty36_ok : TyOk Tryz.prog 36 ty36 := tyB Tryz.underlying36 Tryz.type36 rfl rfl
def ty37 : Ty := { d := .func, size := 1, bytes := 8, agg := false, zero := [.nilfn], fs := [], eqOk := false }
theorem ty37_ok : TyOk Tryz.prog 37 ty37 := tyB Tryz.underlying37 Tryz.type37 rfl rfl
def ty38 : Ty := { d := .slice 3, size := 1, bytes := 24, agg := false, zero := [.nilsl], fs := [], eqOk := false }
theorem ty38_ok : TyOk Tryz.prog 38 ty38 := tyB Tryz.underlying38 Tryz.type38 rfl rfl
def ty40 : Ty := { d := .func, size := 1, bytes := 8, agg := false, zero := [.nilfn], fs := [], eqOk := false }
theorem ty40_ok : TyOk Tryz.prog 40 ty40 := tyB Tryz.underlying40 Tryz.type40 rfl rfl
def ty41 : Ty := { d := .slice 5, size := 1, bytes := 24, agg := false, zero := [.nilsl], fs := [], eqOk := false }
theorem ty41_ok : TyOk Tryz.prog 41 ty41 := tyB Tryz.underlying41 Tryz.type41 rfl rfl
def ty42 : Ty := { d := .array 2 41, size := 2, bytes := 48, agg := true, zero := [.nilsl, .nilsl], fs := [], eqOk := true }
theorem ty42_ok : TyOk Tryz.prog 42 ty42 := tyA Tryz.underlying42 Tryz.type42 rfl (by intro _; simp only [eqFine, Tryz.eqGuardType42, Tryz.underlying42]; rfl)
def ty43 : Ty := { d := .slice 34, size := 1, bytes := 24, agg := false, zero := [.nilsl], fs := [], eqOk := false }
theorem ty43_ok : TyOk Tryz.prog 43 ty43 := tyB Tryz.underlying43 Tryz.type43 rfl rfl
def ty44 : Ty := { d := .func, size := 1, bytes := 8, agg := false, zero := [.nilfn], fs := [], eqOk := false }
theorem ty44_ok : TyOk Tryz.prog 44 ty44 := tyB Tryz.underlying44 Tryz.type44 rfl rfl
def ty45 : Ty := { d := .func, size := 1, bytes := 8, agg := false, zero := [.nilfn], fs := [], eqOk := false }
theorem ty45_ok : TyOk Tryz.prog 45 ty45 := tyB Tryz.underlying45 Tryz.type45 rfl rfl
def ty46 : Ty := { d := .slice 27, size := 1, bytes := 24, agg := false, zero := [.nilsl], fs := [], eqOk := false }
theorem ty46_ok : TyOk Tryz.prog 46 ty46 := tyB Tryz.underlying46 Tryz.type46 rfl rfl
def ty47 : Ty := { d := .slice 30, size := 1, bytes := 24, agg := false, zero := [.nilsl], fs := [], eqOk := false }
theorem ty47_ok : TyOk Tryz.prog 47 ty47 := tyB Tryz.underlying47 Tryz.type47 rfl rfl
def ty49 : Ty := { d := .func, size := 1, bytes := 8, agg := false, zero := [.nilfn], fs := [], eqOk := false }
theorem ty49_ok : TyOk Tryz.prog 49 ty49 := tyB Tryz.underlying49 Tryz.type49 rfl rfl
def ty50 : Ty := { d := .func, size := 1, bytes := 8, agg := false, zero := [.nilfn], fs := [], eqOk := false }
theorem ty50_ok : TyOk Tryz.prog 50 ty50 := tyB Tryz.underlying50 Tryz.type50 rfl rfl
def ty51 : Ty := { d := .func, size := 1, bytes := 8, agg := false, zero := [.nilfn], fs := [], eqOk := false }
theorem ty51_ok : TyOk Tryz.prog 51 ty51 := tyB Tryz.underlying51 Tryz.type51 rfl rfl
def ty52 : Ty := { d := .func, size := 1, bytes := 8, agg := false, zero := [.nilfn], fs := [], eqOk := false }
theorem ty52_ok : TyOk Tryz.prog 52 ty52 := tyB Tryz.underlying52 Tryz.type52 rfl rfl
def ty53 : Ty := { d := .array 2 3, size := 2, bytes := 16, agg := true, zero := [.int .i64 0, .int .i64 0], fs := [], eqOk := true }
theorem ty53_ok : TyOk Tryz.prog 53 ty53 := tyA Tryz.underlying53 Tryz.type53 rfl (by intro _; simp only [eqFine, Tryz.eqGuardType53, Tryz.underlying53]; rfl)
def ty54 : Ty := { d := .struct, size := 2, bytes := 24, agg := true, zero := [.str ⟨#[]⟩, .int .i64 0], fs := [(9, 0), (3, 1)], eqOk := true }
theorem ty54_ok : TyOk Tryz.prog 54 ty54 := tyA Tryz.underlying54 Tryz.type54 rfl (by intro _; simp only [eqFine, Tryz.eqGuardType54, Tryz.underlying54, Tryz.stoodInHeld54]; rfl)
def ty55 : Ty := { d := .struct, size := 2, bytes := 24, agg := true, zero := [.str ⟨#[]⟩, .int .i64 0], fs := [(9, 0), (3, 1)], eqOk := true }
theorem ty55_ok : TyOk Tryz.prog 55 ty55 := tyA Tryz.underlying55 Tryz.type55 rfl (by intro _; simp only [eqFine, Tryz.eqGuardType55, Tryz.underlying55, Tryz.stoodInHeld55]; rfl)
def ty56 : Ty := { d := .func, size := 1, bytes := 8, agg := false, zero := [.nilfn], fs := [], eqOk := false }
theorem ty56_ok : TyOk Tryz.prog 56 ty56 := tyB Tryz.underlying56 Tryz.type56 rfl rfl
def ty57 : Ty := { d := .map 9 4, size := 1, bytes := 8, agg := false, zero := [.nilmap], fs := [], eqOk := false }
theorem ty57_ok : TyOk Tryz.prog 57 ty57 := tyB Tryz.underlying57 Tryz.type57 rfl rfl
def ty58 : Ty := { d := .func, size := 1, bytes := 8, agg := false, zero := [.nilfn], fs := [], eqOk := false }
theorem ty58_ok : TyOk Tryz.prog 58 ty58 := tyB Tryz.underlying58 Tryz.type58 rfl rfl
def ty59 : Ty := { d := .func, size := 1, bytes := 8, agg := false, zero := [.nilfn], fs := [], eqOk := false }
theorem ty59_ok : TyOk Tryz.prog 59 ty59 := tyB Tryz.underlying59 Tryz.type59 rfl rfl
def ty60 : Ty := { d := .slice 32, size := 1, bytes := 24, agg := false, zero := [.nilsl], fs := [], eqOk := false }
theorem ty60_ok : TyOk Tryz.prog 60 ty60 := tyB Tryz.underlying60 Tryz.type60 rfl rfl
def ty61 : Ty := { d := .func, size := 1, bytes := 8, agg := false, zero := [.nilfn], fs := [], eqOk := false }
theorem ty61_ok : TyOk Tryz.prog 61 ty61 := tyB Tryz.underlying61 Tryz.type61 rfl rfl
def ty62 : Ty := { d := .func, size := 1, bytes := 8, agg := false, zero := [.nilfn], fs := [], eqOk := false }
theorem ty62_ok : TyOk Tryz.prog 62 ty62 := tyB Tryz.underlying62 Tryz.type62 rfl rfl
def ty63 : Ty := { d := .int .u8, size := 1, bytes := 1, agg := false, zero := [.int .u8 0], fs := [], eqOk := false }
theorem ty63_ok : TyOk Tryz.prog 63 ty63 := tyB Tryz.underlying63 Tryz.type63 rfl rfl
def ty65 : Ty := { d := .func, size := 1, bytes := 8, agg := false, zero := [.nilfn], fs := [], eqOk := false }
theorem ty65_ok : TyOk Tryz.prog 65 ty65 := tyB Tryz.underlying65 Tryz.type65 rfl rfl
def ty66 : Ty := { d := .func, size := 1, bytes := 8, agg := false, zero := [.nilfn], fs := [], eqOk := false }
theorem ty66_ok : TyOk Tryz.prog 66 ty66 := tyB Tryz.underlying66 Tryz.type66 rfl rfl
def ty67 : Ty := { d := .struct, size := 3, bytes := 32, agg := true, zero := [.str ⟨#[]⟩, .int .u8 0, .int .i64 0], fs := [(9, 0), (63, 1), (3, 2)], eqOk := true }
theorem ty67_ok : TyOk Tryz.prog 67 ty67 := tyA Tryz.underlying67 Tryz.type67 rfl (by intro _; simp only [eqFine, Tryz.eqGuardType67, Tryz.underlying67, Tryz.stoodInHeld67]; rfl)
def ty68 : Ty := { d := .struct, size := 3, bytes := 32, agg := true, zero := [.str ⟨#[]⟩, .int .u8 0, .int .i64 0], fs := [(9, 0), (63, 1), (3, 2)], eqOk := true }
theorem ty68_ok : TyOk Tryz.prog 68 ty68 := tyA Tryz.underlying68 Tryz.type68 rfl (by intro _; simp only [eqFine, Tryz.eqGuardType68, Tryz.underlying68, Tryz.stoodInHeld68]; rfl)
def ty69 : Ty := { d := .slice 4, size := 1, bytes := 24, agg := false, zero := [.nilsl], fs := [], eqOk := false }
theorem ty69_ok : TyOk Tryz.prog 69 ty69 := tyB Tryz.underlying69 Tryz.type69 rfl rfl
def ty70 : Ty := { d := .map 3 4, size := 1, bytes := 8, agg := false, zero := [.nilmap], fs := [], eqOk := false }
theorem ty70_ok : TyOk Tryz.prog 70 ty70 := tyB Tryz.underlying70 Tryz.type70 rfl rfl
def ty71 : Ty := { d := .func, size := 1, bytes := 8, agg := false, zero := [.nilfn], fs := [], eqOk := false }
theorem ty71_ok : TyOk Tryz.prog 71 ty71 := tyB Tryz.underlying71 Tryz.type71 rfl rfl
def ty72 : Ty := { d := .func, size := 1, bytes := 8, agg := false, zero := [.nilfn], fs := [], eqOk := false }
theorem ty72_ok : TyOk Tryz.prog 72 ty72 := tyB Tryz.underlying72 Tryz.type72 rfl rfl
def ty73 : Ty := { d := .func, size := 1, bytes := 8, agg := false, zero := [.nilfn], fs := [], eqOk := false }
theorem ty73_ok : TyOk Tryz.prog 73 ty73 := tyB Tryz.underlying73 Tryz.type73 rfl rfl
def ty74 : Ty := { d := .func, size := 1, bytes := 8, agg := false, zero := [.nilfn], fs := [], eqOk := false }
theorem ty74_ok : TyOk Tryz.prog 74 ty74 := tyB Tryz.underlying74 Tryz.type74 rfl rfl
def ty75 : Ty := { d := .func, size := 1, bytes := 8, agg := false, zero := [.nilfn], fs := [], eqOk := false }
theorem ty75_ok : TyOk Tryz.prog 75 ty75 := tyB Tryz.underlying75 Tryz.type75 rfl rfl
def ty76 : Ty := { d := .func, size := 1, bytes := 8, agg := false, zero := [.nilfn], fs := [], eqOk := false }
theorem ty76_ok : TyOk Tryz.prog 76 ty76 := tyB Tryz.underlying76 Tryz.type76 rfl rfl
def ty77 : Ty := { d := .func, size := 1, bytes := 8, agg := false, zero := [.nilfn], fs := [], eqOk := false }
theorem ty77_ok : TyOk Tryz.prog 77 ty77 := tyB Tryz.underlying77 Tryz.type77 rfl rfl
def ty78 : Ty := { d := .func, size := 1, bytes := 8, agg := false, zero := [.nilfn], fs := [], eqOk := false }
theorem ty78_ok : TyOk Tryz.prog 78 ty78 := tyB Tryz.underlying78 Tryz.type78 rfl rfl
def ty79 : Ty := { d := .func, size := 1, bytes := 8, agg := false, zero := [.nilfn], fs := [], eqOk := false }
theorem ty79_ok : TyOk Tryz.prog 79 ty79 := tyB Tryz.underlying79 Tryz.type79 rfl rfl
def ty80 : Ty := { d := .func, size := 1, bytes := 8, agg := false, zero := [.nilfn], fs := [], eqOk := false }
theorem ty80_ok : TyOk Tryz.prog 80 ty80 := tyB Tryz.underlying80 Tryz.type80 rfl rfl
def ty81 : Ty := { d := .pointer 127, size := 1, bytes := 8, agg := false, zero := [.nilptr], fs := [], eqOk := false }
theorem ty81_ok : TyOk Tryz.prog 81 ty81 := tyB Tryz.underlying81 Tryz.type81 rfl rfl
def ty83 : Ty := { d := .func, size := 1, bytes := 8, agg := false, zero := [.nilfn], fs := [], eqOk := false }
theorem ty83_ok : TyOk Tryz.prog 83 ty83 := tyB Tryz.underlying83 Tryz.type83 rfl rfl
def ty84 : Ty := { d := .func, size := 1, bytes := 8, agg := false, zero := [.nilfn], fs := [], eqOk := false }
theorem ty84_ok : TyOk Tryz.prog 84 ty84 := tyB Tryz.underlying84 Tryz.type84 rfl rfl
def ty85 : Ty := { d := .map 53 3, size := 1, bytes := 8, agg := false, zero := [.nilmap], fs := [], eqOk := false }
theorem ty85_ok : TyOk Tryz.prog 85 ty85 := tyB Tryz.underlying85 Tryz.type85 rfl rfl
def ty87 : Ty := { d := .func, size := 1, bytes := 8, agg := false, zero := [.nilfn], fs := [], eqOk := false }
theorem ty87_ok : TyOk Tryz.prog 87 ty87 := tyB Tryz.underlying87 Tryz.type87 rfl rfl
def ty88 : Ty := { d := .func, size := 1, bytes := 8, agg := false, zero := [.nilfn], fs := [], eqOk := false }
theorem ty88_ok : TyOk Tryz.prog 88 ty88 := tyB Tryz.underlying88 Tryz.type88 rfl rfl
def ty89 : Ty := { d := .func, size := 1, bytes := 8, agg := false, zero := [.nilfn], fs := [], eqOk := false }
theorem ty89_ok : TyOk Tryz.prog 89 ty89 := tyB Tryz.underlying89 Tryz.type89 rfl rfl
def ty90 : Ty := { d := .func, size := 1, bytes := 8, agg := false, zero := [.nilfn], fs := [], eqOk := false }
theorem ty90_ok : TyOk Tryz.prog 90 ty90 := tyB Tryz.underlying90 Tryz.type90 rfl rfl
def ty91 : Ty := { d := .func, size := 1, bytes := 8, agg := false, zero := [.nilfn], fs := [], eqOk := false }
theorem ty91_ok : TyOk Tryz.prog 91 ty91 := tyB Tryz.underlying91 Tryz.type91 rfl rfl
def ty92 : Ty := { d := .int .u64, size := 1, bytes := 8, agg := false, zero := [.int .u64 0], fs := [], eqOk := false }
theorem ty92_ok : TyOk Tryz.prog 92 ty92 := tyB Tryz.underlying92 Tryz.type92 rfl rfl
def ty94 : Ty := { d := .func, size := 1, bytes := 8, agg := false, zero := [.nilfn], fs := [], eqOk := false }
theorem ty94_ok : TyOk Tryz.prog 94 ty94 := tyB Tryz.underlying94 Tryz.type94 rfl rfl
def ty95 : Ty := { d := .func, size := 1, bytes := 8, agg := false, zero := [.nilfn], fs := [], eqOk := false }
theorem ty95_ok : TyOk Tryz.prog 95 ty95 := tyB Tryz.underlying95 Tryz.type95 rfl rfl
def ty96 : Ty := { d := .map 3 53, size := 1, bytes := 8, agg := false, zero := [.nilmap], fs := [], eqOk := false }
theorem ty96_ok : TyOk Tryz.prog 96 ty96 := tyB Tryz.underlying96 Tryz.type96 rfl rfl
def ty97 : Ty := { d := .struct, size := 1, bytes := 8, agg := true, zero := [.nilmap], fs := [(96, 0)], eqOk := true }
theorem ty97_ok : TyOk Tryz.prog 97 ty97 := tyA Tryz.underlying97 Tryz.type97 rfl (by intro _; simp only [eqFine, Tryz.eqGuardType97, Tryz.underlying97, Tryz.stoodInHeld97]; rfl)
def ty98 : Ty := { d := .struct, size := 1, bytes := 8, agg := true, zero := [.nilmap], fs := [(96, 0)], eqOk := true }
theorem ty98_ok : TyOk Tryz.prog 98 ty98 := tyA Tryz.underlying98 Tryz.type98 rfl (by intro _; simp only [eqFine, Tryz.eqGuardType98, Tryz.underlying98, Tryz.stoodInHeld98]; rfl)
def ty99 : Ty := { d := .func, size := 1, bytes := 8, agg := false, zero := [.nilfn], fs := [], eqOk := false }
theorem ty99_ok : TyOk Tryz.prog 99 ty99 := tyB Tryz.underlying99 Tryz.type99 rfl rfl
def ty100 : Ty := { d := .slice 38, size := 1, bytes := 24, agg := false, zero := [.nilsl], fs := [], eqOk := false }
theorem ty100_ok : TyOk Tryz.prog 100 ty100 := tyB Tryz.underlying100 Tryz.type100 rfl rfl
def ty101 : Ty := { d := .map 3 3, size := 1, bytes := 8, agg := false, zero := [.nilmap], fs := [], eqOk := false }
theorem ty101_ok : TyOk Tryz.prog 101 ty101 := tyB Tryz.underlying101 Tryz.type101 rfl rfl
def ty102 : Ty := { d := .func, size := 1, bytes := 8, agg := false, zero := [.nilfn], fs := [], eqOk := false }
theorem ty102_ok : TyOk Tryz.prog 102 ty102 := tyB Tryz.underlying102 Tryz.type102 rfl rfl
def ty103 : Ty := { d := .func, size := 1, bytes := 8, agg := false, zero := [.nilfn], fs := [], eqOk := false }
theorem ty103_ok : TyOk Tryz.prog 103 ty103 := tyB Tryz.underlying103 Tryz.type103 rfl rfl
def ty104 : Ty := { d := .func, size := 1, bytes := 8, agg := false, zero := [.nilfn], fs := [], eqOk := false }
theorem ty104_ok : TyOk Tryz.prog 104 ty104 := tyB Tryz.underlying104 Tryz.type104 rfl rfl
def ty105 : Ty := { d := .func, size := 1, bytes := 8, agg := false, zero := [.nilfn], fs := [], eqOk := false }
theorem ty105_ok : TyOk Tryz.prog 105 ty105 := tyB Tryz.underlying105 Tryz.type105 rfl rfl
def ty106 : Ty := { d := .int .u64, size := 1, bytes := 8, agg := false, zero := [.int .u64 0], fs := [], eqOk := false }
theorem ty106_ok : TyOk Tryz.prog 106 ty106 := tyB Tryz.underlying106 Tryz.type106 rfl rfl
def ty107 : Ty := { d := .array 4 106, size := 4, bytes := 32, agg := true, zero := [.int .u64 0, .int .u64 0, .int .u64 0, .int .u64 0], fs := [], eqOk := true }
theorem ty107_ok : TyOk Tryz.prog 107 ty107 := tyA Tryz.underlying107 Tryz.type107 rfl (by intro _; simp only [eqFine, Tryz.eqGuardType107, Tryz.underlying107]; rfl)
def ty108 : Ty := { d := .array 4 106, size := 4, bytes := 32, agg := true, zero := [.int .u64 0, .int .u64 0, .int .u64 0, .int .u64 0], fs := [], eqOk := true }
theorem ty108_ok : TyOk Tryz.prog 108 ty108 := tyA Tryz.underlying108 Tryz.type108 rfl (by intro _; simp only [eqFine, Tryz.eqGuardType108, Tryz.underlying108]; rfl)
def ty109 : Ty := { d := .slice 108, size := 1, bytes := 24, agg := false, zero := [.nilsl], fs := [], eqOk := false }
theorem ty109_ok : TyOk Tryz.prog 109 ty109 := tyB Tryz.underlying109 Tryz.type109 rfl rfl
def ty110 : Ty := { d := .func, size := 1, bytes := 8, agg := false, zero := [.nilfn], fs := [], eqOk := false }
theorem ty110_ok : TyOk Tryz.prog 110 ty110 := tyB Tryz.underlying110 Tryz.type110 rfl rfl
def ty111 : Ty := { d := .func, size := 1, bytes := 8, agg := false, zero := [.nilfn], fs := [], eqOk := false }
theorem ty111_ok : TyOk Tryz.prog 111 ty111 := tyB Tryz.underlying111 Tryz.type111 rfl rfl
def ty112 : Ty := { d := .map 108 38, size := 1, bytes := 8, agg := false, zero := [.nilmap], fs := [], eqOk := false }
theorem ty112_ok : TyOk Tryz.prog 112 ty112 := tyB Tryz.underlying112 Tryz.type112 rfl rfl
def ty113 : Ty := { d := .func, size := 1, bytes := 8, agg := false, zero := [.nilfn], fs := [], eqOk := false }
theorem ty113_ok : TyOk Tryz.prog 113 ty113 := tyB Tryz.underlying113 Tryz.type113 rfl rfl
def ty114 : Ty := { d := .func, size := 1, bytes := 8, agg := false, zero := [.nilfn], fs := [], eqOk := false }
theorem ty114_ok : TyOk Tryz.prog 114 ty114 := tyB Tryz.underlying114 Tryz.type114 rfl rfl
def ty116 : Ty := { d := .func, size := 1, bytes := 8, agg := false, zero := [.nilfn], fs := [], eqOk := false }
theorem ty116_ok : TyOk Tryz.prog 116 ty116 := tyB Tryz.underlying116 Tryz.type116 rfl rfl
def ty117 : Ty := { d := .func, size := 1, bytes := 8, agg := false, zero := [.nilfn], fs := [], eqOk := false }
theorem ty117_ok : TyOk Tryz.prog 117 ty117 := tyB Tryz.underlying117 Tryz.type117 rfl rfl
def ty118 : Ty := { d := .func, size := 1, bytes := 8, agg := false, zero := [.nilfn], fs := [], eqOk := false }
theorem ty118_ok : TyOk Tryz.prog 118 ty118 := tyB Tryz.underlying118 Tryz.type118 rfl rfl
def ty119 : Ty := { d := .func, size := 1, bytes := 8, agg := false, zero := [.nilfn], fs := [], eqOk := false }
theorem ty119_ok : TyOk Tryz.prog 119 ty119 := tyB Tryz.underlying119 Tryz.type119 rfl rfl
def ty120 : Ty := { d := .func, size := 1, bytes := 8, agg := false, zero := [.nilfn], fs := [], eqOk := false }
theorem ty120_ok : TyOk Tryz.prog 120 ty120 := tyB Tryz.underlying120 Tryz.type120 rfl rfl
def ty121 : Ty := { d := .func, size := 1, bytes := 8, agg := false, zero := [.nilfn], fs := [], eqOk := false }
theorem ty121_ok : TyOk Tryz.prog 121 ty121 := tyB Tryz.underlying121 Tryz.type121 rfl rfl
def ty123 : Ty := { d := .func, size := 1, bytes := 8, agg := false, zero := [.nilfn], fs := [], eqOk := false }
theorem ty123_ok : TyOk Tryz.prog 123 ty123 := tyB Tryz.underlying123 Tryz.type123 rfl rfl
def ty124 : Ty := { d := .func, size := 1, bytes := 8, agg := false, zero := [.nilfn], fs := [], eqOk := false }
theorem ty124_ok : TyOk Tryz.prog 124 ty124 := tyB Tryz.underlying124 Tryz.type124 rfl rfl
def ty125 : Ty := { d := .func, size := 1, bytes := 8, agg := false, zero := [.nilfn], fs := [], eqOk := false }
theorem ty125_ok : TyOk Tryz.prog 125 ty125 := tyB Tryz.underlying125 Tryz.type125 rfl rfl
def ty126 : Ty := { d := .struct, size := 6, bytes := 112, agg := true, zero := [.bool false, .nilsl, .nilsl, .nilsl, .nilsl, .nilmap], fs := [(4, 0), (27, 1), (85, 5)], eqOk := true }
theorem ty126_ok : TyOk Tryz.prog 126 ty126 := tyA Tryz.underlying126 Tryz.type126 rfl (by intro _; simp only [eqFine, Tryz.eqGuardType126, Tryz.underlying126, Tryz.stoodInHeld126]; rfl)
def ty127 : Ty := { d := .struct, size := 6, bytes := 112, agg := true, zero := [.bool false, .nilsl, .nilsl, .nilsl, .nilsl, .nilmap], fs := [(4, 0), (27, 1), (85, 5)], eqOk := true }
theorem ty127_ok : TyOk Tryz.prog 127 ty127 := tyA Tryz.underlying127 Tryz.type127 rfl (by intro _; simp only [eqFine, Tryz.eqGuardType127, Tryz.underlying127, Tryz.stoodInHeld127]; rfl)
def ty128 : Ty := { d := .pointer 130, size := 1, bytes := 8, agg := false, zero := [.nilptr], fs := [], eqOk := false }
theorem ty128_ok : TyOk Tryz.prog 128 ty128 := tyB Tryz.underlying128 Tryz.type128 rfl rfl
def ty129 : Ty := { d := .struct, size := 4, bytes := 96, agg := true, zero := [.nilsl, .nilsl, .nilsl, .nilsl], fs := [(27, 0)], eqOk := true }
theorem ty129_ok : TyOk Tryz.prog 129 ty129 := tyA Tryz.underlying129 Tryz.type129 rfl (by intro _; simp only [eqFine, Tryz.eqGuardType129, Tryz.underlying129, Tryz.stoodInHeld129]; rfl)
def ty130 : Ty := { d := .struct, size := 4, bytes := 96, agg := true, zero := [.nilsl, .nilsl, .nilsl, .nilsl], fs := [(27, 0)], eqOk := true }
theorem ty130_ok : TyOk Tryz.prog 130 ty130 := tyA Tryz.underlying130 Tryz.type130 rfl (by intro _; simp only [eqFine, Tryz.eqGuardType130, Tryz.underlying130, Tryz.stoodInHeld130]; rfl)
def ty131 : Ty := { d := .func, size := 1, bytes := 8, agg := false, zero := [.nilfn], fs := [], eqOk := false }
theorem ty131_ok : TyOk Tryz.prog 131 ty131 := tyB Tryz.underlying131 Tryz.type131 rfl rfl
def ty132 : Ty := { d := .func, size := 1, bytes := 8, agg := false, zero := [.nilfn], fs := [], eqOk := false }
theorem ty132_ok : TyOk Tryz.prog 132 ty132 := tyB Tryz.underlying132 Tryz.type132 rfl rfl
def ty133 : Ty := { d := .func, size := 1, bytes := 8, agg := false, zero := [.nilfn], fs := [], eqOk := false }
theorem ty133_ok : TyOk Tryz.prog 133 ty133 := tyB Tryz.underlying133 Tryz.type133 rfl rfl
def ty134 : Ty := { d := .func, size := 1, bytes := 8, agg := false, zero := [.nilfn], fs := [], eqOk := false }
theorem ty134_ok : TyOk Tryz.prog 134 ty134 := tyB Tryz.underlying134 Tryz.type134 rfl rfl
def ty135 : Ty := { d := .func, size := 1, bytes := 8, agg := false, zero := [.nilfn], fs := [], eqOk := false }
theorem ty135_ok : TyOk Tryz.prog 135 ty135 := tyB Tryz.underlying135 Tryz.type135 rfl rfl
def ty136 : Ty := { d := .func, size := 1, bytes := 8, agg := false, zero := [.nilfn], fs := [], eqOk := false }
theorem ty136_ok : TyOk Tryz.prog 136 ty136 := tyB Tryz.underlying136 Tryz.type136 rfl rfl
def ty137 : Ty := { d := .func, size := 1, bytes := 8, agg := false, zero := [.nilfn], fs := [], eqOk := false }
theorem ty137_ok : TyOk Tryz.prog 137 ty137 := tyB Tryz.underlying137 Tryz.type137 rfl rfl
def ty139 : Ty := { d := .func, size := 1, bytes := 8, agg := false, zero := [.nilfn], fs := [], eqOk := false }
theorem ty139_ok : TyOk Tryz.prog 139 ty139 := tyB Tryz.underlying139 Tryz.type139 rfl rfl
def ty140 : Ty := { d := .slice 63, size := 1, bytes := 24, agg := false, zero := [.nilsl], fs := [], eqOk := false }
theorem ty140_ok : TyOk Tryz.prog 140 ty140 := tyB Tryz.underlying140 Tryz.type140 rfl rfl
def ty141 : Ty := { d := .func, size := 1, bytes := 8, agg := false, zero := [.nilfn], fs := [], eqOk := false }
theorem ty141_ok : TyOk Tryz.prog 141 ty141 := tyB Tryz.underlying141 Tryz.type141 rfl rfl
def ty142 : Ty := { d := .func, size := 1, bytes := 8, agg := false, zero := [.nilfn], fs := [], eqOk := false }
theorem ty142_ok : TyOk Tryz.prog 142 ty142 := tyB Tryz.underlying142 Tryz.type142 rfl rfl
def ty143 : Ty := { d := .func, size := 1, bytes := 8, agg := false, zero := [.nilfn], fs := [], eqOk := false }
theorem ty143_ok : TyOk Tryz.prog 143 ty143 := tyB Tryz.underlying143 Tryz.type143 rfl rfl
def ty145 : Ty := { d := .func, size := 1, bytes := 8, agg := false, zero := [.nilfn], fs := [], eqOk := false }
theorem ty145_ok : TyOk Tryz.prog 145 ty145 := tyB Tryz.underlying145 Tryz.type145 rfl rfl
def ty146 : Ty := { d := .func, size := 1, bytes := 8, agg := false, zero := [.nilfn], fs := [], eqOk := false }
theorem ty146_ok : TyOk Tryz.prog 146 ty146 := tyB Tryz.underlying146 Tryz.type146 rfl rfl
def ty148 : Ty := { d := .func, size := 1, bytes := 8, agg := false, zero := [.nilfn], fs := [], eqOk := false }
theorem ty148_ok : TyOk Tryz.prog 148 ty148 := tyB Tryz.underlying148 Tryz.type148 rfl rfl
def ty150 : Ty := { d := .func, size := 1, bytes := 8, agg := false, zero := [.nilfn], fs := [], eqOk := false }
theorem ty150_ok : TyOk Tryz.prog 150 ty150 := tyB Tryz.underlying150 Tryz.type150 rfl rfl
def ty151 : Ty := { d := .func, size := 1, bytes := 8, agg := false, zero := [.nilfn], fs := [], eqOk := false }
theorem ty151_ok : TyOk Tryz.prog 151 ty151 := tyB Tryz.underlying151 Tryz.type151 rfl rfl
def ty152 : Ty := { d := .struct, size := 2, bytes := 32, agg := true, zero := [.int .i64 0, .nilsl], fs := [(3, 0), (100, 1)], eqOk := true }
theorem ty152_ok : TyOk Tryz.prog 152 ty152 := tyA Tryz.underlying152 Tryz.type152 rfl (by intro _; simp only [eqFine, Tryz.eqGuardType152, Tryz.underlying152, Tryz.stoodInHeld152]; rfl)
def ty153 : Ty := { d := .struct, size := 2, bytes := 32, agg := true, zero := [.int .i64 0, .nilsl], fs := [(3, 0), (100, 1)], eqOk := true }
theorem ty153_ok : TyOk Tryz.prog 153 ty153 := tyA Tryz.underlying153 Tryz.type153 rfl (by intro _; simp only [eqFine, Tryz.eqGuardType153, Tryz.underlying153, Tryz.stoodInHeld153]; rfl)
def ty155 : Ty := { d := .func, size := 1, bytes := 8, agg := false, zero := [.nilfn], fs := [], eqOk := false }
theorem ty155_ok : TyOk Tryz.prog 155 ty155 := tyB Tryz.underlying155 Tryz.type155 rfl rfl
def ty157 : Ty := { d := .func, size := 1, bytes := 8, agg := false, zero := [.nilfn], fs := [], eqOk := false }
theorem ty157_ok : TyOk Tryz.prog 157 ty157 := tyB Tryz.underlying157 Tryz.type157 rfl rfl
def ty158 : Ty := { d := .func, size := 1, bytes := 8, agg := false, zero := [.nilfn], fs := [], eqOk := false }
theorem ty158_ok : TyOk Tryz.prog 158 ty158 := tyB Tryz.underlying158 Tryz.type158 rfl rfl
def ty160 : Ty := { d := .func, size := 1, bytes := 8, agg := false, zero := [.nilfn], fs := [], eqOk := false }
theorem ty160_ok : TyOk Tryz.prog 160 ty160 := tyB Tryz.underlying160 Tryz.type160 rfl rfl
def ty161 : Ty := { d := .func, size := 1, bytes := 8, agg := false, zero := [.nilfn], fs := [], eqOk := false }
theorem ty161_ok : TyOk Tryz.prog 161 ty161 := tyB Tryz.underlying161 Tryz.type161 rfl rfl
def ty162 : Ty := { d := .func, size := 1, bytes := 8, agg := false, zero := [.nilfn], fs := [], eqOk := false }
theorem ty162_ok : TyOk Tryz.prog 162 ty162 := tyB Tryz.underlying162 Tryz.type162 rfl rfl
def ty163 : Ty := { d := .int .u32, size := 1, bytes := 4, agg := false, zero := [.int .u32 0], fs := [], eqOk := false }
theorem ty163_ok : TyOk Tryz.prog 163 ty163 := tyB Tryz.underlying163 Tryz.type163 rfl rfl
def ty165 : Ty := { d := .func, size := 1, bytes := 8, agg := false, zero := [.nilfn], fs := [], eqOk := false }
theorem ty165_ok : TyOk Tryz.prog 165 ty165 := tyB Tryz.underlying165 Tryz.type165 rfl rfl
def ty167 : Ty := { d := .func, size := 1, bytes := 8, agg := false, zero := [.nilfn], fs := [], eqOk := false }
theorem ty167_ok : TyOk Tryz.prog 167 ty167 := tyB Tryz.underlying167 Tryz.type167 rfl rfl
def ty168 : Ty := { d := .func, size := 1, bytes := 8, agg := false, zero := [.nilfn], fs := [], eqOk := false }
theorem ty168_ok : TyOk Tryz.prog 168 ty168 := tyB Tryz.underlying168 Tryz.type168 rfl rfl
def ty169 : Ty := { d := .func, size := 1, bytes := 8, agg := false, zero := [.nilfn], fs := [], eqOk := false }
theorem ty169_ok : TyOk Tryz.prog 169 ty169 := tyB Tryz.underlying169 Tryz.type169 rfl rfl
def ty170 : Ty := { d := .func, size := 1, bytes := 8, agg := false, zero := [.nilfn], fs := [], eqOk := false }
theorem ty170_ok : TyOk Tryz.prog 170 ty170 := tyB Tryz.underlying170 Tryz.type170 rfl rfl
def ty171 : Ty := { d := .func, size := 1, bytes := 8, agg := false, zero := [.nilfn], fs := [], eqOk := false }
theorem ty171_ok : TyOk Tryz.prog 171 ty171 := tyB Tryz.underlying171 Tryz.type171 rfl rfl
def ty172 : Ty := { d := .func, size := 1, bytes := 8, agg := false, zero := [.nilfn], fs := [], eqOk := false }
theorem ty172_ok : TyOk Tryz.prog 172 ty172 := tyB Tryz.underlying172 Tryz.type172 rfl rfl
def ty173 : Ty := { d := .func, size := 1, bytes := 8, agg := false, zero := [.nilfn], fs := [], eqOk := false }
theorem ty173_ok : TyOk Tryz.prog 173 ty173 := tyB Tryz.underlying173 Tryz.type173 rfl rfl
def ty174 : Ty := { d := .func, size := 1, bytes := 8, agg := false, zero := [.nilfn], fs := [], eqOk := false }
theorem ty174_ok : TyOk Tryz.prog 174 ty174 := tyB Tryz.underlying174 Tryz.type174 rfl rfl
def ty175 : Ty := { d := .func, size := 1, bytes := 8, agg := false, zero := [.nilfn], fs := [], eqOk := false }
theorem ty175_ok : TyOk Tryz.prog 175 ty175 := tyB Tryz.underlying175 Tryz.type175 rfl rfl
def ty176 : Ty := { d := .pointer 188, size := 1, bytes := 8, agg := false, zero := [.nilptr], fs := [], eqOk := false }
theorem ty176_ok : TyOk Tryz.prog 176 ty176 := tyB Tryz.underlying176 Tryz.type176 rfl rfl
def ty177 : Ty := { d := .func, size := 1, bytes := 8, agg := false, zero := [.nilfn], fs := [], eqOk := false }
theorem ty177_ok : TyOk Tryz.prog 177 ty177 := tyB Tryz.underlying177 Tryz.type177 rfl rfl
def ty178 : Ty := { d := .int .i64, size := 1, bytes := 8, agg := false, zero := [.int .i64 0], fs := [], eqOk := false }
theorem ty178_ok : TyOk Tryz.prog 178 ty178 := tyB Tryz.underlying178 Tryz.type178 rfl rfl
def ty180 : Ty := { d := .func, size := 1, bytes := 8, agg := false, zero := [.nilfn], fs := [], eqOk := false }
theorem ty180_ok : TyOk Tryz.prog 180 ty180 := tyB Tryz.underlying180 Tryz.type180 rfl rfl
def ty181 : Ty := { d := .func, size := 1, bytes := 8, agg := false, zero := [.nilfn], fs := [], eqOk := false }
theorem ty181_ok : TyOk Tryz.prog 181 ty181 := tyB Tryz.underlying181 Tryz.type181 rfl rfl
def ty182 : Ty := { d := .func, size := 1, bytes := 8, agg := false, zero := [.nilfn], fs := [], eqOk := false }
theorem ty182_ok : TyOk Tryz.prog 182 ty182 := tyB Tryz.underlying182 Tryz.type182 rfl rfl
def ty183 : Ty := { d := .func, size := 1, bytes := 8, agg := false, zero := [.nilfn], fs := [], eqOk := false }
theorem ty183_ok : TyOk Tryz.prog 183 ty183 := tyB Tryz.underlying183 Tryz.type183 rfl rfl
def ty184 : Ty := { d := .slice 203, size := 1, bytes := 24, agg := false, zero := [.nilsl], fs := [], eqOk := false }
theorem ty184_ok : TyOk Tryz.prog 184 ty184 := tyB Tryz.underlying184 Tryz.type184 rfl rfl
def ty185 : Ty := { d := .slice 197, size := 1, bytes := 24, agg := false, zero := [.nilsl], fs := [], eqOk := false }
theorem ty185_ok : TyOk Tryz.prog 185 ty185 := tyB Tryz.underlying185 Tryz.type185 rfl rfl
def ty186 : Ty := { d := .slice 185, size := 1, bytes := 24, agg := false, zero := [.nilsl], fs := [], eqOk := false }
theorem ty186_ok : TyOk Tryz.prog 186 ty186 := tyB Tryz.underlying186 Tryz.type186 rfl rfl
def ty187 : Ty := { d := .struct, size := 13, bytes := 232, agg := true, zero := [.int .i64 0, .nilsl, .nilsl, .nilsl, .nilsl, .nilsl, .nilsl, .int .i64 0, .nilsl, .int .i64 0, .nilsl, .int .i64 0, .bool false], fs := [(3, 0), (184, 1), (38, 2), (185, 3), (186, 4), (38, 5), (38, 6), (3, 7), (38, 8), (3, 9), (100, 10), (3, 11), (4, 12)], eqOk := true }
theorem ty187_ok : TyOk Tryz.prog 187 ty187 := tyA Tryz.underlying187 Tryz.type187 rfl (by intro _; simp only [eqFine, Tryz.eqGuardType187, Tryz.underlying187, Tryz.stoodInHeld187]; rfl)
def ty188 : Ty := { d := .struct, size := 13, bytes := 232, agg := true, zero := [.int .i64 0, .nilsl, .nilsl, .nilsl, .nilsl, .nilsl, .nilsl, .int .i64 0, .nilsl, .int .i64 0, .nilsl, .int .i64 0, .bool false], fs := [(3, 0), (184, 1), (38, 2), (185, 3), (186, 4), (38, 5), (38, 6), (3, 7), (38, 8), (3, 9), (100, 10), (3, 11), (4, 12)], eqOk := true }
theorem ty188_ok : TyOk Tryz.prog 188 ty188 := tyA Tryz.underlying188 Tryz.type188 rfl (by intro _; simp only [eqFine, Tryz.eqGuardType188, Tryz.underlying188, Tryz.stoodInHeld188]; rfl)
def ty190 : Ty := { d := .func, size := 1, bytes := 8, agg := false, zero := [.nilfn], fs := [], eqOk := false }
theorem ty190_ok : TyOk Tryz.prog 190 ty190 := tyB Tryz.underlying190 Tryz.type190 rfl rfl
def ty192 : Ty := { d := .func, size := 1, bytes := 8, agg := false, zero := [.nilfn], fs := [], eqOk := false }
theorem ty192_ok : TyOk Tryz.prog 192 ty192 := tyB Tryz.underlying192 Tryz.type192 rfl rfl
def ty193 : Ty := { d := .func, size := 1, bytes := 8, agg := false, zero := [.nilfn], fs := [], eqOk := false }
theorem ty193_ok : TyOk Tryz.prog 193 ty193 := tyB Tryz.underlying193 Tryz.type193 rfl rfl
def ty194 : Ty := { d := .func, size := 1, bytes := 8, agg := false, zero := [.nilfn], fs := [], eqOk := false }
theorem ty194_ok : TyOk Tryz.prog 194 ty194 := tyB Tryz.underlying194 Tryz.type194 rfl rfl
def ty195 : Ty := { d := .func, size := 1, bytes := 8, agg := false, zero := [.nilfn], fs := [], eqOk := false }
theorem ty195_ok : TyOk Tryz.prog 195 ty195 := tyB Tryz.underlying195 Tryz.type195 rfl rfl
def ty196 : Ty := { d := .func, size := 1, bytes := 8, agg := false, zero := [.nilfn], fs := [], eqOk := false }
theorem ty196_ok : TyOk Tryz.prog 196 ty196 := tyB Tryz.underlying196 Tryz.type196 rfl rfl
def ty197 : Ty := { d := .pointer 207, size := 1, bytes := 8, agg := false, zero := [.nilptr], fs := [], eqOk := false }
theorem ty197_ok : TyOk Tryz.prog 197 ty197 := tyB Tryz.underlying197 Tryz.type197 rfl rfl
def ty198 : Ty := { d := .func, size := 1, bytes := 8, agg := false, zero := [.nilfn], fs := [], eqOk := false }
theorem ty198_ok : TyOk Tryz.prog 198 ty198 := tyB Tryz.underlying198 Tryz.type198 rfl rfl
def ty200 : Ty := { d := .func, size := 1, bytes := 8, agg := false, zero := [.nilfn], fs := [], eqOk := false }
theorem ty200_ok : TyOk Tryz.prog 200 ty200 := tyB Tryz.underlying200 Tryz.type200 rfl rfl
def ty201 : Ty := { d := .func, size := 1, bytes := 8, agg := false, zero := [.nilfn], fs := [], eqOk := false }
theorem ty201_ok : TyOk Tryz.prog 201 ty201 := tyB Tryz.underlying201 Tryz.type201 rfl rfl
def ty202 : Ty := { d := .func, size := 1, bytes := 8, agg := false, zero := [.nilfn], fs := [], eqOk := false }
theorem ty202_ok : TyOk Tryz.prog 202 ty202 := tyB Tryz.underlying202 Tryz.type202 rfl rfl
def ty203 : Ty := { d := .int .i8, size := 1, bytes := 1, agg := false, zero := [.int .i8 0], fs := [], eqOk := false }
theorem ty203_ok : TyOk Tryz.prog 203 ty203 := tyB Tryz.underlying203 Tryz.type203 rfl rfl
def ty204 : Ty := { d := .func, size := 1, bytes := 8, agg := false, zero := [.nilfn], fs := [], eqOk := false }
theorem ty204_ok : TyOk Tryz.prog 204 ty204 := tyB Tryz.underlying204 Tryz.type204 rfl rfl
def ty205 : Ty := { d := .func, size := 1, bytes := 8, agg := false, zero := [.nilfn], fs := [], eqOk := false }
theorem ty205_ok : TyOk Tryz.prog 205 ty205 := tyB Tryz.underlying205 Tryz.type205 rfl rfl
def ty206 : Ty := { d := .struct, size := 1, bytes := 24, agg := true, zero := [.nilsl], fs := [(38, 0)], eqOk := true }
theorem ty206_ok : TyOk Tryz.prog 206 ty206 := tyA Tryz.underlying206 Tryz.type206 rfl (by intro _; simp only [eqFine, Tryz.eqGuardType206, Tryz.underlying206, Tryz.stoodInHeld206]; rfl)
def ty207 : Ty := { d := .struct, size := 1, bytes := 24, agg := true, zero := [.nilsl], fs := [(38, 0)], eqOk := true }
theorem ty207_ok : TyOk Tryz.prog 207 ty207 := tyA Tryz.underlying207 Tryz.type207 rfl (by intro _; simp only [eqFine, Tryz.eqGuardType207, Tryz.underlying207, Tryz.stoodInHeld207]; rfl)
def ty208 : Ty := { d := .func, size := 1, bytes := 8, agg := false, zero := [.nilfn], fs := [], eqOk := false }
theorem ty208_ok : TyOk Tryz.prog 208 ty208 := tyB Tryz.underlying208 Tryz.type208 rfl rfl
def ty209 : Ty := { d := .func, size := 1, bytes := 8, agg := false, zero := [.nilfn], fs := [], eqOk := false }
theorem ty209_ok : TyOk Tryz.prog 209 ty209 := tyB Tryz.underlying209 Tryz.type209 rfl rfl
def ty210 : Ty := { d := .func, size := 1, bytes := 8, agg := false, zero := [.nilfn], fs := [], eqOk := false }
theorem ty210_ok : TyOk Tryz.prog 210 ty210 := tyB Tryz.underlying210 Tryz.type210 rfl rfl
def ty211 : Ty := { d := .func, size := 1, bytes := 8, agg := false, zero := [.nilfn], fs := [], eqOk := false }
theorem ty211_ok : TyOk Tryz.prog 211 ty211 := tyB Tryz.underlying211 Tryz.type211 rfl rfl
def ty212 : Ty := { d := .func, size := 1, bytes := 8, agg := false, zero := [.nilfn], fs := [], eqOk := false }
theorem ty212_ok : TyOk Tryz.prog 212 ty212 := tyB Tryz.underlying212 Tryz.type212 rfl rfl
def ty213 : Ty := { d := .func, size := 1, bytes := 8, agg := false, zero := [.nilfn], fs := [], eqOk := false }
theorem ty213_ok : TyOk Tryz.prog 213 ty213 := tyB Tryz.underlying213 Tryz.type213 rfl rfl
def ty214 : Ty := { d := .func, size := 1, bytes := 8, agg := false, zero := [.nilfn], fs := [], eqOk := false }
theorem ty214_ok : TyOk Tryz.prog 214 ty214 := tyB Tryz.underlying214 Tryz.type214 rfl rfl
def ty215 : Ty := { d := .func, size := 1, bytes := 8, agg := false, zero := [.nilfn], fs := [], eqOk := false }
theorem ty215_ok : TyOk Tryz.prog 215 ty215 := tyB Tryz.underlying215 Tryz.type215 rfl rfl
def ty216 : Ty := { d := .struct, size := 4, bytes := 40, agg := true, zero := [.nilptr, .nilptr, .nilptr, .str ⟨#[]⟩], fs := [(17, 0), (17, 1), (17, 2), (9, 3)], eqOk := false }
theorem ty216_ok : TyOk Tryz.prog 216 ty216 := tyB Tryz.underlying216 Tryz.type216 rfl rfl
def ty217 : Ty := { d := .struct, size := 4, bytes := 40, agg := true, zero := [.nilptr, .nilptr, .nilptr, .str ⟨#[]⟩], fs := [(17, 0), (17, 1), (17, 2), (9, 3)], eqOk := false }
theorem ty217_ok : TyOk Tryz.prog 217 ty217 := tyB Tryz.underlying217 Tryz.type217 rfl rfl
def ty218 : Ty := { d := .array 0 16, size := 0, bytes := 0, agg := true, zero := [], fs := [], eqOk := true }
theorem ty218_ok : TyOk Tryz.prog 218 ty218 := tyA Tryz.underlying218 Tryz.type218 rfl (by intro _; simp only [eqFine, Tryz.eqGuardType218, Tryz.underlying218]; rfl)
def ty219 : Ty := { d := .struct, size := 0, bytes := 0, agg := true, zero := [], fs := [(218, 0)], eqOk := false }
theorem ty219_ok : TyOk Tryz.prog 219 ty219 := tyB Tryz.underlying219 Tryz.type219 rfl rfl
def ty220 : Ty := { d := .struct, size := 0, bytes := 0, agg := true, zero := [], fs := [(218, 0)], eqOk := false }
theorem ty220_ok : TyOk Tryz.prog 220 ty220 := tyB Tryz.underlying220 Tryz.type220 rfl rfl
def ty221 : Ty := { d := .int .u8, size := 1, bytes := 1, agg := false, zero := [.int .u8 0], fs := [], eqOk := false }
theorem ty221_ok : TyOk Tryz.prog 221 ty221 := tyB Tryz.underlying221 Tryz.type221 rfl rfl
def ty222 : Ty := { d := .int .u8, size := 1, bytes := 1, agg := false, zero := [.int .u8 0], fs := [], eqOk := false }
theorem ty222_ok : TyOk Tryz.prog 222 ty222 := tyB Tryz.underlying222 Tryz.type222 rfl rfl
def ty223 : Ty := { d := .func, size := 1, bytes := 8, agg := false, zero := [.nilfn], fs := [], eqOk := false }
theorem ty223_ok : TyOk Tryz.prog 223 ty223 := tyB Tryz.underlying223 Tryz.type223 rfl rfl
def ty224 : Ty := { d := .pointer 5, size := 1, bytes := 8, agg := false, zero := [.nilptr], fs := [], eqOk := false }
theorem ty224_ok : TyOk Tryz.prog 224 ty224 := tyB Tryz.underlying224 Tryz.type224 rfl rfl
def ty225 : Ty := { d := .int .i32, size := 1, bytes := 4, agg := false, zero := [.int .i32 0], fs := [], eqOk := false }
theorem ty225_ok : TyOk Tryz.prog 225 ty225 := tyB Tryz.underlying225 Tryz.type225 rfl rfl
def ty226 : Ty := { d := .int .i32, size := 1, bytes := 4, agg := false, zero := [.int .i32 0], fs := [], eqOk := false }
theorem ty226_ok : TyOk Tryz.prog 226 ty226 := tyB Tryz.underlying226 Tryz.type226 rfl rfl
def ty227 : Ty := { d := .struct, size := 11, bytes := 48, agg := true, zero := [.int .u64 0, .int .u64 0, .int .u32 0, .int .u8 0, .int .u8 0, .int .u8 0, .int .u8 0, .nilfn, .nilptr, .int .i32 0, .int .i32 0], fs := [(12, 0), (12, 1), (163, 2), (221, 3), (5, 4), (5, 5), (222, 6), (223, 7), (224, 8), (225, 9), (226, 10)], eqOk := false }
theorem ty227_ok : TyOk Tryz.prog 227 ty227 := tyB Tryz.underlying227 Tryz.type227 rfl rfl
def ty228 : Ty := { d := .struct, size := 11, bytes := 48, agg := true, zero := [.int .u64 0, .int .u64 0, .int .u32 0, .int .u8 0, .int .u8 0, .int .u8 0, .int .u8 0, .nilfn, .nilptr, .int .i32 0, .int .i32 0], fs := [(12, 0), (12, 1), (163, 2), (221, 3), (5, 4), (5, 5), (222, 6), (223, 7), (224, 8), (225, 9), (226, 10)], eqOk := false }
theorem ty228_ok : TyOk Tryz.prog 228 ty228 := tyB Tryz.underlying228 Tryz.type228 rfl rfl
def tys : Tree Ty := (.node 111 ty111 (.node 56 ty56 (.node 26 ty26 (.node 13 ty13 (.node 7 ty7 (.node 4 ty4 (.node 2 ty2 (.node 1 ty1 .leaf .leaf) (.node 3 ty3 .leaf .leaf)) (.node 6 ty6 (.node 5 ty5 .leaf .leaf) .leaf)) (.node 10 ty10 (.node 9 ty9 (.node 8 ty8 .leaf .leaf) .leaf) (.node 12 ty12 (.node 11 ty11 .leaf .leaf) .leaf))) (.node 20 ty20 (.node 17 ty17 (.node 15 ty15 (.node 14 ty14 .leaf .leaf) (.node 16 ty16 .leaf .leaf)) (.node 19 ty19 (.node 18 ty18 .leaf .leaf) .leaf)) (.node 23 ty23 (.node 22 ty22 (.node 21 ty21 .leaf .leaf) .leaf) (.node 25 ty25 (.node 24 ty24 .leaf .leaf) .leaf)))) (.node 42 ty42 (.node 34 ty34 (.node 30 ty30 (.node 28 ty28 (.node 27 ty27 .leaf .leaf) (.node 29 ty29 .leaf .leaf)) (.node 33 ty33 (.node 32 ty32 .leaf .leaf) .leaf)) (.node 38 ty38 (.node 37 ty37 (.node 36 ty36 .leaf .leaf) .leaf) (.node 41 ty41 (.node 40 ty40 .leaf .leaf) .leaf))) (.node 50 ty50 (.node 46 ty46 (.node 44 ty44 (.node 43 ty43 .leaf .leaf) (.node 45 ty45 .leaf .leaf)) (.node 49 ty49 (.node 47 ty47 .leaf .leaf) .leaf)) (.node 53 ty53 (.node 52 ty52 (.node 51 ty51 .leaf .leaf) .leaf) (.node 55 ty55 (.node 54 ty54 .leaf .leaf) .leaf))))) (.node 84 ty84 (.node 70 ty70 (.node 63 ty63 (.node 60 ty60 (.node 58 ty58 (.node 57 ty57 .leaf .leaf) (.node 59 ty59 .leaf .leaf)) (.node 62 ty62 (.node 61 ty61 .leaf .leaf) .leaf)) (.node 67 ty67 (.node 66 ty66 (.node 65 ty65 .leaf .leaf) .leaf) (.node 69 ty69 (.node 68 ty68 .leaf .leaf) .leaf))) (.node 77 ty77 (.node 74 ty74 (.node 72 ty72 (.node 71 ty71 .leaf .leaf) (.node 73 ty73 .leaf .leaf)) (.node 76 ty76 (.node 75 ty75 .leaf .leaf) .leaf)) (.node 80 ty80 (.node 79 ty79 (.node 78 ty78 .leaf .leaf) .leaf) (.node 83 ty83 (.node 81 ty81 .leaf .leaf) .leaf)))) (.node 99 ty99 (.node 92 ty92 (.node 89 ty89 (.node 87 ty87 (.node 85 ty85 .leaf .leaf) (.node 88 ty88 .leaf .leaf)) (.node 91 ty91 (.node 90 ty90 .leaf .leaf) .leaf)) (.node 96 ty96 (.node 95 ty95 (.node 94 ty94 .leaf .leaf) .leaf) (.node 98 ty98 (.node 97 ty97 .leaf .leaf) .leaf))) (.node 105 ty105 (.node 102 ty102 (.node 101 ty101 (.node 100 ty100 .leaf .leaf) .leaf) (.node 104 ty104 (.node 103 ty103 .leaf .leaf) .leaf)) (.node 108 ty108 (.node 107 ty107 (.node 106 ty106 .leaf .leaf) .leaf) (.node 110 ty110 (.node 109 ty109 .leaf .leaf) .leaf)))))) (.node 174 ty174 (.node 140 ty140 (.node 126 ty126 (.node 119 ty119 (.node 116 ty116 (.node 113 ty113 (.node 112 ty112 .leaf .leaf) (.node 114 ty114 .leaf .leaf)) (.node 118 ty118 (.node 117 ty117 .leaf .leaf) .leaf)) (.node 123 ty123 (.node 121 ty121 (.node 120 ty120 .leaf .leaf) .leaf) (.node 125 ty125 (.node 124 ty124 .leaf .leaf) .leaf))) (.node 133 ty133 (.node 130 ty130 (.node 128 ty128 (.node 127 ty127 .leaf .leaf) (.node 129 ty129 .leaf .leaf)) (.node 132 ty132 (.node 131 ty131 .leaf .leaf) .leaf)) (.node 136 ty136 (.node 135 ty135 (.node 134 ty134 .leaf .leaf) .leaf) (.node 139 ty139 (.node 137 ty137 .leaf .leaf) .leaf)))) (.node 158 ty158 (.node 150 ty150 (.node 145 ty145 (.node 142 ty142 (.node 141 ty141 .leaf .leaf) (.node 143 ty143 .leaf .leaf)) (.node 148 ty148 (.node 146 ty146 .leaf .leaf) .leaf)) (.node 153 ty153 (.node 152 ty152 (.node 151 ty151 .leaf .leaf) .leaf) (.node 157 ty157 (.node 155 ty155 .leaf .leaf) .leaf))) (.node 168 ty168 (.node 163 ty163 (.node 161 ty161 (.node 160 ty160 .leaf .leaf) (.node 162 ty162 .leaf .leaf)) (.node 167 ty167 (.node 165 ty165 .leaf .leaf) .leaf)) (.node 171 ty171 (.node 170 ty170 (.node 169 ty169 .leaf .leaf) .leaf) (.node 173 ty173 (.node 172 ty172 .leaf .leaf) .leaf))))) (.node 204 ty204 (.node 188 ty188 (.node 182 ty182 (.node 178 ty178 (.node 176 ty176 (.node 175 ty175 .leaf .leaf) (.node 177 ty177 .leaf .leaf)) (.node 181 ty181 (.node 180 ty180 .leaf .leaf) .leaf)) (.node 185 ty185 (.node 184 ty184 (.node 183 ty183 .leaf .leaf) .leaf) (.node 187 ty187 (.node 186 ty186 .leaf .leaf) .leaf))) (.node 197 ty197 (.node 194 ty194 (.node 192 ty192 (.node 190 ty190 .leaf .leaf) (.node 193 ty193 .leaf .leaf)) (.node 196 ty196 (.node 195 ty195 .leaf .leaf) .leaf)) (.node 201 ty201 (.node 200 ty200 (.node 198 ty198 .leaf .leaf) .leaf) (.node 203 ty203 (.node 202 ty202 .leaf .leaf) .leaf)))) (.node 217 ty217 (.node 211 ty211 (.node 208 ty208 (.node 206 ty206 (.node 205 ty205 .leaf .leaf) (.node 207 ty207 .leaf .leaf)) (.node 210 ty210 (.node 209 ty209 .leaf .leaf) .leaf)) (.node 214 ty214 (.node 213 ty213 (.node 212 ty212 .leaf .leaf) .leaf) (.node 216 ty216 (.node 215 ty215 .leaf .leaf) .leaf))) (.node 223 ty223 (.node 220 ty220 (.node 219 ty219 (.node 218 ty218 .leaf .leaf) .leaf) (.node 222 ty222 (.node 221 ty221 .leaf .leaf) .leaf)) (.node 226 ty226 (.node 225 ty225 (.node 224 ty224 .leaf .leaf) .leaf) (.node 228 ty228 (.node 227 ty227 .leaf .leaf) .leaf)))))))
theorem tys_ok : tys.All (TyOk Tryz.prog) := ⟨ty111_ok, ⟨ty56_ok, ⟨ty26_ok, ⟨ty13_ok, ⟨ty7_ok, ⟨ty4_ok, ⟨ty2_ok, ⟨ty1_ok, trivial, trivial⟩, ⟨ty3_ok, trivial, trivial⟩⟩, ⟨ty6_ok, ⟨ty5_ok, trivial, trivial⟩, trivial⟩⟩, ⟨ty10_ok, ⟨ty9_ok, ⟨ty8_ok, trivial, trivial⟩, trivial⟩, ⟨ty12_ok, ⟨ty11_ok, trivial, trivial⟩, trivial⟩⟩⟩, ⟨ty20_ok, ⟨ty17_ok, ⟨ty15_ok, ⟨ty14_ok, trivial, trivial⟩, ⟨ty16_ok, trivial, trivial⟩⟩, ⟨ty19_ok, ⟨ty18_ok, trivial, trivial⟩, trivial⟩⟩, ⟨ty23_ok, ⟨ty22_ok, ⟨ty21_ok, trivial, trivial⟩, trivial⟩, ⟨ty25_ok, ⟨ty24_ok, trivial, trivial⟩, trivial⟩⟩⟩⟩, ⟨ty42_ok, ⟨ty34_ok, ⟨ty30_ok, ⟨ty28_ok, ⟨ty27_ok, trivial, trivial⟩, ⟨ty29_ok, trivial, trivial⟩⟩, ⟨ty33_ok, ⟨ty32_ok, trivial, trivial⟩, trivial⟩⟩, ⟨ty38_ok, ⟨ty37_ok, ⟨ty36_ok, trivial, trivial⟩, trivial⟩, ⟨ty41_ok, ⟨ty40_ok, trivial, trivial⟩, trivial⟩⟩⟩, ⟨ty50_ok, ⟨ty46_ok, ⟨ty44_ok, ⟨ty43_ok, trivial, trivial⟩, ⟨ty45_ok, trivial, trivial⟩⟩, ⟨ty49_ok, ⟨ty47_ok, trivial, trivial⟩, trivial⟩⟩, ⟨ty53_ok, ⟨ty52_ok, ⟨ty51_ok, trivial, trivial⟩, trivial⟩, ⟨ty55_ok, ⟨ty54_ok, trivial, trivial⟩, trivial⟩⟩⟩⟩⟩, ⟨ty84_ok, ⟨ty70_ok, ⟨ty63_ok, ⟨ty60_ok, ⟨ty58_ok, ⟨ty57_ok, trivial, trivial⟩, ⟨ty59_ok, trivial, trivial⟩⟩, ⟨ty62_ok, ⟨ty61_ok, trivial, trivial⟩, trivial⟩⟩, ⟨ty67_ok, ⟨ty66_ok, ⟨ty65_ok, trivial, trivial⟩, trivial⟩, ⟨ty69_ok, ⟨ty68_ok, trivial, trivial⟩, trivial⟩⟩⟩, ⟨ty77_ok, ⟨ty74_ok, ⟨ty72_ok, ⟨ty71_ok, trivial, trivial⟩, ⟨ty73_ok, trivial, trivial⟩⟩, ⟨ty76_ok, ⟨ty75_ok, trivial, trivial⟩, trivial⟩⟩, ⟨ty80_ok, ⟨ty79_ok, ⟨ty78_ok, trivial, trivial⟩, trivial⟩, ⟨ty83_ok, ⟨ty81_ok, trivial, trivial⟩, trivial⟩⟩⟩⟩, ⟨ty99_ok, ⟨ty92_ok, ⟨ty89_ok, ⟨ty87_ok, ⟨ty85_ok, trivial, trivial⟩, ⟨ty88_ok, trivial, trivial⟩⟩, ⟨ty91_ok, ⟨ty90_ok, trivial, trivial⟩, trivial⟩⟩, ⟨ty96_ok, ⟨ty95_ok, ⟨ty94_ok, trivial, trivial⟩, trivial⟩, ⟨ty98_ok, ⟨ty97_ok, trivial, trivial⟩, trivial⟩⟩⟩, ⟨ty105_ok, ⟨ty102_ok, ⟨ty101_ok, ⟨ty100_ok, trivial, trivial⟩, trivial⟩, ⟨ty104_ok, ⟨ty103_ok, trivial, trivial⟩, trivial⟩⟩, ⟨ty108_ok, ⟨ty107_ok, ⟨ty106_ok, trivial, trivial⟩, trivial⟩, ⟨ty110_ok, ⟨ty109_ok, trivial, trivial⟩, trivial⟩⟩⟩⟩⟩⟩, ⟨ty174_ok, ⟨ty140_ok, ⟨ty126_ok, ⟨ty119_ok, ⟨ty116_ok, ⟨ty113_ok, ⟨ty112_ok, trivial, trivial⟩, ⟨ty114_ok, trivial, trivial⟩⟩, ⟨ty118_ok, ⟨ty117_ok, trivial, trivial⟩, trivial⟩⟩, ⟨ty123_ok, ⟨ty121_ok, ⟨ty120_ok, trivial, trivial⟩, trivial⟩, ⟨ty125_ok, ⟨ty124_ok, trivial, trivial⟩, trivial⟩⟩⟩, ⟨ty133_ok, ⟨ty130_ok, ⟨ty128_ok, ⟨ty127_ok, trivial, trivial⟩, ⟨ty129_ok, trivial, trivial⟩⟩, ⟨ty132_ok, ⟨ty131_ok, trivial, trivial⟩, trivial⟩⟩, ⟨ty136_ok, ⟨ty135_ok, ⟨ty134_ok, trivial, trivial⟩, trivial⟩, ⟨ty139_ok, ⟨ty137_ok, trivial, trivial⟩, trivial⟩⟩⟩⟩, ⟨ty158_ok, ⟨ty150_ok, ⟨ty145_ok, ⟨ty142_ok, ⟨ty141_ok, trivial, trivial⟩, ⟨ty143_ok, trivial, trivial⟩⟩, ⟨ty148_ok, ⟨ty146_ok, trivial, trivial⟩, trivial⟩⟩, ⟨ty153_ok, ⟨ty152_ok, ⟨ty151_ok, trivial, trivial⟩, trivial⟩, ⟨ty157_ok, ⟨ty155_ok, trivial, trivial⟩, trivial⟩⟩⟩, ⟨ty168_ok, ⟨ty163_ok, ⟨ty161_ok, ⟨ty160_ok, trivial, trivial⟩, ⟨ty162_ok, trivial, trivial⟩⟩, ⟨ty167_ok, ⟨ty165_ok, trivial, trivial⟩, trivial⟩⟩, ⟨ty171_ok, ⟨ty170_ok, ⟨ty169_ok, trivial, trivial⟩, trivial⟩, ⟨ty173_ok, ⟨ty172_ok, trivial, trivial⟩, trivial⟩⟩⟩⟩⟩, ⟨ty204_ok, ⟨ty188_ok, ⟨ty182_ok, ⟨ty178_ok, ⟨ty176_ok, ⟨ty175_ok, trivial, trivial⟩, ⟨ty177_ok, trivial, trivial⟩⟩, ⟨ty181_ok, ⟨ty180_ok, trivial, trivial⟩, trivial⟩⟩, ⟨ty185_ok, ⟨ty184_ok, ⟨ty183_ok, trivial, trivial⟩, trivial⟩, ⟨ty187_ok, ⟨ty186_ok, trivial, trivial⟩, trivial⟩⟩⟩, ⟨ty197_ok, ⟨ty194_ok, ⟨ty192_ok, ⟨ty190_ok, trivial, trivial⟩, ⟨ty193_ok, trivial, trivial⟩⟩, ⟨ty196_ok, ⟨ty195_ok, trivial, trivial⟩, trivial⟩⟩, ⟨ty201_ok, ⟨ty200_ok, ⟨ty198_ok, trivial, trivial⟩, trivial⟩, ⟨ty203_ok, ⟨ty202_ok, trivial, trivial⟩, trivial⟩⟩⟩⟩, ⟨ty217_ok, ⟨ty211_ok, ⟨ty208_ok, ⟨ty206_ok, ⟨ty205_ok, trivial, trivial⟩, ⟨ty207_ok, trivial, trivial⟩⟩, ⟨ty210_ok, ⟨ty209_ok, trivial, trivial⟩, trivial⟩⟩, ⟨ty214_ok, ⟨ty213_ok, ⟨ty212_ok, trivial, trivial⟩, trivial⟩, ⟨ty216_ok, ⟨ty215_ok, trivial, trivial⟩, trivial⟩⟩⟩, ⟨ty223_ok, ⟨ty220_ok, ⟨ty219_ok, ⟨ty218_ok, trivial, trivial⟩, trivial⟩, ⟨ty222_ok, ⟨ty221_ok, trivial, trivial⟩, trivial⟩⟩, ⟨ty226_ok, ⟨ty225_ok, ⟨ty224_ok, trivial, trivial⟩, trivial⟩, ⟨ty228_ok, ⟨ty227_ok, trivial, trivial⟩, trivial⟩⟩⟩⟩⟩⟩⟩
def mks : Nat → Nat → Bool := mkOf [(24, 7), (29, 4), (38, 4), (40, 22)]
def dyn : Nat → Nat → List (Nat × Nat) := dynOf [(29, 8, [(15, 8), (15, 9)]), (56, 15, [(9, 6)]), (6, 12, [(6, 0)]),(7, 9, [(41, 42)]),(8, 20, [(4, 7), (4, 8)]),(20, 4, [(2, 0)]),(27, 16, [(4, 7)]),(27, 33, [(5, 8)]),(27, 40, [(7, 3)]),(31, 21, [(3, 1), (12, 10)]),(31, 24, [(1, 3), (1, 4)]),(38, 4, [(4, 0), (4, 6), (4, 7)]),(39, 36, [(4, 7)]),(40, 10, [(2, 0)]),(40, 11, [(4, 0)]),(40, 18, [(3, 0), (3, 4), (3, 5), (7, 0), (7, 4), (11, 0)]),(40, 22, [(4, 0), (4, 6), (4, 7)]),(40, 24, [(2, 1)]),(45, 13, [(1, 2)]),(46, 1, [(3, 6), (3, 10), (3, 14), (7, 10), (7, 14), (11, 14)]),(52, 13, [(4, 7)]),(52, 19, [(13, 4)]),(52, 24, [(11, 5), (11, 7)]),(53, 26, [(2, 5), (2, 8), (2, 9), (6, 8), (6, 9)]),(53, 27, [(5, 1), (5, 8), (9, 1)]),(53, 32, [(10, 1)]),(53, 37, [(10, 1)]),(54, 24, [(5, 1), (5, 8), (9, 1)]),(54, 36, [(7, 1), (7, 3)]),(55, 20, [(5, 1), (5, 8), (9, 1)]),(55, 25, [(10, 1)]),(55, 30, [(7, 1), (7, 3)]),(61, 14, [(4, 7)]),(61, 23, [(12, 2), (12, 3)]),(61, 29, [(6, 9)]),(61, 42, [(6, 2)]),(63, 20, [(12, 2), (12, 3)]),(63, 26, [(3, 6)]),(63, 33, [(10, 1)]),(63, 38, [(7, 1), (7, 3)]),(69, 6, [(4, 7)]),(74, 1, [(2, 0)]),(86, 7, [(2, 3)]),(90, 7, [(3, 5)]),(93, 6, [(4, 7)]),(98, 19, [(4, 9), (4, 10)]),(100, 1, [(1, 3), (1, 4)]),(109, 10, [(4, 7)]),(118, 1, [(2, 4), (2, 7), (2, 10), (5, 7), (5, 10), (8, 10)]),(119, 10, [(7, 1), (7, 13), (7, 19), (7, 24), (14, 1), (14, 19), (14, 24), (20, 1), (20, 24), (25, 1)]),(119, 12, [(4, 1)]),(126, 4, [(5, 10), (5, 11)]),(143, 10, [(6, 4)]),(162, 0, [(10, 3), (10, 14), (10, 18), (10, 20), (21, 3), (21, 14), (26, 3)]),(162, 1, [(10, 3), (10, 14), (10, 18), (10, 20), (21, 3), (21, 14), (26, 3)])]
theorem fnA {f : Nat} {F : Func} {i : FnI} (h : Tryz.prog.funcs[f]? = some F) (h1 : F.body = some i.code) (h2 : F.ntmps = i.ntmps) (h3 : F.results.toList = i.results) (h4 : (F.name == "runtime.NumGoroutine") = false) (hs : codeOk (dyn f) (mks f) i.code = true) : FnOk Tryz.prog dyn f i (mks f) := ⟨⟨F, h, h1, h2, h3, h4⟩, hs⟩
abbrev FO (f : Nat) (F : Func) : Prop := FnOk Tryz.prog dyn f (fi F) (mks f)
theorem fn3_ok : FO 3 Tryz.f3 := fnA Tryz.func3 rfl rfl rfl rfl (by kernel_rfl)
theorem fn4_ok : FO 4 Tryz.f4 := fnA Tryz.func4 rfl rfl rfl rfl (by kernel_rfl)
theorem fn5_ok : FO 5 Tryz.f5 := fnA Tryz.func5 rfl rfl rfl rfl (by kernel_rfl)
theorem fn6_ok : FO 6 Tryz.f6 := fnA Tryz.func6 rfl rfl rfl rfl (by kernel_rfl)
theorem fn7_ok : FO 7 Tryz.f7 := fnA Tryz.func7 rfl rfl rfl rfl (by kernel_rfl)
theorem fn8_ok : FO 8 Tryz.f8 := fnA Tryz.func8 rfl rfl rfl rfl (by kernel_rfl)
theorem fn9_ok : FO 9 Tryz.f9 := fnA Tryz.func9 rfl rfl rfl rfl (by kernel_rfl)
theorem fn10_ok : FO 10 Tryz.f10 := fnA Tryz.func10 rfl rfl rfl rfl (by kernel_rfl)
theorem fn11_ok : FO 11 Tryz.f11 := fnA Tryz.func11 rfl rfl rfl rfl (by kernel_rfl)
theorem fn12_ok : FO 12 Tryz.f12 := fnA Tryz.func12 rfl rfl rfl rfl (by kernel_rfl)
theorem fn13_ok : FO 13 Tryz.f13 := fnA Tryz.func13 rfl rfl rfl rfl (by kernel_rfl)
theorem fn14_ok : FO 14 Tryz.f14 := fnA Tryz.func14 rfl rfl rfl rfl (by kernel_rfl)
theorem fn15_ok : FO 15 Tryz.f15 := fnA Tryz.func15 rfl rfl rfl rfl (by kernel_rfl)
theorem fn16_ok : FO 16 Tryz.f16 := fnA Tryz.func16 rfl rfl rfl rfl (by kernel_rfl)
theorem fn17_ok : FO 17 Tryz.f17 := fnA Tryz.func17 rfl rfl rfl rfl (by kernel_rfl)
theorem fn18_ok : FO 18 Tryz.f18 := fnA Tryz.func18 rfl rfl rfl rfl (by kernel_rfl)
theorem fn19_ok : FO 19 Tryz.f19 := fnA Tryz.func19 rfl rfl rfl rfl (by kernel_rfl)
theorem fn20_ok : FO 20 Tryz.f20 := fnA Tryz.func20 rfl rfl rfl rfl (by kernel_rfl)
theorem fn21_ok : FO 21 Tryz.f21 := fnA Tryz.func21 rfl rfl rfl rfl (by kernel_rfl)
theorem fn22_ok : FO 22 Tryz.f22 := fnA Tryz.func22 rfl rfl rfl rfl (by kernel_rfl)
theorem fn23_ok : FO 23 Tryz.f23 := fnA Tryz.func23 rfl rfl rfl rfl (by kernel_rfl)
theorem fn24_ok : FO 24 Tryz.f24 := fnA Tryz.func24 rfl rfl rfl rfl (by kernel_rfl)
theorem fn25_ok : FO 25 Tryz.f25 := fnA Tryz.func25 rfl rfl rfl rfl (by kernel_rfl)
theorem fn26_ok : FO 26 Tryz.f26 := fnA Tryz.func26 rfl rfl rfl rfl (by kernel_rfl)
theorem fn27_ok : FO 27 Tryz.f27 := fnA Tryz.func27 rfl rfl rfl rfl (by kernel_rfl)
theorem fn28_ok : FO 28 Tryz.f28 := fnA Tryz.func28 rfl rfl rfl rfl (by kernel_rfl)
theorem fn29_ok : FO 29 Tryz.f29 := fnA Tryz.func29 rfl rfl rfl rfl (by kernel_rfl)
theorem fn30_ok : FO 30 Tryz.f30 := fnA Tryz.func30 rfl rfl rfl rfl (by kernel_rfl)
theorem fn31_ok : FO 31 Tryz.f31 := fnA Tryz.func31 rfl rfl rfl rfl (by kernel_rfl)
theorem fn32_ok : FO 32 Tryz.f32 := fnA Tryz.func32 rfl rfl rfl rfl (by kernel_rfl)
theorem fn33_ok : FO 33 Tryz.f33 := fnA Tryz.func33 rfl rfl rfl rfl (by kernel_rfl)
theorem fn34_ok : FO 34 Tryz.f34 := fnA Tryz.func34 rfl rfl rfl rfl (by kernel_rfl)
theorem fn35_ok : FO 35 Tryz.f35 := fnA Tryz.func35 rfl rfl rfl rfl (by kernel_rfl)
theorem fn36_ok : FO 36 Tryz.f36 := fnA Tryz.func36 rfl rfl rfl rfl (by kernel_rfl)
theorem fn37_ok : FO 37 Tryz.f37 := fnA Tryz.func37 rfl rfl rfl rfl (by kernel_rfl)
theorem fn38_ok : FO 38 Tryz.f38 := fnA Tryz.func38 rfl rfl rfl rfl (by kernel_rfl)
theorem fn39_ok : FO 39 Tryz.f39 := fnA Tryz.func39 rfl rfl rfl rfl (by kernel_rfl)
theorem fn40_ok : FO 40 Tryz.f40 := fnA Tryz.func40 rfl rfl rfl rfl (by kernel_rfl)
theorem fn41_ok : FO 41 Tryz.f41 := fnA Tryz.func41 rfl rfl rfl rfl (by kernel_rfl)
theorem fn42_ok : FO 42 Tryz.f42 := fnA Tryz.func42 rfl rfl rfl rfl (by kernel_rfl)
theorem fn43_ok : FO 43 Tryz.f43 := fnA Tryz.func43 rfl rfl rfl rfl (by kernel_rfl)
theorem fn44_ok : FO 44 Tryz.f44 := fnA Tryz.func44 rfl rfl rfl rfl (by kernel_rfl)
theorem fn45_ok : FO 45 Tryz.f45 := fnA Tryz.func45 rfl rfl rfl rfl (by kernel_rfl)
theorem fn46_ok : FO 46 Tryz.f46 := fnA Tryz.func46 rfl rfl rfl rfl (by kernel_rfl)
theorem fn47_ok : FO 47 Tryz.f47 := fnA Tryz.func47 rfl rfl rfl rfl (by kernel_rfl)
theorem fn48_ok : FO 48 Tryz.f48 := fnA Tryz.func48 rfl rfl rfl rfl (by kernel_rfl)
theorem fn49_ok : FO 49 Tryz.f49 := fnA Tryz.func49 rfl rfl rfl rfl (by kernel_rfl)
theorem fn50_ok : FO 50 Tryz.f50 := fnA Tryz.func50 rfl rfl rfl rfl (by kernel_rfl)
theorem fn51_ok : FO 51 Tryz.f51 := fnA Tryz.func51 rfl rfl rfl rfl (by kernel_rfl)
theorem fn52_ok : FO 52 Tryz.f52 := fnA Tryz.func52 rfl rfl rfl rfl (by kernel_rfl)
theorem fn53_ok : FO 53 Tryz.f53 := fnA Tryz.func53 rfl rfl rfl rfl (by kernel_rfl)
theorem fn54_ok : FO 54 Tryz.f54 := fnA Tryz.func54 rfl rfl rfl rfl (by kernel_rfl)
theorem fn55_ok : FO 55 Tryz.f55 := fnA Tryz.func55 rfl rfl rfl rfl (by kernel_rfl)
theorem fn56_ok : FO 56 Tryz.f56 := fnA Tryz.func56 rfl rfl rfl rfl (by kernel_rfl)
theorem fn57_ok : FO 57 Tryz.f57 := fnA Tryz.func57 rfl rfl rfl rfl (by kernel_rfl)
theorem fn58_ok : FO 58 Tryz.f58 := fnA Tryz.func58 rfl rfl rfl rfl (by kernel_rfl)
theorem fn59_ok : FO 59 Tryz.f59 := fnA Tryz.func59 rfl rfl rfl rfl (by kernel_rfl)
theorem fn60_ok : FO 60 Tryz.f60 := fnA Tryz.func60 rfl rfl rfl rfl (by kernel_rfl)
theorem fn61_ok : FO 61 Tryz.f61 := fnA Tryz.func61 rfl rfl rfl rfl (by kernel_rfl)
theorem fn62_ok : FO 62 Tryz.f62 := fnA Tryz.func62 rfl rfl rfl rfl (by kernel_rfl)
theorem fn63_ok : FO 63 Tryz.f63 := fnA Tryz.func63 rfl rfl rfl rfl (by kernel_rfl)
theorem fn64_ok : FO 64 Tryz.f64 := fnA Tryz.func64 rfl rfl rfl rfl (by kernel_rfl)
theorem fn65_ok : FO 65 Tryz.f65 := fnA Tryz.func65 rfl rfl rfl rfl (by kernel_rfl)
theorem fn66_ok : FO 66 Tryz.f66 := fnA Tryz.func66 rfl rfl rfl rfl (by kernel_rfl)
theorem fn67_ok : FO 67 Tryz.f67 := fnA Tryz.func67 rfl rfl rfl rfl (by kernel_rfl)
theorem fn68_ok : FO 68 Tryz.f68 := fnA Tryz.func68 rfl rfl rfl rfl (by kernel_rfl)
theorem fn69_ok : FO 69 Tryz.f69 := fnA Tryz.func69 rfl rfl rfl rfl (by kernel_rfl)
theorem fn70_ok : FO 70 Tryz.f70 := fnA Tryz.func70 rfl rfl rfl rfl (by kernel_rfl)
theorem fn71_ok : FO 71 Tryz.f71 := fnA Tryz.func71 rfl rfl rfl rfl (by kernel_rfl)
theorem fn72_ok : FO 72 Tryz.f72 := fnA Tryz.func72 rfl rfl rfl rfl (by kernel_rfl)
theorem fn73_ok : FO 73 Tryz.f73 := fnA Tryz.func73 rfl rfl rfl rfl (by kernel_rfl)
theorem fn74_ok : FO 74 Tryz.f74 := fnA Tryz.func74 rfl rfl rfl rfl (by kernel_rfl)
theorem fn75_ok : FO 75 Tryz.f75 := fnA Tryz.func75 rfl rfl rfl rfl (by kernel_rfl)
theorem fn76_ok : FO 76 Tryz.f76 := fnA Tryz.func76 rfl rfl rfl rfl (by kernel_rfl)
theorem fn77_ok : FO 77 Tryz.f77 := fnA Tryz.func77 rfl rfl rfl rfl (by kernel_rfl)
theorem fn78_ok : FO 78 Tryz.f78 := fnA Tryz.func78 rfl rfl rfl rfl (by kernel_rfl)
theorem fn79_ok : FO 79 Tryz.f79 := fnA Tryz.func79 rfl rfl rfl rfl (by kernel_rfl)
theorem fn80_ok : FO 80 Tryz.f80 := fnA Tryz.func80 rfl rfl rfl rfl (by kernel_rfl)
theorem fn81_ok : FO 81 Tryz.f81 := fnA Tryz.func81 rfl rfl rfl rfl (by kernel_rfl)
theorem fn82_ok : FO 82 Tryz.f82 := fnA Tryz.func82 rfl rfl rfl rfl (by kernel_rfl)
theorem fn83_ok : FO 83 Tryz.f83 := fnA Tryz.func83 rfl rfl rfl rfl (by kernel_rfl)
theorem fn84_ok : FO 84 Tryz.f84 := fnA Tryz.func84 rfl rfl rfl rfl (by kernel_rfl)
theorem fn85_ok : FO 85 Tryz.f85 := fnA Tryz.func85 rfl rfl rfl rfl (by kernel_rfl)
theorem fn86_ok : FO 86 Tryz.f86 := fnA Tryz.func86 rfl rfl rfl rfl (by kernel_rfl)
theorem fn87_ok : FO 87 Tryz.f87 := fnA Tryz.func87 rfl rfl rfl rfl (by kernel_rfl)
theorem fn88_ok : FO 88 Tryz.f88 := fnA Tryz.func88 rfl rfl rfl rfl (by kernel_rfl)
theorem fn89_ok : FO 89 Tryz.f89 := fnA Tryz.func89 rfl rfl rfl rfl (by kernel_rfl)
theorem fn90_ok : FO 90 Tryz.f90 := fnA Tryz.func90 rfl rfl rfl rfl (by kernel_rfl)
theorem fn91_ok : FO 91 Tryz.f91 := fnA Tryz.func91 rfl rfl rfl rfl (by kernel_rfl)
theorem fn92_ok : FO 92 Tryz.f92 := fnA Tryz.func92 rfl rfl rfl rfl (by kernel_rfl)
theorem fn93_ok : FO 93 Tryz.f93 := fnA Tryz.func93 rfl rfl rfl rfl (by kernel_rfl)
theorem fn94_ok : FO 94 Tryz.f94 := fnA Tryz.func94 rfl rfl rfl rfl (by kernel_rfl)
theorem fn95_ok : FO 95 Tryz.f95 := fnA Tryz.func95 rfl rfl rfl rfl (by kernel_rfl)
theorem fn96_ok : FO 96 Tryz.f96 := fnA Tryz.func96 rfl rfl rfl rfl (by kernel_rfl)
theorem fn97_ok : FO 97 Tryz.f97 := fnA Tryz.func97 rfl rfl rfl rfl (by kernel_rfl)
theorem fn98_ok : FO 98 Tryz.f98 := fnA Tryz.func98 rfl rfl rfl rfl (by kernel_rfl)
theorem fn99_ok : FO 99 Tryz.f99 := fnA Tryz.func99 rfl rfl rfl rfl (by kernel_rfl)
theorem fn100_ok : FO 100 Tryz.f100 := fnA Tryz.func100 rfl rfl rfl rfl (by kernel_rfl)
theorem fn101_ok : FO 101 Tryz.f101 := fnA Tryz.func101 rfl rfl rfl rfl (by kernel_rfl)
theorem fn102_ok : FO 102 Tryz.f102 := fnA Tryz.func102 rfl rfl rfl rfl (by kernel_rfl)
theorem fn103_ok : FO 103 Tryz.f103 := fnA Tryz.func103 rfl rfl rfl rfl (by kernel_rfl)
theorem fn104_ok : FO 104 Tryz.f104 := fnA Tryz.func104 rfl rfl rfl rfl (by kernel_rfl)
theorem fn105_ok : FO 105 Tryz.f105 := fnA Tryz.func105 rfl rfl rfl rfl (by kernel_rfl)
theorem fn106_ok : FO 106 Tryz.f106 := fnA Tryz.func106 rfl rfl rfl rfl (by kernel_rfl)
theorem fn107_ok : FO 107 Tryz.f107 := fnA Tryz.func107 rfl rfl rfl rfl (by kernel_rfl)
theorem fn108_ok : FO 108 Tryz.f108 := fnA Tryz.func108 rfl rfl rfl rfl (by kernel_rfl)
theorem fn109_ok : FO 109 Tryz.f109 := fnA Tryz.func109 rfl rfl rfl rfl (by kernel_rfl)
theorem fn110_ok : FO 110 Tryz.f110 := fnA Tryz.func110 rfl rfl rfl rfl (by kernel_rfl)
theorem fn111_ok : FO 111 Tryz.f111 := fnA Tryz.func111 rfl rfl rfl rfl (by kernel_rfl)
theorem fn112_ok : FO 112 Tryz.f112 := fnA Tryz.func112 rfl rfl rfl rfl (by kernel_rfl)
theorem fn113_ok : FO 113 Tryz.f113 := fnA Tryz.func113 rfl rfl rfl rfl (by kernel_rfl)
theorem fn114_ok : FO 114 Tryz.f114 := fnA Tryz.func114 rfl rfl rfl rfl (by kernel_rfl)
theorem fn115_ok : FO 115 Tryz.f115 := fnA Tryz.func115 rfl rfl rfl rfl (by kernel_rfl)
theorem fn116_ok : FO 116 Tryz.f116 := fnA Tryz.func116 rfl rfl rfl rfl (by kernel_rfl)
theorem fn117_ok : FO 117 Tryz.f117 := fnA Tryz.func117 rfl rfl rfl rfl (by kernel_rfl)
theorem fn118_ok : FO 118 Tryz.f118 := fnA Tryz.func118 rfl rfl rfl rfl (by kernel_rfl)
theorem fn120_ok : FO 120 Tryz.f120 := fnA Tryz.func120 rfl rfl rfl rfl (by kernel_rfl)
theorem fn122_ok : FO 122 Tryz.f122 := fnA Tryz.func122 rfl rfl rfl rfl (by kernel_rfl)
theorem fn123_ok : FO 123 Tryz.f123 := fnA Tryz.func123 rfl rfl rfl rfl (by kernel_rfl)
theorem fn124_ok : FO 124 Tryz.f124 := fnA Tryz.func124 rfl rfl rfl rfl (by kernel_rfl)
theorem fn125_ok : FO 125 Tryz.f125 := fnA Tryz.func125 rfl rfl rfl rfl (by kernel_rfl)
theorem fn126_ok : FO 126 Tryz.f126 := fnA Tryz.func126 rfl rfl rfl rfl (by kernel_rfl)
theorem fn127_ok : FO 127 Tryz.f127 := fnA Tryz.func127 rfl rfl rfl rfl (by kernel_rfl)
theorem fn128_ok : FO 128 Tryz.f128 := fnA Tryz.func128 rfl rfl rfl rfl (by kernel_rfl)
theorem fn129_ok : FO 129 Tryz.f129 := fnA Tryz.func129 rfl rfl rfl rfl (by kernel_rfl)
theorem fn130_ok : FO 130 Tryz.f130 := fnA Tryz.func130 rfl rfl rfl rfl (by kernel_rfl)
theorem fn131_ok : FO 131 Tryz.f131 := fnA Tryz.func131 rfl rfl rfl rfl (by kernel_rfl)
theorem fn132_ok : FO 132 Tryz.f132 := fnA Tryz.func132 rfl rfl rfl rfl (by kernel_rfl)
theorem fn133_ok : FO 133 Tryz.f133 := fnA Tryz.func133 rfl rfl rfl rfl (by kernel_rfl)
theorem fn134_ok : FO 134 Tryz.f134 := fnA Tryz.func134 rfl rfl rfl rfl (by kernel_rfl)
theorem fn135_ok : FO 135 Tryz.f135 := fnA Tryz.func135 rfl rfl rfl rfl (by kernel_rfl)
theorem fn136_ok : FO 136 Tryz.f136 := fnA Tryz.func136 rfl rfl rfl rfl (by kernel_rfl)
theorem fn137_ok : FO 137 Tryz.f137 := fnA Tryz.func137 rfl rfl rfl rfl (by kernel_rfl)
theorem fn138_ok : FO 138 Tryz.f138 := fnA Tryz.func138 rfl rfl rfl rfl (by kernel_rfl)
theorem fn139_ok : FO 139 Tryz.f139 := fnA Tryz.func139 rfl rfl rfl rfl (by kernel_rfl)
theorem fn147_ok : FO 147 Tryz.f147 := fnA Tryz.func147 rfl rfl rfl rfl (by kernel_rfl)
theorem fn148_ok : FO 148 Tryz.f148 := fnA Tryz.func148 rfl rfl rfl rfl (by kernel_rfl)
theorem fn149_ok : FO 149 Tryz.f149 := fnA Tryz.func149 rfl rfl rfl rfl (by kernel_rfl)
theorem fn150_ok : FO 150 Tryz.f150 := fnA Tryz.func150 rfl rfl rfl rfl (by kernel_rfl)
theorem fn151_ok : FO 151 Tryz.f151 := fnA Tryz.func151 rfl rfl rfl rfl (by kernel_rfl)
theorem fn152_ok : FO 152 Tryz.f152 := fnA Tryz.func152 rfl rfl rfl rfl (by kernel_rfl)
theorem fn154_ok : FO 154 Tryz.f154 := fnA Tryz.func154 rfl rfl rfl rfl (by kernel_rfl)
theorem fn168_ok : FO 168 Tryz.f168 := fnA Tryz.func168 rfl rfl rfl rfl (by kernel_rfl)
theorem fn169_ok : FO 169 Tryz.f169 := fnA Tryz.func169 rfl rfl rfl rfl (by kernel_rfl)
theorem fn171_ok : FO 171 Tryz.f171 := fnA Tryz.func171 rfl rfl rfl rfl (by kernel_rfl)
noncomputable def fns : Tree FnI := (.node 75 (fi Tryz.f75) (.node 39 (fi Tryz.f39) (.node 21 (fi Tryz.f21) (.node 12 (fi Tryz.f12) (.node 7 (fi Tryz.f7) (.node 5 (fi Tryz.f5) (.node 4 (fi Tryz.f4) (.node 3 (fi Tryz.f3) .leaf .leaf) .leaf) (.node 6 (fi Tryz.f6) .leaf .leaf)) (.node 10 (fi Tryz.f10) (.node 9 (fi Tryz.f9) (.node 8 (fi Tryz.f8) .leaf .leaf) .leaf) (.node 11 (fi Tryz.f11) .leaf .leaf))) (.node 17 (fi Tryz.f17) (.node 15 (fi Tryz.f15) (.node 14 (fi Tryz.f14) (.node 13 (fi Tryz.f13) .leaf .leaf) .leaf) (.node 16 (fi Tryz.f16) .leaf .leaf)) (.node 19 (fi Tryz.f19) (.node 18 (fi Tryz.f18) .leaf .leaf) (.node 20 (fi Tryz.f20) .leaf .leaf)))) (.node 30 (fi Tryz.f30) (.node 26 (fi Tryz.f26) (.node 24 (fi Tryz.f24) (.node 23 (fi Tryz.f23) (.node 22 (fi Tryz.f22) .leaf .leaf) .leaf) (.node 25 (fi Tryz.f25) .leaf .leaf)) (.node 28 (fi Tryz.f28) (.node 27 (fi Tryz.f27) .leaf .leaf) (.node 29 (fi Tryz.f29) .leaf .leaf))) (.node 35 (fi Tryz.f35) (.node 33 (fi Tryz.f33) (.node 32 (fi Tryz.f32) (.node 31 (fi Tryz.f31) .leaf .leaf) .leaf) (.node 34 (fi Tryz.f34) .leaf .leaf)) (.node 37 (fi Tryz.f37) (.node 36 (fi Tryz.f36) .leaf .leaf) (.node 38 (fi Tryz.f38) .leaf .leaf))))) (.node 57 (fi Tryz.f57) (.node 48 (fi Tryz.f48) (.node 44 (fi Tryz.f44) (.node 42 (fi Tryz.f42) (.node 41 (fi Tryz.f41) (.node 40 (fi Tryz.f40) .leaf .leaf) .leaf) (.node 43 (fi Tryz.f43) .leaf .leaf)) (.node 46 (fi Tryz.f46) (.node 45 (fi Tryz.f45) .leaf .leaf) (.node 47 (fi Tryz.f47) .leaf .leaf))) (.node 53 (fi Tryz.f53) (.node 51 (fi Tryz.f51) (.node 50 (fi Tryz.f50) (.node 49 (fi Tryz.f49) .leaf .leaf) .leaf) (.node 52 (fi Tryz.f52) .leaf .leaf)) (.node 55 (fi Tryz.f55) (.node 54 (fi Tryz.f54) .leaf .leaf) (.node 56 (fi Tryz.f56) .leaf .leaf)))) (.node 66 (fi Tryz.f66) (.node 62 (fi Tryz.f62) (.node 60 (fi Tryz.f60) (.node 59 (fi Tryz.f59) (.node 58 (fi Tryz.f58) .leaf .leaf) .leaf) (.node 61 (fi Tryz.f61) .leaf .leaf)) (.node 64 (fi Tryz.f64) (.node 63 (fi Tryz.f63) .leaf .leaf) (.node 65 (fi Tryz.f65) .leaf .leaf))) (.node 71 (fi Tryz.f71) (.node 69 (fi Tryz.f69) (.node 68 (fi Tryz.f68) (.node 67 (fi Tryz.f67) .leaf .leaf) .leaf) (.node 70 (fi Tryz.f70) .leaf .leaf)) (.node 73 (fi Tryz.f73) (.node 72 (fi Tryz.f72) .leaf .leaf) (.node 74 (fi Tryz.f74) .leaf .leaf)))))) (.node 112 (fi Tryz.f112) (.node 94 (fi Tryz.f94) (.node 85 (fi Tryz.f85) (.node 80 (fi Tryz.f80) (.node 78 (fi Tryz.f78) (.node 77 (fi Tryz.f77) (.node 76 (fi Tryz.f76) .leaf .leaf) .leaf) (.node 79 (fi Tryz.f79) .leaf .leaf)) (.node 83 (fi Tryz.f83) (.node 82 (fi Tryz.f82) (.node 81 (fi Tryz.f81) .leaf .leaf) .leaf) (.node 84 (fi Tryz.f84) .leaf .leaf))) (.node 90 (fi Tryz.f90) (.node 88 (fi Tryz.f88) (.node 87 (fi Tryz.f87) (.node 86 (fi Tryz.f86) .leaf .leaf) .leaf) (.node 89 (fi Tryz.f89) .leaf .leaf)) (.node 92 (fi Tryz.f92) (.node 91 (fi Tryz.f91) .leaf .leaf) (.node 93 (fi Tryz.f93) .leaf .leaf)))) (.node 103 (fi Tryz.f103) (.node 99 (fi Tryz.f99) (.node 97 (fi Tryz.f97) (.node 96 (fi Tryz.f96) (.node 95 (fi Tryz.f95) .leaf .leaf) .leaf) (.node 98 (fi Tryz.f98) .leaf .leaf)) (.node 101 (fi Tryz.f101) (.node 100 (fi Tryz.f100) .leaf .leaf) (.node 102 (fi Tryz.f102) .leaf .leaf))) (.node 108 (fi Tryz.f108) (.node 106 (fi Tryz.f106) (.node 105 (fi Tryz.f105) (.node 104 (fi Tryz.f104) .leaf .leaf) .leaf) (.node 107 (fi Tryz.f107) .leaf .leaf)) (.node 110 (fi Tryz.f110) (.node 109 (fi Tryz.f109) .leaf .leaf) (.node 111 (fi Tryz.f111) .leaf .leaf))))) (.node 132 (fi Tryz.f132) (.node 123 (fi Tryz.f123) (.node 117 (fi Tryz.f117) (.node 115 (fi Tryz.f115) (.node 114 (fi Tryz.f114) (.node 113 (fi Tryz.f113) .leaf .leaf) .leaf) (.node 116 (fi Tryz.f116) .leaf .leaf)) (.node 120 (fi Tryz.f120) (.node 118 (fi Tryz.f118) .leaf .leaf) (.node 122 (fi Tryz.f122) .leaf .leaf))) (.node 128 (fi Tryz.f128) (.node 126 (fi Tryz.f126) (.node 125 (fi Tryz.f125) (.node 124 (fi Tryz.f124) .leaf .leaf) .leaf) (.node 127 (fi Tryz.f127) .leaf .leaf)) (.node 130 (fi Tryz.f130) (.node 129 (fi Tryz.f129) .leaf .leaf) (.node 131 (fi Tryz.f131) .leaf .leaf)))) (.node 148 (fi Tryz.f148) (.node 137 (fi Tryz.f137) (.node 135 (fi Tryz.f135) (.node 134 (fi Tryz.f134) (.node 133 (fi Tryz.f133) .leaf .leaf) .leaf) (.node 136 (fi Tryz.f136) .leaf .leaf)) (.node 139 (fi Tryz.f139) (.node 138 (fi Tryz.f138) .leaf .leaf) (.node 147 (fi Tryz.f147) .leaf .leaf))) (.node 154 (fi Tryz.f154) (.node 151 (fi Tryz.f151) (.node 150 (fi Tryz.f150) (.node 149 (fi Tryz.f149) .leaf .leaf) .leaf) (.node 152 (fi Tryz.f152) .leaf .leaf)) (.node 169 (fi Tryz.f169) (.node 168 (fi Tryz.f168) .leaf .leaf) (.node 171 (fi Tryz.f171) .leaf .leaf)))))))
theorem fns_ok : fns.All (fun f i => FnOk Tryz.prog dyn f i (mks f)) := ⟨fn75_ok, ⟨fn39_ok, ⟨fn21_ok, ⟨fn12_ok, ⟨fn7_ok, ⟨fn5_ok, ⟨fn4_ok, ⟨fn3_ok, trivial, trivial⟩, trivial⟩, ⟨fn6_ok, trivial, trivial⟩⟩, ⟨fn10_ok, ⟨fn9_ok, ⟨fn8_ok, trivial, trivial⟩, trivial⟩, ⟨fn11_ok, trivial, trivial⟩⟩⟩, ⟨fn17_ok, ⟨fn15_ok, ⟨fn14_ok, ⟨fn13_ok, trivial, trivial⟩, trivial⟩, ⟨fn16_ok, trivial, trivial⟩⟩, ⟨fn19_ok, ⟨fn18_ok, trivial, trivial⟩, ⟨fn20_ok, trivial, trivial⟩⟩⟩⟩, ⟨fn30_ok, ⟨fn26_ok, ⟨fn24_ok, ⟨fn23_ok, ⟨fn22_ok, trivial, trivial⟩, trivial⟩, ⟨fn25_ok, trivial, trivial⟩⟩, ⟨fn28_ok, ⟨fn27_ok, trivial, trivial⟩, ⟨fn29_ok, trivial, trivial⟩⟩⟩, ⟨fn35_ok, ⟨fn33_ok, ⟨fn32_ok, ⟨fn31_ok, trivial, trivial⟩, trivial⟩, ⟨fn34_ok, trivial, trivial⟩⟩, ⟨fn37_ok, ⟨fn36_ok, trivial, trivial⟩, ⟨fn38_ok, trivial, trivial⟩⟩⟩⟩⟩, ⟨fn57_ok, ⟨fn48_ok, ⟨fn44_ok, ⟨fn42_ok, ⟨fn41_ok, ⟨fn40_ok, trivial, trivial⟩, trivial⟩, ⟨fn43_ok, trivial, trivial⟩⟩, ⟨fn46_ok, ⟨fn45_ok, trivial, trivial⟩, ⟨fn47_ok, trivial, trivial⟩⟩⟩, ⟨fn53_ok, ⟨fn51_ok, ⟨fn50_ok, ⟨fn49_ok, trivial, trivial⟩, trivial⟩, ⟨fn52_ok, trivial, trivial⟩⟩, ⟨fn55_ok, ⟨fn54_ok, trivial, trivial⟩, ⟨fn56_ok, trivial, trivial⟩⟩⟩⟩, ⟨fn66_ok, ⟨fn62_ok, ⟨fn60_ok, ⟨fn59_ok, ⟨fn58_ok, trivial, trivial⟩, trivial⟩, ⟨fn61_ok, trivial, trivial⟩⟩, ⟨fn64_ok, ⟨fn63_ok, trivial, trivial⟩, ⟨fn65_ok, trivial, trivial⟩⟩⟩, ⟨fn71_ok, ⟨fn69_ok, ⟨fn68_ok, ⟨fn67_ok, trivial, trivial⟩, trivial⟩, ⟨fn70_ok, trivial, trivial⟩⟩, ⟨fn73_ok, ⟨fn72_ok, trivial, trivial⟩, ⟨fn74_ok, trivial, trivial⟩⟩⟩⟩⟩⟩, ⟨fn112_ok, ⟨fn94_ok, ⟨fn85_ok, ⟨fn80_ok, ⟨fn78_ok, ⟨fn77_ok, ⟨fn76_ok, trivial, trivial⟩, trivial⟩, ⟨fn79_ok, trivial, trivial⟩⟩, ⟨fn83_ok, ⟨fn82_ok, ⟨fn81_ok, trivial, trivial⟩, trivial⟩, ⟨fn84_ok, trivial, trivial⟩⟩⟩, ⟨fn90_ok, ⟨fn88_ok, ⟨fn87_ok, ⟨fn86_ok, trivial, trivial⟩, trivial⟩, ⟨fn89_ok, trivial, trivial⟩⟩, ⟨fn92_ok, ⟨fn91_ok, trivial, trivial⟩, ⟨fn93_ok, trivial, trivial⟩⟩⟩⟩, ⟨fn103_ok, ⟨fn99_ok, ⟨fn97_ok, ⟨fn96_ok, ⟨fn95_ok, trivial, trivial⟩, trivial⟩, ⟨fn98_ok, trivial, trivial⟩⟩, ⟨fn101_ok, ⟨fn100_ok, trivial, trivial⟩, ⟨fn102_ok, trivial, trivial⟩⟩⟩, ⟨fn108_ok, ⟨fn106_ok, ⟨fn105_ok, ⟨fn104_ok, trivial, trivial⟩, trivial⟩, ⟨fn107_ok, trivial, trivial⟩⟩, ⟨fn110_ok, ⟨fn109_ok, trivial, trivial⟩, ⟨fn111_ok, trivial, trivial⟩⟩⟩⟩⟩, ⟨fn132_ok, ⟨fn123_ok, ⟨fn117_ok, ⟨fn115_ok, ⟨fn114_ok, ⟨fn113_ok, trivial, trivial⟩, trivial⟩, ⟨fn116_ok, trivial, trivial⟩⟩, ⟨fn120_ok, ⟨fn118_ok, trivial, trivial⟩, ⟨fn122_ok, trivial, trivial⟩⟩⟩, ⟨fn128_ok, ⟨fn126_ok, ⟨fn125_ok, ⟨fn124_ok, trivial, trivial⟩, trivial⟩, ⟨fn127_ok, trivial, trivial⟩⟩, ⟨fn130_ok, ⟨fn129_ok, trivial, trivial⟩, ⟨fn131_ok, trivial, trivial⟩⟩⟩⟩, ⟨fn148_ok, ⟨fn137_ok, ⟨fn135_ok, ⟨fn134_ok, ⟨fn133_ok, trivial, trivial⟩, trivial⟩, ⟨fn136_ok, trivial, trivial⟩⟩, ⟨fn139_ok, ⟨fn138_ok, trivial, trivial⟩, ⟨fn147_ok, trivial, trivial⟩⟩⟩, ⟨fn154_ok, ⟨fn151_ok, ⟨fn150_ok, ⟨fn149_ok, trivial, trivial⟩, trivial⟩, ⟨fn152_ok, trivial, trivial⟩⟩, ⟨fn169_ok, ⟨fn168_ok, trivial, trivial⟩, ⟨fn171_ok, trivial, trivial⟩⟩⟩⟩⟩⟩⟩
theorem mixed : Tryz.prog.follows .mixedOrders = true := by rfl
end Go.OptEnv

namespace Go.Abs
open Go.RowKit

section
variable {P : Program} {B : Nat} {w0 w w' : World} {Γ : Ghost} {st : St}

def PrimDoes (P : Program) (B : Nat) (w0 : World) (f : FuncId) (g : List AV → St → Option (AV × St)) : Prop :=
  ∀ args st r st', g args st = some (r, st') → (∀ (w : World) (vargs : Array Value), (callFunc f vargs).run P w = .ok (.enter f vargs) w) ∧
    ∀ Γ w (vargs : Array Value), Inv B w0 Γ st w → RL Γ args vargs.toList →
      Calls P f vargs w fun e w' => ∃ v Γ', e = .returned v ∧ Out B w0 Γ st Γ' st' w' ∧ R Γ' r v

end
end Go.Abs

namespace Go.Abs
open Go.RowKit

section
variable {P : Program}

def Ghost.empty : Ghost := ⟨fun _ _ => none, fun _ => none, fun _ => none, fun _ => none, fun _ => none, fun _ _ => none⟩
def St.empty : St := ⟨0, [], [], []⟩
theorem Inv.empty (w : World) : Inv w.heap.size w Ghost.empty St.empty w := by
  refine ⟨Below.refl _ w, Nat.le_refl _, fun _ _ _ h => (by cases h), fun _ _ => ⟨rfl, rfl, rfl, rfl, rfl⟩, fun _ _ _ _ _ _ _ h => (by cases h), fun _ _ _ _ _ h => (by cases h), fun _ _ _ _ h => (by cases h), ?_, ?_, fun _ h => (by cases h), fun _ _ h => (by cases h), fun _ _ h => (by cases h), fun _ _ h => (by cases h), fun _ _ _ _ h => (by cases h)⟩
  · rintro i j blk (⟨_, _, _, _, _, h, _⟩ | ⟨_, _, _, h, _⟩ | ⟨h, _⟩) <;> cases h
  · rintro i blk (⟨_, _, _, _, _, h, _⟩ | ⟨_, _, _, h, _⟩ | ⟨h, _⟩) <;> cases h

theorem closed_calls {E : Env} (hE : EnvOk P E) (hp : ∀ B w0, PrimOk P E B w0) {f : FuncId} {n : Nat} {r : AV} {st' : St} (h : callF E n f [] St.empty = some (r, st')) (w : World) :
    Calls P f #[] w fun e w' => ∃ v Γ', e = .returned v ∧ Below w.heap.size w w' ∧ R Γ' r v := by
  refine ((callF_sound hE (hp w.heap.size w) n f [] St.empty r st' h).2 Ghost.empty w #[] (Inv.empty w) (RL.nil _)).mono ?_
  rintro e w' ⟨v, Γ', he, out, hr⟩
  exact ⟨v, Γ', he, out.inv.below, hr⟩
end
end Go.Abs

namespace Go.Abs
open Go.RowKit

def Own.plain (_ : Own) : Own := .any
mutual
def AV.plain : AV → AV
  | .ip cells => .ip (AV.plainL cells)
  | .vs sz own xs => .vs sz own.plain (AV.plainL xs)
  | .fn f a b => .fn f (AV.plainL a) (AV.plainL b)
  | .iface t x => .iface t (AV.plain x)
  | .agg cells => .agg (AV.plainL cells)
  | .tup xs => .tup (AV.plainL xs)
  | x => x
def AV.plainL : List AV → List AV
  | [] => []
  | x :: xs => AV.plain x :: AV.plainL xs
end
mutual
def AV.free : AV → Bool
  | .ptr _ _ _ | .sl _ _ _ _ | .map _ => false
  | .ip cells => AV.freeL cells
  | .vs _ _ xs => AV.freeL xs
  | .fn _ a b => AV.freeL a && AV.freeL b
  | .iface _ x => AV.free x
  | .agg cells => AV.freeL cells
  | .tup xs => AV.freeL xs
  | _ => true
def AV.freeL : List AV → Bool
  | [] => true
  | x :: xs => AV.free x && AV.freeL xs
end

theorem plainL_length : ∀ xs : List AV, (AV.plainL xs).length = xs.length
  | [] => rfl
  | x :: xs => by simp [AV.plainL, plainL_length xs]
theorem cellOk_plain (x : AV) : (AV.plain x).cellOk = x.cellOk := by cases x <;> rfl
theorem allOk_plain : ∀ xs : List AV, (AV.plainL xs).all AV.cellOk = xs.all AV.cellOk
  | [] => rfl
  | x :: xs => by simp [AV.plainL, cellOk_plain, allOk_plain xs]
theorem ok_plain (x : AV) : (AV.plain x).ok = x.ok := by
  cases x <;> first | rfl | exact allOk_plain _

mutual
theorem R.plain {Γ Δ : Ghost} (h : ∀ b o v, Γ.inert b o = some v → Δ.inert b o = some v) : ∀ (x : AV) (v : Value), AV.free x = true → R Γ x v → R Δ (AV.plain x) v
  | .bool _, _, _, k | .int _ _, _, _, k | .str _, _, _, k | .nilptr, _, _, k | .gptr _, _, _, k | .nilsl, _, _, k | .es, _, _, k | .nilmap, _, _, k | .nilfn, _, _, k | .nilif, _, _, k => by simpa only [AV.plain, R] using k
  | .junk, _, _, _ => by simp only [AV.plain, R]
  | .ptr _ _ _, _, hf, _ | .sl _ _ _ _, _, hf, _ | .map _, _, hf, _ => by simp [AV.free] at hf
  | .ip cells, v, hf, k => by
    simp only [AV.free] at hf
    simp only [AV.plain, R] at k ⊢
    obtain ⟨blk, o, vs, k1, k2, k3⟩ := k
    exact ⟨blk, o, vs, k1, RL.plain h cells vs hf k2, k3.mono (h blk)⟩
  | .vs sz own xs, v, hf, k => by
    simp only [AV.free] at hf
    simp only [AV.plain, R] at k ⊢
    obtain ⟨blk, o, cap, k1, k2, k3, k4, k5⟩ := k
    refine ⟨blk, o, cap, by rw [plainL_length]; exact k1, by rw [plainL_length]; exact k2, k3, ?_, RE.plain h xs _ _ o sz (h blk) hf k5⟩
    cases own with
    | full => rw [plainL_length]; exact trivial
    | any => trivial
    | tok t => trivial
  | .fn f a b, v, hf, k => by
    simp only [AV.free, Bool.and_eq_true] at hf
    simp only [AV.plain, R] at k ⊢
    obtain ⟨vf, vc, k1, k2, k3⟩ := k
    exact ⟨vf, vc, k1, RL.plain h a _ hf.1 k2, RL.plain h b _ hf.2 k3⟩
  | .iface t x, v, hf, k => by
    simp only [AV.free] at hf
    simp only [AV.plain, R] at k ⊢
    obtain ⟨y, k1, k2⟩ := k
    exact ⟨y, k1, R.plain h x y hf k2⟩
  | .agg cells, v, hf, k => by
    simp only [AV.free] at hf
    simp only [AV.plain, R] at k ⊢
    obtain ⟨vs, k1, k2⟩ := k
    exact ⟨vs, k1, RL.plain h cells _ hf k2⟩
  | .tup cells, v, hf, k => by
    simp only [AV.free] at hf
    simp only [AV.plain, R] at k ⊢
    obtain ⟨vs, k1, k2⟩ := k
    exact ⟨vs, k1, RL.plain h cells _ hf k2⟩
theorem RL.plain {Γ Δ : Ghost} (h : ∀ b o v, Γ.inert b o = some v → Δ.inert b o = some v) : ∀ (xs : List AV) (vs : List Value), AV.freeL xs = true → RL Γ xs vs → RL Δ (AV.plainL xs) vs
  | [], _, _, k => by simpa only [AV.plainL, RL] using k
  | x :: xs, _, hf, k => by
    simp only [AV.freeL, Bool.and_eq_true] at hf
    simp only [AV.plainL, RL] at k ⊢
    obtain ⟨v, r, k1, k2, k3⟩ := k
    exact ⟨v, r, k1, R.plain h x v hf.1 k2, RL.plain h xs r hf.2 k3⟩
theorem RE.plain {Γ Δ : Ghost} (h : ∀ b o v, Γ.inert b o = some v → Δ.inert b o = some v) : ∀ (xs : List AV) (f g : Nat → Option Value) (o sz : Nat), (∀ k v, f k = some v → g k = some v) → AV.freeL xs = true → RE Γ xs f o sz → RE Δ (AV.plainL xs) g o sz
  | [], _, _, _, _, _, _, _ => by simp only [AV.plainL, RE]
  | x :: xs, f, g, o, sz, hf, hr, k => by
    simp only [AV.freeL, Bool.and_eq_true] at hr
    simp only [AV.plainL, RE] at k ⊢
    obtain ⟨⟨v, k1, k2, k3, k4⟩, k5⟩ := k
    exact ⟨⟨v, R.plain h x v hr.1 k1, by rw [ok_plain]; exact k2, k3, k4.mono hf⟩, RE.plain h xs f g (o + sz) sz hf hr.2 k5⟩
end
end Go.Abs

namespace Go.Abs
open Go.RowKit

section
variable {P : Program}

theorem Inv.inner {B : Nat} {w0 w : World} {Γ : Ghost} {st : St} (hI : Inv B w0 Γ st w) :
    Inv w.heap.size w ⟨Γ.inert, fun _ => none, fun _ => none, fun _ => none, fun _ => none, Γ.inert⟩ St.empty w := by
  refine ⟨Below.refl _ w, Nat.le_refl _, hI.inert, fun _ _ => ⟨rfl, rfl, rfl, rfl, rfl⟩, fun _ _ _ _ _ _ _ h => (by cases h), fun _ _ _ _ _ h => (by cases h), fun _ _ _ _ h => (by cases h), ?_, ?_, fun _ h => (by cases h), fun _ _ h => (by cases h), fun _ _ h => (by cases h), fun _ _ h => (by cases h), fun _ _ _ _ h => h⟩
  · rintro i j blk (⟨_, _, _, _, _, h, _⟩ | ⟨_, _, _, h, _⟩ | ⟨h, _⟩) <;> cases h
  · rintro i blk (⟨_, _, _, _, _, h, _⟩ | ⟨_, _, _, h, _⟩ | ⟨h, _⟩) <;> cases h

def Ghost.back (Γ : Ghost) (n : Nat) (f : Nat → Nat → Option Value) : Ghost := { Γ with inert := fun b o => if b < n then Γ.inert b o else f b o }
theorem Inv.back {B : Nat} {w0 w w' : World} {Γ Γ1 : Ghost} {st st' : St} (hI : Inv B w0 Γ st w) (h1 : Inv w.heap.size w Γ1 st' w') :
    Out B w0 Γ st (Γ.back w.heap.size Γ1.inert) st w' := by
  have hle : Γ.Le (Γ.back w.heap.size Γ1.inert) := ⟨fun b o v k => by
    simp only [Ghost.back]
    rw [if_pos (hI.inert_lt k)]; exact k, fun _ _ k => k, fun _ _ k => k, fun _ _ k => k, fun _ _ k => k, rfl⟩
  have hb := h1.below
  have hno : ∀ b o, b < w.heap.size → (Γ.back w.heap.size Γ1.inert).inert b o = Γ.inert b o := fun b o h => by
    simp only [Ghost.back]; rw [if_pos h]
  refine ⟨hle, ⟨hI.below.trans ⟨hb.os, hb.tape, hb.output, hb.size, fun k hk => hb.block k (Nat.lt_of_lt_of_le hk hI.base)⟩, Nat.le_trans hI.base hb.size, ?_, hI.fresh, ?_, ?_, ?_, hI.uniq, hI.above, hI.disj, ?_, hI.tys, hI.ttys, ?_⟩, Keep.refl Γ st⟩
  · intro b o v k
    by_cases hlt : b < w.heap.size
    · rw [hno b o hlt] at k
      rw [cell_same (hb.block b hlt) o]; exact hI.inert b o v k
    · simp only [Ghost.back] at k
      rw [if_neg hlt] at k
      exact h1.inert b o v k
  · intro i sz xs blk bs sz' tot k1 k2
    obtain ⟨r1, r2, r3, r4⟩ := hI.rows i sz xs blk bs sz' tot k1 k2
    refine ⟨r1, r2, r3, fun ht => ?_⟩
    have hlt := hI.lt (.inl ⟨sz, xs, bs, sz', tot, k1, k2, ht⟩)
    obtain ⟨⟨c, T, hc, hs, hre⟩, hn⟩ := r4 ht
    exact ⟨⟨c, T, (hb.block blk hlt).trans hc, hs, RE.mono hle xs _ _ _ _ (fun _ _ k => k) hre⟩, fun o => (hno blk o hlt).trans (hn o)⟩
  · intro i kt et es blk k1 hm
    obtain ⟨en, clock, hc, hs, hre⟩ := hI.maps i kt et es blk k1 hm
    have hlt := hI.lt (.inr (.inl ⟨kt, et, es, k1, hm⟩))
    refine ⟨en, clock, (hb.block blk hlt).trans hc, hs, fun i' k v hi' => ?_⟩
    obtain ⟨e, he, r1, r2, r3, r4⟩ := hre i' k v hi'
    exact ⟨e, he, r1.mono hle, r2.mono hle, r3, r4⟩
  · intro i blk e tot k1 k2
    have hlt := hI.lt (.inr (.inr ⟨k1, e, tot, k2⟩))
    obtain ⟨⟨c, T, hc, hs⟩, hn⟩ := hI.toks i blk e tot k1 k2
    exact ⟨⟨c, T, (hb.block blk hlt).trans hc, hs⟩, fun o ho => (hno blk o hlt).trans (hn o ho)⟩
  · intro blk T k
    obtain ⟨c, fr, hc⟩ := hI.ety blk T k
    exact ⟨c, fr, (hb.block blk (Array.getElem?_eq_some_iff.1 hc).1).trans hc⟩
  · intro b o v hlt k
    rw [hno b o (Nat.lt_of_lt_of_le hlt hI.base)] at k
    exact hI.old b o v hlt k

end
end Go.Abs

namespace Go.Abs

def CallLe (c d : Call1) : Prop := ∀ f args st r, c f args st = some r → d f args st = some r

theorem loud_mono {E : Env} {c d : Call1} (hc : CallLe c d) {pol : Nat} {tm : TM} {st : St} {o : Oper} {r : AV × St} (h : loud E c pol tm st o = some r) : loud E d pol tm st o = some r := by
  obtain ⟨dst, op, ty, pos, after, guard⟩ := o
  cases op <;> simp only [loud] at h ⊢ <;> (try exact h)
  case makeMap t x => cases x <;> exact h
  case call cl =>
    obtain ⟨callee, args, tys⟩ := cl
    cases callee with
    | builtin b => cases b <;> exact h
    | invoke rv m => exact h
    | value f =>
      dsimp only at h ⊢
      split at h
      · rename_i g first cap he
        exact hc _ _ _ _ h
      · cases h
theorem stepOp_mono {E : Env} {c d : Call1} (hc : CallLe c d) {pol : Nat} {tm : TM} {st : St} {o : Oper} {r : AV × St} (h : stepOp E c pol tm st o = some r) : stepOp E d pol tm st o = some r := by
  unfold stepOp at h ⊢
  split at h
  · rename_i hl
    rw [if_pos hl]
    split at h
    · rename_i v st' hs
      rw [loud_mono hc hs]
      exact h
    · cases h
  · rename_i hl
    rw [if_neg hl]; exact h
theorem stepPre_mono {E : Env} {c d : Call1} (hc : CallLe c d) {pre : Pre} {pol i : Nat} {tm : TM} {st : St} {o : Oper} {r : AV × St} (h : stepPre E c pre pol i tm st o = some r) : stepPre E d pre pol i tm st o = some r := by
  unfold stepPre at h ⊢
  split at h
  · exact h
  · exact h
  · exact h
  · exact stepOp_mono hc h
theorem runOps_mono {E : Env} {c d : Call1} (hc : CallLe c d) {pre : Pre} {pol : Nat → Nat} {ops : Array Oper} : ∀ (l : List Oper) (i : Nat) (tm : TM) (st : St) {r : TM × St}, runOps E c pre pol ops l i tm st = some r → runOps E d pre pol ops l i tm st = some r
  | [], _, _, _, _, h => h
  | o :: l, i, tm, st, r, h => by
    simp only [runOps] at h ⊢
    split at h
    · split at h
      · rename_i v st' hs
        rw [stepPre_mono hc hs]
        exact runOps_mono hc l (i + 1) _ _ h
      · cases h
    · exact runOps_mono hc l (i + 1) _ _ h
    · cases h
theorem runOpsT_mono {E : Env} {c d : Call1} (hc : CallLe c d) {pre : Pre} {pol : Nat → Nat} {ops : Array Oper} : ∀ (l : List Oper) (i : Nat) (tm : TM) (st : St) {r : List Tr × TM × St}, runOpsT E c pre pol ops l i tm st = some r → runOpsT E d pre pol ops l i tm st = some r
  | [], _, _, _, _, h => h
  | o :: l, i, tm, st, r, h => by
    simp only [runOpsT] at h ⊢
    split at h
    · split at h
      · rename_i v st' hs
        rw [stepPre_mono hc hs]
        split at h
        · rename_i l' q hl
          simp only [runOpsT_mono hc l (i + 1) _ _ hl]
          exact h
        · cases h
      · cases h
    · split at h
      · rename_i l' q hl
        simp only [runOpsT_mono hc l (i + 1) _ _ hl]
        exact h
      · cases h
    · cases h
theorem execReg_mono {E : Env} {c d : Call1} (hc : CallLe c d) {pol : Nat → Nat} {dy : List (Nat × Nat)} {mk : Bool} {ops : Array Oper} {draw : Bool} {tm : TM} {st : St} {r : TM × St} (h : execReg E c pol dy mk ops draw tm st = some r) : execReg E d pol dy mk ops draw tm st = some r := by
  unfold execReg at h ⊢
  split at h
  · rename_i hd
    rw [if_pos hd]
    split at h
    · cases h
    · rename_i objs hp
      cases mk with
      | true =>
        dsimp only at h ⊢
        split at h
        · rename_i l1 q1 hl1
          rw [runOpsT_mono hc _ _ _ _ hl1]
          dsimp only at h ⊢
          split at h
          · rename_i l q hl
            rw [runOpsT_mono hc _ _ _ _ hl]
            exact h
          · cases h
        · cases h
      | false =>
        dsimp only at h ⊢
        split at h
        · exact runOps_mono hc _ _ _ _ h
        · split at h
          · rename_i l q hl
            rw [runOpsT_mono hc _ _ _ _ hl]
            exact h
          · cases h
  · rename_i hd
    rw [if_neg hd]
    exact runOps_mono hc _ _ _ _ h
theorem exec_mono {E : Env} {c d : Call1} (hc : CallLe c d) {fid : Nat} : ∀ (n m : Nat) (k : Code) (tm : TM) (st : St) {r : AExit × TM × St}, n ≤ m → exec E c fid n k tm st = some r → exec E d fid m k tm st = some r
  | 0, _, _, _, _, _, _, h => by simp [exec] at h
  | n + 1, 0, _, _, _, _, hm, _ => by omega
  | n + 1, m + 1, k, tm, st, r, hm, h => by
    have ih : ∀ (k : Code) (tm : TM) (st : St) {r : AExit × TM × St}, exec E c fid n k tm st = some r → exec E d fid m k tm st = some r := fun k tm st _ h => exec_mono hc n m k tm st (by omega) h
    cases k with
    | region id ops draw =>
      simp only [exec] at h ⊢
      split at h
      · rename_i tm' st' hr
        rw [execReg_mono hc hr]; exact h
      · cases h
    | seq a b =>
      simp only [exec] at h ⊢
      split at h
      · rename_i tm' st' ha
        rw [ih a _ _ ha]; exact ih b _ _ h
      · rename_i x hx
        rw [ih a _ _ h]
        obtain ⟨e, tm', st'⟩ := r
        cases e with
        | normal => exact absurd h (hx _ _)
        | exit i => rfl
        | ret => rfl
    | cond x a b =>
      simp only [exec] at h ⊢
      split at h
      · exact ih a _ _ h
      · exact ih b _ _ h
      · cases h
    | block id a =>
      simp only [exec] at h ⊢
      split at h
      · rename_i i tm' st' ha
        rw [ih a _ _ ha]; exact h
      · rename_i x hx
        rw [ih a _ _ h]
        obtain ⟨e, tm', st'⟩ := r
        cases e with
        | normal => rfl
        | exit i => exact absurd h (hx _ _ _)
        | ret => rfl
    | loop a =>
      simp only [exec] at h ⊢
      split at h
      · rename_i tm' st' ha
        rw [ih a _ _ ha]; exact ih (.loop a) _ _ h
      · rename_i x hx
        rw [ih a _ _ h]
        obtain ⟨e, tm', st'⟩ := r
        cases e with
        | normal => exact absurd h (hx _ _)
        | exit i => rfl
        | ret => rfl
    | skip => exact h
    | ret => exact h
    | exit id => exact h
    | _ => simp [exec] at h
theorem callF_mono {E : Env} : ∀ (n m : Nat), n ≤ m → CallLe (callF E n) (callF E m)
  | 0, _, _ => fun _ _ _ _ h => by simp [callF] at h
  | n + 1, 0, h => by omega
  | n + 1, m + 1, hm => fun f args st r h => by
    simp only [callF] at h ⊢
    split at h
    · exact h
    · split at h
      · cases h
      · rename_i fn hf
        split at h
        · rename_i tm' st' hx
          rw [exec_mono (callF_mono n m (by omega)) n m _ _ _ (by omega) hx]; exact h
        · rename_i tm' st' hx
          rw [exec_mono (callF_mono n m (by omega)) n m _ _ _ (by omega) hx]; exact h
        · cases h
end Go.Abs
