/- Own text of this claim: part 6 of an interpreter that is proved sound against the model, and of what it shows of the law. -/
import Derived.KernelRfl
import Derived.Test.YthomnnnhkfjbdaaGreatProg
import Derived.Test.YthomnnnhkfjbdaaGreatAbs5
/- The tables of the program, for the interpreter. -/
namespace Go.OptEnv
open Go Go.Proofs Go.Abs

theorem info_of {t : TypeId} {i : TypeInfo} (h : Tryz.prog.types[t]? = some i) : Tryz.prog.info? t = some i := by
  have hs : t < Tryz.prog.types.size := (Array.getElem?_eq_some_iff.1 h).1
  unfold Tables.info?
  rw [if_pos hs, h]
def ty1 : Ty := { d := .func, size := 1, bytes := 8, agg := false, zero := [.nilfn], fs := [], eqOk := false }
theorem ty1_ok : TyOk Tryz.prog 1 ty1 := .of_tyOf (by
  have h1 : Tryz.prog.underlying 1 = _ := Tryz.underlying1
  have h2 : Tryz.prog.info? 1 = some Tryz.t1 := info_of Tryz.type1
  unfold tyOf; rw [h1, h2]; rfl) (by intro h; cases h)
def ty2 : Ty := { d := .int .i64, size := 1, bytes := 8, agg := false, zero := [.int .i64 0], fs := [], eqOk := false }
theorem ty2_ok : TyOk Tryz.prog 2 ty2 := .of_tyOf (by
  have h1 : Tryz.prog.underlying 2 = _ := Tryz.underlying2
  have h2 : Tryz.prog.info? 2 = some Tryz.t2 := info_of Tryz.type2
  unfold tyOf; rw [h1, h2]; rfl) (by intro h; cases h)
def ty3 : Ty := { d := .int .i64, size := 1, bytes := 8, agg := false, zero := [.int .i64 0], fs := [], eqOk := false }
theorem ty3_ok : TyOk Tryz.prog 3 ty3 := .of_tyOf (by
  have h1 : Tryz.prog.underlying 3 = _ := Tryz.underlying3
  have h2 : Tryz.prog.info? 3 = some Tryz.t3 := info_of Tryz.type3
  unfold tyOf; rw [h1, h2]; rfl) (by intro h; cases h)
def ty4 : Ty := { d := .bool, size := 1, bytes := 1, agg := false, zero := [.bool false], fs := [], eqOk := false }
theorem ty4_ok : TyOk Tryz.prog 4 ty4 := .of_tyOf (by
  have h1 : Tryz.prog.underlying 4 = _ := Tryz.underlying4
  have h2 : Tryz.prog.info? 4 = some Tryz.t4 := info_of Tryz.type4
  unfold tyOf; rw [h1, h2]; rfl) (by intro h; cases h)
def ty5 : Ty := { d := .int .u8, size := 1, bytes := 1, agg := false, zero := [.int .u8 0], fs := [], eqOk := false }
theorem ty5_ok : TyOk Tryz.prog 5 ty5 := .of_tyOf (by
  have h1 : Tryz.prog.underlying 5 = _ := Tryz.underlying5
  have h2 : Tryz.prog.info? 5 = some Tryz.t5 := info_of Tryz.type5
  unfold tyOf; rw [h1, h2]; rfl) (by intro h; cases h)
def ty6 : Ty := { d := .int .u8, size := 1, bytes := 1, agg := false, zero := [.int .u8 0], fs := [], eqOk := false }
theorem ty6_ok : TyOk Tryz.prog 6 ty6 := .of_tyOf (by
  have h1 : Tryz.prog.underlying 6 = _ := Tryz.underlying6
  have h2 : Tryz.prog.info? 6 = some Tryz.t6 := info_of Tryz.type6
  unfold tyOf; rw [h1, h2]; rfl) (by intro h; cases h)
def ty7 : Ty := { d := .struct, size := 4, bytes := 24, agg := true, zero := [.int .i64 0, .int .i64 0, .bool false, .int .u8 0], fs := [(2, 0), (3, 1), (4, 2), (6, 3)], eqOk := true }
theorem ty7_ok : TyOk Tryz.prog 7 ty7 := .of_tyOf (by
  have h1 : Tryz.prog.underlying 7 = _ := Tryz.underlying7
  have h2 : Tryz.prog.info? 7 = some Tryz.t7 := info_of Tryz.type7
  unfold tyOf; rw [h1, h2]; rfl) (by intro _; simp only [eqFine, Tryz.eqGuardType7, Tryz.underlying7, Tryz.stoodInHeld7]; rfl)
def ty8 : Ty := { d := .struct, size := 4, bytes := 24, agg := true, zero := [.int .i64 0, .int .i64 0, .bool false, .int .u8 0], fs := [(2, 0), (3, 1), (4, 2), (6, 3)], eqOk := true }
theorem ty8_ok : TyOk Tryz.prog 8 ty8 := .of_tyOf (by
  have h1 : Tryz.prog.underlying 8 = _ := Tryz.underlying8
  have h2 : Tryz.prog.info? 8 = some Tryz.t8 := info_of Tryz.type8
  unfold tyOf; rw [h1, h2]; rfl) (by intro _; simp only [eqFine, Tryz.eqGuardType8, Tryz.underlying8, Tryz.stoodInHeld8]; rfl)
def ty9 : Ty := { d := .string, size := 1, bytes := 16, agg := false, zero := [.str ⟨#[]⟩], fs := [], eqOk := false }
theorem ty9_ok : TyOk Tryz.prog 9 ty9 := .of_tyOf (by
  have h1 : Tryz.prog.underlying 9 = _ := Tryz.underlying9
  have h2 : Tryz.prog.info? 9 = some Tryz.t9 := info_of Tryz.type9
  unfold tyOf; rw [h1, h2]; rfl) (by intro h; cases h)
def ty10 : Ty := { d := .string, size := 1, bytes := 16, agg := false, zero := [.str ⟨#[]⟩], fs := [], eqOk := false }
theorem ty10_ok : TyOk Tryz.prog 10 ty10 := .of_tyOf (by
  have h1 : Tryz.prog.underlying 10 = _ := Tryz.underlying10
  have h2 : Tryz.prog.info? 10 = some Tryz.t10 := info_of Tryz.type10
  unfold tyOf; rw [h1, h2]; rfl) (by intro h; cases h)
def ty11 : Ty := { d := .string, size := 1, bytes := 16, agg := false, zero := [.str ⟨#[]⟩], fs := [], eqOk := false }
theorem ty11_ok : TyOk Tryz.prog 11 ty11 := .of_tyOf (by
  have h1 : Tryz.prog.underlying 11 = _ := Tryz.underlying11
  have h2 : Tryz.prog.info? 11 = some Tryz.t11 := info_of Tryz.type11
  unfold tyOf; rw [h1, h2]; rfl) (by intro h; cases h)
def ty12 : Ty := { d := .int .u64, size := 1, bytes := 8, agg := false, zero := [.int .u64 0], fs := [], eqOk := false }
theorem ty12_ok : TyOk Tryz.prog 12 ty12 := .of_tyOf (by
  have h1 : Tryz.prog.underlying 12 = _ := Tryz.underlying12
  have h2 : Tryz.prog.info? 12 = some Tryz.t12 := info_of Tryz.type12
  unfold tyOf; rw [h1, h2]; rfl) (by intro h; cases h)
def ty13 : Ty := { d := .struct, size := 2, bytes := 24, agg := true, zero := [.str ⟨#[]⟩, .int .u64 0], fs := [(9, 0), (12, 1)], eqOk := false }
theorem ty13_ok : TyOk Tryz.prog 13 ty13 := .of_tyOf (by
  have h1 : Tryz.prog.underlying 13 = _ := Tryz.underlying13
  have h2 : Tryz.prog.info? 13 = some Tryz.t13 := info_of Tryz.type13
  unfold tyOf; rw [h1, h2]; rfl) (by intro h; cases h)
def ty14 : Ty := { d := .struct, size := 2, bytes := 24, agg := true, zero := [.str ⟨#[]⟩, .int .u64 0], fs := [(9, 0), (12, 1)], eqOk := false }
theorem ty14_ok : TyOk Tryz.prog 14 ty14 := .of_tyOf (by
  have h1 : Tryz.prog.underlying 14 = _ := Tryz.underlying14
  have h2 : Tryz.prog.info? 14 = some Tryz.t14 := info_of Tryz.type14
  unfold tyOf; rw [h1, h2]; rfl) (by intro h; cases h)
def ty15 : Ty := { d := .pointer 217, size := 1, bytes := 8, agg := false, zero := [.nilptr], fs := [], eqOk := false }
theorem ty15_ok : TyOk Tryz.prog 15 ty15 := .of_tyOf (by
  have h1 : Tryz.prog.underlying 15 = _ := Tryz.underlying15
  have h2 : Tryz.prog.info? 15 = some Tryz.t15 := info_of Tryz.type15
  unfold tyOf; rw [h1, h2]; rfl) (by intro h; cases h)
def ty16 : Ty := { d := .pointer 220, size := 1, bytes := 8, agg := false, zero := [.nilptr], fs := [], eqOk := false }
theorem ty16_ok : TyOk Tryz.prog 16 ty16 := .of_tyOf (by
  have h1 : Tryz.prog.underlying 16 = _ := Tryz.underlying16
  have h2 : Tryz.prog.info? 16 = some Tryz.t16 := info_of Tryz.type16
  unfold tyOf; rw [h1, h2]; rfl) (by intro h; cases h)
def ty17 : Ty := { d := .pointer 228, size := 1, bytes := 8, agg := false, zero := [.nilptr], fs := [], eqOk := false }
theorem ty17_ok : TyOk Tryz.prog 17 ty17 := .of_tyOf (by
  have h1 : Tryz.prog.underlying 17 = _ := Tryz.underlying17
  have h2 : Tryz.prog.info? 17 = some Tryz.t17 := info_of Tryz.type17
  unfold tyOf; rw [h1, h2]; rfl) (by intro h; cases h)
def ty18 : Ty := { d := .struct, size := 1, bytes := 8, agg := true, zero := [.nilptr], fs := [(17, 0)], eqOk := false }
theorem ty18_ok : TyOk Tryz.prog 18 ty18 := .of_tyOf (by
  have h1 : Tryz.prog.underlying 18 = _ := Tryz.underlying18
  have h2 : Tryz.prog.info? 18 = some Tryz.t18 := info_of Tryz.type18
  unfold tyOf; rw [h1, h2]; rfl) (by intro h; cases h)
def ty19 : Ty := { d := .struct, size := 1, bytes := 8, agg := true, zero := [.nilptr], fs := [(17, 0)], eqOk := false }
theorem ty19_ok : TyOk Tryz.prog 19 ty19 := .of_tyOf (by
  have h1 : Tryz.prog.underlying 19 = _ := Tryz.underlying19
  have h2 : Tryz.prog.info? 19 = some Tryz.t19 := info_of Tryz.type19
  unfold tyOf; rw [h1, h2]; rfl) (by intro h; cases h)
def ty20 : Ty := { d := .iface, size := 1, bytes := 16, agg := false, zero := [.nilif], fs := [], eqOk := false }
theorem ty20_ok : TyOk Tryz.prog 20 ty20 := .of_tyOf (by
  have h1 : Tryz.prog.underlying 20 = _ := Tryz.underlying20
  have h2 : Tryz.prog.info? 20 = some Tryz.t20 := info_of Tryz.type20
  unfold tyOf; rw [h1, h2]; rfl) (by intro h; cases h)
def ty21 : Ty := { d := .int .i32, size := 1, bytes := 4, agg := false, zero := [.int .i32 0], fs := [], eqOk := false }
theorem ty21_ok : TyOk Tryz.prog 21 ty21 := .of_tyOf (by
  have h1 : Tryz.prog.underlying 21 = _ := Tryz.underlying21
  have h2 : Tryz.prog.info? 21 = some Tryz.t21 := info_of Tryz.type21
  unfold tyOf; rw [h1, h2]; rfl) (by intro h; cases h)
def ty22 : Ty := { d := .slice 9, size := 1, bytes := 24, agg := false, zero := [.nilsl], fs := [], eqOk := false }
theorem ty22_ok : TyOk Tryz.prog 22 ty22 := .of_tyOf (by
  have h1 : Tryz.prog.underlying 22 = _ := Tryz.underlying22
  have h2 : Tryz.prog.info? 22 = some Tryz.t22 := info_of Tryz.type22
  unfold tyOf; rw [h1, h2]; rfl) (by intro h; cases h)
def ty23 : Ty := { d := .slice 68, size := 1, bytes := 24, agg := false, zero := [.nilsl], fs := [], eqOk := false }
theorem ty23_ok : TyOk Tryz.prog 23 ty23 := .of_tyOf (by
  have h1 : Tryz.prog.underlying 23 = _ := Tryz.underlying23
  have h2 : Tryz.prog.info? 23 = some Tryz.t23 := info_of Tryz.type23
  unfold tyOf; rw [h1, h2]; rfl) (by intro h; cases h)
def ty24 : Ty := { d := .slice 53, size := 1, bytes := 24, agg := false, zero := [.nilsl], fs := [], eqOk := false }
theorem ty24_ok : TyOk Tryz.prog 24 ty24 := .of_tyOf (by
  have h1 : Tryz.prog.underlying 24 = _ := Tryz.underlying24
  have h2 : Tryz.prog.info? 24 = some Tryz.t24 := info_of Tryz.type24
  unfold tyOf; rw [h1, h2]; rfl) (by intro h; cases h)
def ty25 : Ty := { d := .slice 55, size := 1, bytes := 24, agg := false, zero := [.nilsl], fs := [], eqOk := false }
theorem ty25_ok : TyOk Tryz.prog 25 ty25 := .of_tyOf (by
  have h1 : Tryz.prog.underlying 25 = _ := Tryz.underlying25
  have h2 : Tryz.prog.info? 25 = some Tryz.t25 := info_of Tryz.type25
  unfold tyOf; rw [h1, h2]; rfl) (by intro h; cases h)
def ty26 : Ty := { d := .struct, size := 4, bytes := 96, agg := true, zero := [.nilsl, .nilsl, .nilsl, .nilsl], fs := [(22, 0), (23, 1), (24, 2), (25, 3)], eqOk := true }
theorem ty26_ok : TyOk Tryz.prog 26 ty26 := .of_tyOf (by
  have h1 : Tryz.prog.underlying 26 = _ := Tryz.underlying26
  have h2 : Tryz.prog.info? 26 = some Tryz.t26 := info_of Tryz.type26
  unfold tyOf; rw [h1, h2]; rfl) (by intro _; simp only [eqFine, Tryz.eqGuardType26, Tryz.underlying26, Tryz.stoodInHeld26]; rfl)
def ty27 : Ty := { d := .struct, size := 4, bytes := 96, agg := true, zero := [.nilsl, .nilsl, .nilsl, .nilsl], fs := [(22, 0), (23, 1), (24, 2), (25, 3)], eqOk := true }
theorem ty27_ok : TyOk Tryz.prog 27 ty27 := .of_tyOf (by
  have h1 : Tryz.prog.underlying 27 = _ := Tryz.underlying27
  have h2 : Tryz.prog.info? 27 = some Tryz.t27 := info_of Tryz.type27
  unfold tyOf; rw [h1, h2]; rfl) (by intro _; simp only [eqFine, Tryz.eqGuardType27, Tryz.underlying27, Tryz.stoodInHeld27]; rfl)
def ty28 : Ty := { d := .func, size := 1, bytes := 8, agg := false, zero := [.nilfn], fs := [], eqOk := false }
theorem ty28_ok : TyOk Tryz.prog 28 ty28 := .of_tyOf (by
  have h1 : Tryz.prog.underlying 28 = _ := Tryz.underlying28
  have h2 : Tryz.prog.info? 28 = some Tryz.t28 := info_of Tryz.type28
  unfold tyOf; rw [h1, h2]; rfl) (by intro h; cases h)
def ty29 : Ty := { d := .func, size := 1, bytes := 8, agg := false, zero := [.nilfn], fs := [], eqOk := false }
theorem ty29_ok : TyOk Tryz.prog 29 ty29 := .of_tyOf (by
  have h1 : Tryz.prog.underlying 29 = _ := Tryz.underlying29
  have h2 : Tryz.prog.info? 29 = some Tryz.t29 := info_of Tryz.type29
  unfold tyOf; rw [h1, h2]; rfl) (by intro h; cases h)
def ty30 : Ty := { d := .int .i64, size := 1, bytes := 8, agg := false, zero := [.int .i64 0], fs := [], eqOk := false }
theorem ty30_ok : TyOk Tryz.prog 30 ty30 := .of_tyOf (by
  have h1 : Tryz.prog.underlying 30 = _ := Tryz.underlying30
  have h2 : Tryz.prog.info? 30 = some Tryz.t30 := info_of Tryz.type30
  unfold tyOf; rw [h1, h2]; rfl) (by intro h; cases h)
def ty32 : Ty := { d := .func, size := 1, bytes := 8, agg := false, zero := [.nilfn], fs := [], eqOk := false }
theorem ty32_ok : TyOk Tryz.prog 32 ty32 := .of_tyOf (by
  have h1 : Tryz.prog.underlying 32 = _ := Tryz.underlying32
  have h2 : Tryz.prog.info? 32 = some Tryz.t32 := info_of Tryz.type32
  unfold tyOf; rw [h1, h2]; rfl) (by intro h; cases h)
def ty33 : Ty := { d := .func, size := 1, bytes := 8, agg := false, zero := [.nilfn], fs := [], eqOk := false }
theorem ty33_ok : TyOk Tryz.prog 33 ty33 := .of_tyOf (by
  have h1 : Tryz.prog.underlying 33 = _ := Tryz.underlying33
  have h2 : Tryz.prog.info? 33 = some Tryz.t33 := info_of Tryz.type33
  unfold tyOf; rw [h1, h2]; rfl) (by intro h; cases h)
def ty34 : Ty := { d := .slice 63, size := 1, bytes := 24, agg := false, zero := [.nilsl], fs := [], eqOk := false }
theorem ty34_ok : TyOk Tryz.prog 34 ty34 := .of_tyOf (by
  have h1 : Tryz.prog.underlying 34 = _ := Tryz.underlying34
  have h2 : Tryz.prog.info? 34 = some Tryz.t34 := info_of Tryz.type34
  unfold tyOf; rw [h1, h2]; rfl) (by intro h; cases h)
def ty36 : Ty := { d := .func, size := 1, bytes := 8, agg := false, zero := [.nilfn], fs := [], eqOk := false }
theorem ty36_ok : TyOk Tryz.prog 36 ty36 := .of_tyOf (by
  have h1 : Tryz.prog.underlying 36 = _ := Tryz.underlying36
  have h2 : Tryz.prog.info? 36 = some Tryz.t36 := info_of Tryz.type36
  unfold tyOf; rw [h1, h2]; rfl) (by intro h; cases h)
def ty37 : Ty := { d := .func, size := 1, bytes := 8, agg := false, zero := [.nilfn], fs := [], eqOk := false }
theorem ty37_ok : TyOk Tryz.prog 37 ty37 := .of_tyOf (by
  have h1 : Tryz.prog.underlying 37 = _ := Tryz.underlying37
  have h2 : Tryz.prog.info? 37 = some Tryz.t37 := info_of Tryz.type37
  unfold tyOf; rw [h1, h2]; rfl) (by intro h; cases h)
def ty38 : Ty := { d := .slice 3, size := 1, bytes := 24, agg := false, zero := [.nilsl], fs := [], eqOk := false }
theorem ty38_ok : TyOk Tryz.prog 38 ty38 := .of_tyOf (by
  have h1 : Tryz.prog.underlying 38 = _ := Tryz.underlying38
  have h2 : Tryz.prog.info? 38 = some Tryz.t38 := info_of Tryz.type38
  unfold tyOf; rw [h1, h2]; rfl) (by intro h; cases h)
def ty40 : Ty := { d := .func, size := 1, bytes := 8, agg := false, zero := [.nilfn], fs := [], eqOk := false }
theorem ty40_ok : TyOk Tryz.prog 40 ty40 := .of_tyOf (by
  have h1 : Tryz.prog.underlying 40 = _ := Tryz.underlying40
  have h2 : Tryz.prog.info? 40 = some Tryz.t40 := info_of Tryz.type40
  unfold tyOf; rw [h1, h2]; rfl) (by intro h; cases h)
def ty41 : Ty := { d := .slice 5, size := 1, bytes := 24, agg := false, zero := [.nilsl], fs := [], eqOk := false }
theorem ty41_ok : TyOk Tryz.prog 41 ty41 := .of_tyOf (by
  have h1 : Tryz.prog.underlying 41 = _ := Tryz.underlying41
  have h2 : Tryz.prog.info? 41 = some Tryz.t41 := info_of Tryz.type41
  unfold tyOf; rw [h1, h2]; rfl) (by intro h; cases h)
def ty42 : Ty := { d := .array 2 41, size := 2, bytes := 48, agg := true, zero := [.nilsl, .nilsl], fs := [], eqOk := true }
theorem ty42_ok : TyOk Tryz.prog 42 ty42 := .of_tyOf (by
  have h1 : Tryz.prog.underlying 42 = _ := Tryz.underlying42
  have h2 : Tryz.prog.info? 42 = some Tryz.t42 := info_of Tryz.type42
  unfold tyOf; rw [h1, h2]; rfl) (by intro _; simp only [eqFine, Tryz.eqGuardType42, Tryz.underlying42]; rfl)
def ty43 : Ty := { d := .slice 34, size := 1, bytes := 24, agg := false, zero := [.nilsl], fs := [], eqOk := false }
theorem ty43_ok : TyOk Tryz.prog 43 ty43 := .of_tyOf (by
  have h1 : Tryz.prog.underlying 43 = _ := Tryz.underlying43
  have h2 : Tryz.prog.info? 43 = some Tryz.t43 := info_of Tryz.type43
  unfold tyOf; rw [h1, h2]; rfl) (by intro h; cases h)
def ty44 : Ty := { d := .func, size := 1, bytes := 8, agg := false, zero := [.nilfn], fs := [], eqOk := false }
theorem ty44_ok : TyOk Tryz.prog 44 ty44 := .of_tyOf (by
  have h1 : Tryz.prog.underlying 44 = _ := Tryz.underlying44
  have h2 : Tryz.prog.info? 44 = some Tryz.t44 := info_of Tryz.type44
  unfold tyOf; rw [h1, h2]; rfl) (by intro h; cases h)
def ty45 : Ty := { d := .func, size := 1, bytes := 8, agg := false, zero := [.nilfn], fs := [], eqOk := false }
theorem ty45_ok : TyOk Tryz.prog 45 ty45 := .of_tyOf (by
  have h1 : Tryz.prog.underlying 45 = _ := Tryz.underlying45
  have h2 : Tryz.prog.info? 45 = some Tryz.t45 := info_of Tryz.type45
  unfold tyOf; rw [h1, h2]; rfl) (by intro h; cases h)
def ty46 : Ty := { d := .slice 27, size := 1, bytes := 24, agg := false, zero := [.nilsl], fs := [], eqOk := false }
theorem ty46_ok : TyOk Tryz.prog 46 ty46 := .of_tyOf (by
  have h1 : Tryz.prog.underlying 46 = _ := Tryz.underlying46
  have h2 : Tryz.prog.info? 46 = some Tryz.t46 := info_of Tryz.type46
  unfold tyOf; rw [h1, h2]; rfl) (by intro h; cases h)
def ty47 : Ty := { d := .slice 30, size := 1, bytes := 24, agg := false, zero := [.nilsl], fs := [], eqOk := false }
theorem ty47_ok : TyOk Tryz.prog 47 ty47 := .of_tyOf (by
  have h1 : Tryz.prog.underlying 47 = _ := Tryz.underlying47
  have h2 : Tryz.prog.info? 47 = some Tryz.t47 := info_of Tryz.type47
  unfold tyOf; rw [h1, h2]; rfl) (by intro h; cases h)
def ty49 : Ty := { d := .func, size := 1, bytes := 8, agg := false, zero := [.nilfn], fs := [], eqOk := false }
theorem ty49_ok : TyOk Tryz.prog 49 ty49 := .of_tyOf (by
  have h1 : Tryz.prog.underlying 49 = _ := Tryz.underlying49
  have h2 : Tryz.prog.info? 49 = some Tryz.t49 := info_of Tryz.type49
  unfold tyOf; rw [h1, h2]; rfl) (by intro h; cases h)
def ty50 : Ty := { d := .func, size := 1, bytes := 8, agg := false, zero := [.nilfn], fs := [], eqOk := false }
theorem ty50_ok : TyOk Tryz.prog 50 ty50 := .of_tyOf (by
  have h1 : Tryz.prog.underlying 50 = _ := Tryz.underlying50
  have h2 : Tryz.prog.info? 50 = some Tryz.t50 := info_of Tryz.type50
  unfold tyOf; rw [h1, h2]; rfl) (by intro h; cases h)
def ty51 : Ty := { d := .func, size := 1, bytes := 8, agg := false, zero := [.nilfn], fs := [], eqOk := false }
theorem ty51_ok : TyOk Tryz.prog 51 ty51 := .of_tyOf (by
  have h1 : Tryz.prog.underlying 51 = _ := Tryz.underlying51
  have h2 : Tryz.prog.info? 51 = some Tryz.t51 := info_of Tryz.type51
  unfold tyOf; rw [h1, h2]; rfl) (by intro h; cases h)
def ty52 : Ty := { d := .func, size := 1, bytes := 8, agg := false, zero := [.nilfn], fs := [], eqOk := false }
theorem ty52_ok : TyOk Tryz.prog 52 ty52 := .of_tyOf (by
  have h1 : Tryz.prog.underlying 52 = _ := Tryz.underlying52
  have h2 : Tryz.prog.info? 52 = some Tryz.t52 := info_of Tryz.type52
  unfold tyOf; rw [h1, h2]; rfl) (by intro h; cases h)
def ty53 : Ty := { d := .array 2 3, size := 2, bytes := 16, agg := true, zero := [.int .i64 0, .int .i64 0], fs := [], eqOk := true }
theorem ty53_ok : TyOk Tryz.prog 53 ty53 := .of_tyOf (by
  have h1 : Tryz.prog.underlying 53 = _ := Tryz.underlying53
  have h2 : Tryz.prog.info? 53 = some Tryz.t53 := info_of Tryz.type53
  unfold tyOf; rw [h1, h2]; rfl) (by intro _; simp only [eqFine, Tryz.eqGuardType53, Tryz.underlying53]; rfl)
def ty54 : Ty := { d := .struct, size := 2, bytes := 24, agg := true, zero := [.str ⟨#[]⟩, .int .i64 0], fs := [(9, 0), (3, 1)], eqOk := true }
theorem ty54_ok : TyOk Tryz.prog 54 ty54 := .of_tyOf (by
  have h1 : Tryz.prog.underlying 54 = _ := Tryz.underlying54
  have h2 : Tryz.prog.info? 54 = some Tryz.t54 := info_of Tryz.type54
  unfold tyOf; rw [h1, h2]; rfl) (by intro _; simp only [eqFine, Tryz.eqGuardType54, Tryz.underlying54, Tryz.stoodInHeld54]; rfl)
def ty55 : Ty := { d := .struct, size := 2, bytes := 24, agg := true, zero := [.str ⟨#[]⟩, .int .i64 0], fs := [(9, 0), (3, 1)], eqOk := true }
theorem ty55_ok : TyOk Tryz.prog 55 ty55 := .of_tyOf (by
  have h1 : Tryz.prog.underlying 55 = _ := Tryz.underlying55
  have h2 : Tryz.prog.info? 55 = some Tryz.t55 := info_of Tryz.type55
  unfold tyOf; rw [h1, h2]; rfl) (by intro _; simp only [eqFine, Tryz.eqGuardType55, Tryz.underlying55, Tryz.stoodInHeld55]; rfl)
def ty56 : Ty := { d := .func, size := 1, bytes := 8, agg := false, zero := [.nilfn], fs := [], eqOk := false }
theorem ty56_ok : TyOk Tryz.prog 56 ty56 := .of_tyOf (by
  have h1 : Tryz.prog.underlying 56 = _ := Tryz.underlying56
  have h2 : Tryz.prog.info? 56 = some Tryz.t56 := info_of Tryz.type56
  unfold tyOf; rw [h1, h2]; rfl) (by intro h; cases h)
def ty57 : Ty := { d := .map 9 4, size := 1, bytes := 8, agg := false, zero := [.nilmap], fs := [], eqOk := false }
theorem ty57_ok : TyOk Tryz.prog 57 ty57 := .of_tyOf (by
  have h1 : Tryz.prog.underlying 57 = _ := Tryz.underlying57
  have h2 : Tryz.prog.info? 57 = some Tryz.t57 := info_of Tryz.type57
  unfold tyOf; rw [h1, h2]; rfl) (by intro h; cases h)
def ty58 : Ty := { d := .func, size := 1, bytes := 8, agg := false, zero := [.nilfn], fs := [], eqOk := false }
theorem ty58_ok : TyOk Tryz.prog 58 ty58 := .of_tyOf (by
  have h1 : Tryz.prog.underlying 58 = _ := Tryz.underlying58
  have h2 : Tryz.prog.info? 58 = some Tryz.t58 := info_of Tryz.type58
  unfold tyOf; rw [h1, h2]; rfl) (by intro h; cases h)
def ty59 : Ty := { d := .func, size := 1, bytes := 8, agg := false, zero := [.nilfn], fs := [], eqOk := false }
theorem ty59_ok : TyOk Tryz.prog 59 ty59 := .of_tyOf (by
  have h1 : Tryz.prog.underlying 59 = _ := Tryz.underlying59
  have h2 : Tryz.prog.info? 59 = some Tryz.t59 := info_of Tryz.type59
  unfold tyOf; rw [h1, h2]; rfl) (by intro h; cases h)
def ty60 : Ty := { d := .slice 32, size := 1, bytes := 24, agg := false, zero := [.nilsl], fs := [], eqOk := false }
theorem ty60_ok : TyOk Tryz.prog 60 ty60 := .of_tyOf (by
  have h1 : Tryz.prog.underlying 60 = _ := Tryz.underlying60
  have h2 : Tryz.prog.info? 60 = some Tryz.t60 := info_of Tryz.type60
  unfold tyOf; rw [h1, h2]; rfl) (by intro h; cases h)
def ty61 : Ty := { d := .func, size := 1, bytes := 8, agg := false, zero := [.nilfn], fs := [], eqOk := false }
theorem ty61_ok : TyOk Tryz.prog 61 ty61 := .of_tyOf (by
  have h1 : Tryz.prog.underlying 61 = _ := Tryz.underlying61
  have h2 : Tryz.prog.info? 61 = some Tryz.t61 := info_of Tryz.type61
  unfold tyOf; rw [h1, h2]; rfl) (by intro h; cases h)
def ty62 : Ty := { d := .func, size := 1, bytes := 8, agg := false, zero := [.nilfn], fs := [], eqOk := false }
theorem ty62_ok : TyOk Tryz.prog 62 ty62 := .of_tyOf (by
  have h1 : Tryz.prog.underlying 62 = _ := Tryz.underlying62
  have h2 : Tryz.prog.info? 62 = some Tryz.t62 := info_of Tryz.type62
  unfold tyOf; rw [h1, h2]; rfl) (by intro h; cases h)
def ty63 : Ty := { d := .int .u8, size := 1, bytes := 1, agg := false, zero := [.int .u8 0], fs := [], eqOk := false }
theorem ty63_ok : TyOk Tryz.prog 63 ty63 := .of_tyOf (by
  have h1 : Tryz.prog.underlying 63 = _ := Tryz.underlying63
  have h2 : Tryz.prog.info? 63 = some Tryz.t63 := info_of Tryz.type63
  unfold tyOf; rw [h1, h2]; rfl) (by intro h; cases h)
def ty65 : Ty := { d := .func, size := 1, bytes := 8, agg := false, zero := [.nilfn], fs := [], eqOk := false }
theorem ty65_ok : TyOk Tryz.prog 65 ty65 := .of_tyOf (by
  have h1 : Tryz.prog.underlying 65 = _ := Tryz.underlying65
  have h2 : Tryz.prog.info? 65 = some Tryz.t65 := info_of Tryz.type65
  unfold tyOf; rw [h1, h2]; rfl) (by intro h; cases h)
def ty66 : Ty := { d := .func, size := 1, bytes := 8, agg := false, zero := [.nilfn], fs := [], eqOk := false }
theorem ty66_ok : TyOk Tryz.prog 66 ty66 := .of_tyOf (by
  have h1 : Tryz.prog.underlying 66 = _ := Tryz.underlying66
  have h2 : Tryz.prog.info? 66 = some Tryz.t66 := info_of Tryz.type66
  unfold tyOf; rw [h1, h2]; rfl) (by intro h; cases h)
def ty67 : Ty := { d := .struct, size := 3, bytes := 32, agg := true, zero := [.str ⟨#[]⟩, .int .u8 0, .int .i64 0], fs := [(9, 0), (63, 1), (3, 2)], eqOk := true }
theorem ty67_ok : TyOk Tryz.prog 67 ty67 := .of_tyOf (by
  have h1 : Tryz.prog.underlying 67 = _ := Tryz.underlying67
  have h2 : Tryz.prog.info? 67 = some Tryz.t67 := info_of Tryz.type67
  unfold tyOf; rw [h1, h2]; rfl) (by intro _; simp only [eqFine, Tryz.eqGuardType67, Tryz.underlying67, Tryz.stoodInHeld67]; rfl)
def ty68 : Ty := { d := .struct, size := 3, bytes := 32, agg := true, zero := [.str ⟨#[]⟩, .int .u8 0, .int .i64 0], fs := [(9, 0), (63, 1), (3, 2)], eqOk := true }
theorem ty68_ok : TyOk Tryz.prog 68 ty68 := .of_tyOf (by
  have h1 : Tryz.prog.underlying 68 = _ := Tryz.underlying68
  have h2 : Tryz.prog.info? 68 = some Tryz.t68 := info_of Tryz.type68
  unfold tyOf; rw [h1, h2]; rfl) (by intro _; simp only [eqFine, Tryz.eqGuardType68, Tryz.underlying68, Tryz.stoodInHeld68]; rfl)
def ty69 : Ty := { d := .slice 4, size := 1, bytes := 24, agg := false, zero := [.nilsl], fs := [], eqOk := false }
theorem ty69_ok : TyOk Tryz.prog 69 ty69 := .of_tyOf (by
  have h1 : Tryz.prog.underlying 69 = _ := Tryz.underlying69
  have h2 : Tryz.prog.info? 69 = some Tryz.t69 := info_of Tryz.type69
  unfold tyOf; rw [h1, h2]; rfl) (by intro h; cases h)
def ty70 : Ty := { d := .map 3 4, size := 1, bytes := 8, agg := false, zero := [.nilmap], fs := [], eqOk := false }
theorem ty70_ok : TyOk Tryz.prog 70 ty70 := .of_tyOf (by
  have h1 : Tryz.prog.underlying 70 = _ := Tryz.underlying70
  have h2 : Tryz.prog.info? 70 = some Tryz.t70 := info_of Tryz.type70
  unfold tyOf; rw [h1, h2]; rfl) (by intro h; cases h)
def ty71 : Ty := { d := .func, size := 1, bytes := 8, agg := false, zero := [.nilfn], fs := [], eqOk := false }
theorem ty71_ok : TyOk Tryz.prog 71 ty71 := .of_tyOf (by
  have h1 : Tryz.prog.underlying 71 = _ := Tryz.underlying71
  have h2 : Tryz.prog.info? 71 = some Tryz.t71 := info_of Tryz.type71
  unfold tyOf; rw [h1, h2]; rfl) (by intro h; cases h)
def ty72 : Ty := { d := .func, size := 1, bytes := 8, agg := false, zero := [.nilfn], fs := [], eqOk := false }
theorem ty72_ok : TyOk Tryz.prog 72 ty72 := .of_tyOf (by
  have h1 : Tryz.prog.underlying 72 = _ := Tryz.underlying72
  have h2 : Tryz.prog.info? 72 = some Tryz.t72 := info_of Tryz.type72
  unfold tyOf; rw [h1, h2]; rfl) (by intro h; cases h)
def ty73 : Ty := { d := .func, size := 1, bytes := 8, agg := false, zero := [.nilfn], fs := [], eqOk := false }
theorem ty73_ok : TyOk Tryz.prog 73 ty73 := .of_tyOf (by
  have h1 : Tryz.prog.underlying 73 = _ := Tryz.underlying73
  have h2 : Tryz.prog.info? 73 = some Tryz.t73 := info_of Tryz.type73
  unfold tyOf; rw [h1, h2]; rfl) (by intro h; cases h)
def ty74 : Ty := { d := .func, size := 1, bytes := 8, agg := false, zero := [.nilfn], fs := [], eqOk := false }
theorem ty74_ok : TyOk Tryz.prog 74 ty74 := .of_tyOf (by
  have h1 : Tryz.prog.underlying 74 = _ := Tryz.underlying74
  have h2 : Tryz.prog.info? 74 = some Tryz.t74 := info_of Tryz.type74
  unfold tyOf; rw [h1, h2]; rfl) (by intro h; cases h)
def ty75 : Ty := { d := .func, size := 1, bytes := 8, agg := false, zero := [.nilfn], fs := [], eqOk := false }
theorem ty75_ok : TyOk Tryz.prog 75 ty75 := .of_tyOf (by
  have h1 : Tryz.prog.underlying 75 = _ := Tryz.underlying75
  have h2 : Tryz.prog.info? 75 = some Tryz.t75 := info_of Tryz.type75
  unfold tyOf; rw [h1, h2]; rfl) (by intro h; cases h)
def ty76 : Ty := { d := .func, size := 1, bytes := 8, agg := false, zero := [.nilfn], fs := [], eqOk := false }
theorem ty76_ok : TyOk Tryz.prog 76 ty76 := .of_tyOf (by
  have h1 : Tryz.prog.underlying 76 = _ := Tryz.underlying76
  have h2 : Tryz.prog.info? 76 = some Tryz.t76 := info_of Tryz.type76
  unfold tyOf; rw [h1, h2]; rfl) (by intro h; cases h)
def ty77 : Ty := { d := .func, size := 1, bytes := 8, agg := false, zero := [.nilfn], fs := [], eqOk := false }
theorem ty77_ok : TyOk Tryz.prog 77 ty77 := .of_tyOf (by
  have h1 : Tryz.prog.underlying 77 = _ := Tryz.underlying77
  have h2 : Tryz.prog.info? 77 = some Tryz.t77 := info_of Tryz.type77
  unfold tyOf; rw [h1, h2]; rfl) (by intro h; cases h)
def ty78 : Ty := { d := .func, size := 1, bytes := 8, agg := false, zero := [.nilfn], fs := [], eqOk := false }
theorem ty78_ok : TyOk Tryz.prog 78 ty78 := .of_tyOf (by
  have h1 : Tryz.prog.underlying 78 = _ := Tryz.underlying78
  have h2 : Tryz.prog.info? 78 = some Tryz.t78 := info_of Tryz.type78
  unfold tyOf; rw [h1, h2]; rfl) (by intro h; cases h)
def ty79 : Ty := { d := .func, size := 1, bytes := 8, agg := false, zero := [.nilfn], fs := [], eqOk := false }
theorem ty79_ok : TyOk Tryz.prog 79 ty79 := .of_tyOf (by
  have h1 : Tryz.prog.underlying 79 = _ := Tryz.underlying79
  have h2 : Tryz.prog.info? 79 = some Tryz.t79 := info_of Tryz.type79
  unfold tyOf; rw [h1, h2]; rfl) (by intro h; cases h)
def ty80 : Ty := { d := .func, size := 1, bytes := 8, agg := false, zero := [.nilfn], fs := [], eqOk := false }
theorem ty80_ok : TyOk Tryz.prog 80 ty80 := .of_tyOf (by
  have h1 : Tryz.prog.underlying 80 = _ := Tryz.underlying80
  have h2 : Tryz.prog.info? 80 = some Tryz.t80 := info_of Tryz.type80
  unfold tyOf; rw [h1, h2]; rfl) (by intro h; cases h)
def ty81 : Ty := { d := .pointer 127, size := 1, bytes := 8, agg := false, zero := [.nilptr], fs := [], eqOk := false }
theorem ty81_ok : TyOk Tryz.prog 81 ty81 := .of_tyOf (by
  have h1 : Tryz.prog.underlying 81 = _ := Tryz.underlying81
  have h2 : Tryz.prog.info? 81 = some Tryz.t81 := info_of Tryz.type81
  unfold tyOf; rw [h1, h2]; rfl) (by intro h; cases h)
def ty83 : Ty := { d := .func, size := 1, bytes := 8, agg := false, zero := [.nilfn], fs := [], eqOk := false }
theorem ty83_ok : TyOk Tryz.prog 83 ty83 := .of_tyOf (by
  have h1 : Tryz.prog.underlying 83 = _ := Tryz.underlying83
  have h2 : Tryz.prog.info? 83 = some Tryz.t83 := info_of Tryz.type83
  unfold tyOf; rw [h1, h2]; rfl) (by intro h; cases h)
def ty84 : Ty := { d := .func, size := 1, bytes := 8, agg := false, zero := [.nilfn], fs := [], eqOk := false }
theorem ty84_ok : TyOk Tryz.prog 84 ty84 := .of_tyOf (by
  have h1 : Tryz.prog.underlying 84 = _ := Tryz.underlying84
  have h2 : Tryz.prog.info? 84 = some Tryz.t84 := info_of Tryz.type84
  unfold tyOf; rw [h1, h2]; rfl) (by intro h; cases h)
def ty85 : Ty := { d := .map 53 3, size := 1, bytes := 8, agg := false, zero := [.nilmap], fs := [], eqOk := false }
theorem ty85_ok : TyOk Tryz.prog 85 ty85 := .of_tyOf (by
  have h1 : Tryz.prog.underlying 85 = _ := Tryz.underlying85
  have h2 : Tryz.prog.info? 85 = some Tryz.t85 := info_of Tryz.type85
  unfold tyOf; rw [h1, h2]; rfl) (by intro h; cases h)
def ty87 : Ty := { d := .func, size := 1, bytes := 8, agg := false, zero := [.nilfn], fs := [], eqOk := false }
theorem ty87_ok : TyOk Tryz.prog 87 ty87 := .of_tyOf (by
  have h1 : Tryz.prog.underlying 87 = _ := Tryz.underlying87
  have h2 : Tryz.prog.info? 87 = some Tryz.t87 := info_of Tryz.type87
  unfold tyOf; rw [h1, h2]; rfl) (by intro h; cases h)
def ty88 : Ty := { d := .func, size := 1, bytes := 8, agg := false, zero := [.nilfn], fs := [], eqOk := false }
theorem ty88_ok : TyOk Tryz.prog 88 ty88 := .of_tyOf (by
  have h1 : Tryz.prog.underlying 88 = _ := Tryz.underlying88
  have h2 : Tryz.prog.info? 88 = some Tryz.t88 := info_of Tryz.type88
  unfold tyOf; rw [h1, h2]; rfl) (by intro h; cases h)
def ty89 : Ty := { d := .func, size := 1, bytes := 8, agg := false, zero := [.nilfn], fs := [], eqOk := false }
theorem ty89_ok : TyOk Tryz.prog 89 ty89 := .of_tyOf (by
  have h1 : Tryz.prog.underlying 89 = _ := Tryz.underlying89
  have h2 : Tryz.prog.info? 89 = some Tryz.t89 := info_of Tryz.type89
  unfold tyOf; rw [h1, h2]; rfl) (by intro h; cases h)
def ty90 : Ty := { d := .func, size := 1, bytes := 8, agg := false, zero := [.nilfn], fs := [], eqOk := false }
theorem ty90_ok : TyOk Tryz.prog 90 ty90 := .of_tyOf (by
  have h1 : Tryz.prog.underlying 90 = _ := Tryz.underlying90
  have h2 : Tryz.prog.info? 90 = some Tryz.t90 := info_of Tryz.type90
  unfold tyOf; rw [h1, h2]; rfl) (by intro h; cases h)
def ty91 : Ty := { d := .func, size := 1, bytes := 8, agg := false, zero := [.nilfn], fs := [], eqOk := false }
theorem ty91_ok : TyOk Tryz.prog 91 ty91 := .of_tyOf (by
  have h1 : Tryz.prog.underlying 91 = _ := Tryz.underlying91
  have h2 : Tryz.prog.info? 91 = some Tryz.t91 := info_of Tryz.type91
  unfold tyOf; rw [h1, h2]; rfl) (by intro h; cases h)
def ty92 : Ty := { d := .int .u64, size := 1, bytes := 8, agg := false, zero := [.int .u64 0], fs := [], eqOk := false }
theorem ty92_ok : TyOk Tryz.prog 92 ty92 := .of_tyOf (by
  have h1 : Tryz.prog.underlying 92 = _ := Tryz.underlying92
  have h2 : Tryz.prog.info? 92 = some Tryz.t92 := info_of Tryz.type92
  unfold tyOf; rw [h1, h2]; rfl) (by intro h; cases h)
def ty94 : Ty := { d := .func, size := 1, bytes := 8, agg := false, zero := [.nilfn], fs := [], eqOk := false }
theorem ty94_ok : TyOk Tryz.prog 94 ty94 := .of_tyOf (by
  have h1 : Tryz.prog.underlying 94 = _ := Tryz.underlying94
  have h2 : Tryz.prog.info? 94 = some Tryz.t94 := info_of Tryz.type94
  unfold tyOf; rw [h1, h2]; rfl) (by intro h; cases h)
def ty95 : Ty := { d := .func, size := 1, bytes := 8, agg := false, zero := [.nilfn], fs := [], eqOk := false }
theorem ty95_ok : TyOk Tryz.prog 95 ty95 := .of_tyOf (by
  have h1 : Tryz.prog.underlying 95 = _ := Tryz.underlying95
  have h2 : Tryz.prog.info? 95 = some Tryz.t95 := info_of Tryz.type95
  unfold tyOf; rw [h1, h2]; rfl) (by intro h; cases h)
def ty96 : Ty := { d := .map 3 53, size := 1, bytes := 8, agg := false, zero := [.nilmap], fs := [], eqOk := false }
theorem ty96_ok : TyOk Tryz.prog 96 ty96 := .of_tyOf (by
  have h1 : Tryz.prog.underlying 96 = _ := Tryz.underlying96
  have h2 : Tryz.prog.info? 96 = some Tryz.t96 := info_of Tryz.type96
  unfold tyOf; rw [h1, h2]; rfl) (by intro h; cases h)
def ty97 : Ty := { d := .struct, size := 1, bytes := 8, agg := true, zero := [.nilmap], fs := [(96, 0)], eqOk := true }
theorem ty97_ok : TyOk Tryz.prog 97 ty97 := .of_tyOf (by
  have h1 : Tryz.prog.underlying 97 = _ := Tryz.underlying97
  have h2 : Tryz.prog.info? 97 = some Tryz.t97 := info_of Tryz.type97
  unfold tyOf; rw [h1, h2]; rfl) (by intro _; simp only [eqFine, Tryz.eqGuardType97, Tryz.underlying97, Tryz.stoodInHeld97]; rfl)
def ty98 : Ty := { d := .struct, size := 1, bytes := 8, agg := true, zero := [.nilmap], fs := [(96, 0)], eqOk := true }
theorem ty98_ok : TyOk Tryz.prog 98 ty98 := .of_tyOf (by
  have h1 : Tryz.prog.underlying 98 = _ := Tryz.underlying98
  have h2 : Tryz.prog.info? 98 = some Tryz.t98 := info_of Tryz.type98
  unfold tyOf; rw [h1, h2]; rfl) (by intro _; simp only [eqFine, Tryz.eqGuardType98, Tryz.underlying98, Tryz.stoodInHeld98]; rfl)
def ty99 : Ty := { d := .func, size := 1, bytes := 8, agg := false, zero := [.nilfn], fs := [], eqOk := false }
theorem ty99_ok : TyOk Tryz.prog 99 ty99 := .of_tyOf (by
  have h1 : Tryz.prog.underlying 99 = _ := Tryz.underlying99
  have h2 : Tryz.prog.info? 99 = some Tryz.t99 := info_of Tryz.type99
  unfold tyOf; rw [h1, h2]; rfl) (by intro h; cases h)
def ty100 : Ty := { d := .slice 38, size := 1, bytes := 24, agg := false, zero := [.nilsl], fs := [], eqOk := false }
theorem ty100_ok : TyOk Tryz.prog 100 ty100 := .of_tyOf (by
  have h1 : Tryz.prog.underlying 100 = _ := Tryz.underlying100
  have h2 : Tryz.prog.info? 100 = some Tryz.t100 := info_of Tryz.type100
  unfold tyOf; rw [h1, h2]; rfl) (by intro h; cases h)
def ty101 : Ty := { d := .map 3 3, size := 1, bytes := 8, agg := false, zero := [.nilmap], fs := [], eqOk := false }
theorem ty101_ok : TyOk Tryz.prog 101 ty101 := .of_tyOf (by
  have h1 : Tryz.prog.underlying 101 = _ := Tryz.underlying101
  have h2 : Tryz.prog.info? 101 = some Tryz.t101 := info_of Tryz.type101
  unfold tyOf; rw [h1, h2]; rfl) (by intro h; cases h)
def ty102 : Ty := { d := .func, size := 1, bytes := 8, agg := false, zero := [.nilfn], fs := [], eqOk := false }
theorem ty102_ok : TyOk Tryz.prog 102 ty102 := .of_tyOf (by
  have h1 : Tryz.prog.underlying 102 = _ := Tryz.underlying102
  have h2 : Tryz.prog.info? 102 = some Tryz.t102 := info_of Tryz.type102
  unfold tyOf; rw [h1, h2]; rfl) (by intro h; cases h)
def ty103 : Ty := { d := .func, size := 1, bytes := 8, agg := false, zero := [.nilfn], fs := [], eqOk := false }
theorem ty103_ok : TyOk Tryz.prog 103 ty103 := .of_tyOf (by
  have h1 : Tryz.prog.underlying 103 = _ := Tryz.underlying103
  have h2 : Tryz.prog.info? 103 = some Tryz.t103 := info_of Tryz.type103
  unfold tyOf; rw [h1, h2]; rfl) (by intro h; cases h)
def ty104 : Ty := { d := .func, size := 1, bytes := 8, agg := false, zero := [.nilfn], fs := [], eqOk := false }
theorem ty104_ok : TyOk Tryz.prog 104 ty104 := .of_tyOf (by
  have h1 : Tryz.prog.underlying 104 = _ := Tryz.underlying104
  have h2 : Tryz.prog.info? 104 = some Tryz.t104 := info_of Tryz.type104
  unfold tyOf; rw [h1, h2]; rfl) (by intro h; cases h)
def ty105 : Ty := { d := .func, size := 1, bytes := 8, agg := false, zero := [.nilfn], fs := [], eqOk := false }
theorem ty105_ok : TyOk Tryz.prog 105 ty105 := .of_tyOf (by
  have h1 : Tryz.prog.underlying 105 = _ := Tryz.underlying105
  have h2 : Tryz.prog.info? 105 = some Tryz.t105 := info_of Tryz.type105
  unfold tyOf; rw [h1, h2]; rfl) (by intro h; cases h)
def ty106 : Ty := { d := .int .u64, size := 1, bytes := 8, agg := false, zero := [.int .u64 0], fs := [], eqOk := false }
theorem ty106_ok : TyOk Tryz.prog 106 ty106 := .of_tyOf (by
  have h1 : Tryz.prog.underlying 106 = _ := Tryz.underlying106
  have h2 : Tryz.prog.info? 106 = some Tryz.t106 := info_of Tryz.type106
  unfold tyOf; rw [h1, h2]; rfl) (by intro h; cases h)
def ty107 : Ty := { d := .array 4 106, size := 4, bytes := 32, agg := true, zero := [.int .u64 0, .int .u64 0, .int .u64 0, .int .u64 0], fs := [], eqOk := true }
theorem ty107_ok : TyOk Tryz.prog 107 ty107 := .of_tyOf (by
  have h1 : Tryz.prog.underlying 107 = _ := Tryz.underlying107
  have h2 : Tryz.prog.info? 107 = some Tryz.t107 := info_of Tryz.type107
  unfold tyOf; rw [h1, h2]; rfl) (by intro _; simp only [eqFine, Tryz.eqGuardType107, Tryz.underlying107]; rfl)
def ty108 : Ty := { d := .array 4 106, size := 4, bytes := 32, agg := true, zero := [.int .u64 0, .int .u64 0, .int .u64 0, .int .u64 0], fs := [], eqOk := true }
theorem ty108_ok : TyOk Tryz.prog 108 ty108 := .of_tyOf (by
  have h1 : Tryz.prog.underlying 108 = _ := Tryz.underlying108
  have h2 : Tryz.prog.info? 108 = some Tryz.t108 := info_of Tryz.type108
  unfold tyOf; rw [h1, h2]; rfl) (by intro _; simp only [eqFine, Tryz.eqGuardType108, Tryz.underlying108]; rfl)
def ty109 : Ty := { d := .slice 108, size := 1, bytes := 24, agg := false, zero := [.nilsl], fs := [], eqOk := false }
theorem ty109_ok : TyOk Tryz.prog 109 ty109 := .of_tyOf (by
  have h1 : Tryz.prog.underlying 109 = _ := Tryz.underlying109
  have h2 : Tryz.prog.info? 109 = some Tryz.t109 := info_of Tryz.type109
  unfold tyOf; rw [h1, h2]; rfl) (by intro h; cases h)
def ty110 : Ty := { d := .func, size := 1, bytes := 8, agg := false, zero := [.nilfn], fs := [], eqOk := false }
theorem ty110_ok : TyOk Tryz.prog 110 ty110 := .of_tyOf (by
  have h1 : Tryz.prog.underlying 110 = _ := Tryz.underlying110
  have h2 : Tryz.prog.info? 110 = some Tryz.t110 := info_of Tryz.type110
  unfold tyOf; rw [h1, h2]; rfl) (by intro h; cases h)
def ty111 : Ty := { d := .func, size := 1, bytes := 8, agg := false, zero := [.nilfn], fs := [], eqOk := false }
theorem ty111_ok : TyOk Tryz.prog 111 ty111 := .of_tyOf (by
  have h1 : Tryz.prog.underlying 111 = _ := Tryz.underlying111
  have h2 : Tryz.prog.info? 111 = some Tryz.t111 := info_of Tryz.type111
  unfold tyOf; rw [h1, h2]; rfl) (by intro h; cases h)
def ty112 : Ty := { d := .map 108 38, size := 1, bytes := 8, agg := false, zero := [.nilmap], fs := [], eqOk := false }
theorem ty112_ok : TyOk Tryz.prog 112 ty112 := .of_tyOf (by
  have h1 : Tryz.prog.underlying 112 = _ := Tryz.underlying112
  have h2 : Tryz.prog.info? 112 = some Tryz.t112 := info_of Tryz.type112
  unfold tyOf; rw [h1, h2]; rfl) (by intro h; cases h)
def ty113 : Ty := { d := .func, size := 1, bytes := 8, agg := false, zero := [.nilfn], fs := [], eqOk := false }
theorem ty113_ok : TyOk Tryz.prog 113 ty113 := .of_tyOf (by
  have h1 : Tryz.prog.underlying 113 = _ := Tryz.underlying113
  have h2 : Tryz.prog.info? 113 = some Tryz.t113 := info_of Tryz.type113
  unfold tyOf; rw [h1, h2]; rfl) (by intro h; cases h)
def ty114 : Ty := { d := .func, size := 1, bytes := 8, agg := false, zero := [.nilfn], fs := [], eqOk := false }
theorem ty114_ok : TyOk Tryz.prog 114 ty114 := .of_tyOf (by
  have h1 : Tryz.prog.underlying 114 = _ := Tryz.underlying114
  have h2 : Tryz.prog.info? 114 = some Tryz.t114 := info_of Tryz.type114
  unfold tyOf; rw [h1, h2]; rfl) (by intro h; cases h)
def ty116 : Ty := { d := .func, size := 1, bytes := 8, agg := false, zero := [.nilfn], fs := [], eqOk := false }
theorem ty116_ok : TyOk Tryz.prog 116 ty116 := .of_tyOf (by
  have h1 : Tryz.prog.underlying 116 = _ := Tryz.underlying116
  have h2 : Tryz.prog.info? 116 = some Tryz.t116 := info_of Tryz.type116
  unfold tyOf; rw [h1, h2]; rfl) (by intro h; cases h)
def ty117 : Ty := { d := .func, size := 1, bytes := 8, agg := false, zero := [.nilfn], fs := [], eqOk := false }
theorem ty117_ok : TyOk Tryz.prog 117 ty117 := .of_tyOf (by
  have h1 : Tryz.prog.underlying 117 = _ := Tryz.underlying117
  have h2 : Tryz.prog.info? 117 = some Tryz.t117 := info_of Tryz.type117
  unfold tyOf; rw [h1, h2]; rfl) (by intro h; cases h)
def ty118 : Ty := { d := .func, size := 1, bytes := 8, agg := false, zero := [.nilfn], fs := [], eqOk := false }
theorem ty118_ok : TyOk Tryz.prog 118 ty118 := .of_tyOf (by
  have h1 : Tryz.prog.underlying 118 = _ := Tryz.underlying118
  have h2 : Tryz.prog.info? 118 = some Tryz.t118 := info_of Tryz.type118
  unfold tyOf; rw [h1, h2]; rfl) (by intro h; cases h)
def ty119 : Ty := { d := .func, size := 1, bytes := 8, agg := false, zero := [.nilfn], fs := [], eqOk := false }
theorem ty119_ok : TyOk Tryz.prog 119 ty119 := .of_tyOf (by
  have h1 : Tryz.prog.underlying 119 = _ := Tryz.underlying119
  have h2 : Tryz.prog.info? 119 = some Tryz.t119 := info_of Tryz.type119
  unfold tyOf; rw [h1, h2]; rfl) (by intro h; cases h)
def ty120 : Ty := { d := .func, size := 1, bytes := 8, agg := false, zero := [.nilfn], fs := [], eqOk := false }
theorem ty120_ok : TyOk Tryz.prog 120 ty120 := .of_tyOf (by
  have h1 : Tryz.prog.underlying 120 = _ := Tryz.underlying120
  have h2 : Tryz.prog.info? 120 = some Tryz.t120 := info_of Tryz.type120
  unfold tyOf; rw [h1, h2]; rfl) (by intro h; cases h)
def ty121 : Ty := { d := .func, size := 1, bytes := 8, agg := false, zero := [.nilfn], fs := [], eqOk := false }
theorem ty121_ok : TyOk Tryz.prog 121 ty121 := .of_tyOf (by
  have h1 : Tryz.prog.underlying 121 = _ := Tryz.underlying121
  have h2 : Tryz.prog.info? 121 = some Tryz.t121 := info_of Tryz.type121
  unfold tyOf; rw [h1, h2]; rfl) (by intro h; cases h)
def ty123 : Ty := { d := .func, size := 1, bytes := 8, agg := false, zero := [.nilfn], fs := [], eqOk := false }
theorem ty123_ok : TyOk Tryz.prog 123 ty123 := .of_tyOf (by
  have h1 : Tryz.prog.underlying 123 = _ := Tryz.underlying123
  have h2 : Tryz.prog.info? 123 = some Tryz.t123 := info_of Tryz.type123
  unfold tyOf; rw [h1, h2]; rfl) (by intro h; cases h)
def ty124 : Ty := { d := .func, size := 1, bytes := 8, agg := false, zero := [.nilfn], fs := [], eqOk := false }
theorem ty124_ok : TyOk Tryz.prog 124 ty124 := .of_tyOf (by
  have h1 : Tryz.prog.underlying 124 = _ := Tryz.underlying124
  have h2 : Tryz.prog.info? 124 = some Tryz.t124 := info_of Tryz.type124
  unfold tyOf; rw [h1, h2]; rfl) (by intro h; cases h)
def ty125 : Ty := { d := .func, size := 1, bytes := 8, agg := false, zero := [.nilfn], fs := [], eqOk := false }
theorem ty125_ok : TyOk Tryz.prog 125 ty125 := .of_tyOf (by
  have h1 : Tryz.prog.underlying 125 = _ := Tryz.underlying125
  have h2 : Tryz.prog.info? 125 = some Tryz.t125 := info_of Tryz.type125
  unfold tyOf; rw [h1, h2]; rfl) (by intro h; cases h)
def ty126 : Ty := { d := .struct, size := 6, bytes := 112, agg := true, zero := [.bool false, .nilsl, .nilsl, .nilsl, .nilsl, .nilmap], fs := [(4, 0), (27, 1), (85, 5)], eqOk := true }
theorem ty126_ok : TyOk Tryz.prog 126 ty126 := .of_tyOf (by
  have h1 : Tryz.prog.underlying 126 = _ := Tryz.underlying126
  have h2 : Tryz.prog.info? 126 = some Tryz.t126 := info_of Tryz.type126
  unfold tyOf; rw [h1, h2]; rfl) (by intro _; simp only [eqFine, Tryz.eqGuardType126, Tryz.underlying126, Tryz.stoodInHeld126]; rfl)
def ty127 : Ty := { d := .struct, size := 6, bytes := 112, agg := true, zero := [.bool false, .nilsl, .nilsl, .nilsl, .nilsl, .nilmap], fs := [(4, 0), (27, 1), (85, 5)], eqOk := true }
theorem ty127_ok : TyOk Tryz.prog 127 ty127 := .of_tyOf (by
  have h1 : Tryz.prog.underlying 127 = _ := Tryz.underlying127
  have h2 : Tryz.prog.info? 127 = some Tryz.t127 := info_of Tryz.type127
  unfold tyOf; rw [h1, h2]; rfl) (by intro _; simp only [eqFine, Tryz.eqGuardType127, Tryz.underlying127, Tryz.stoodInHeld127]; rfl)
def ty128 : Ty := { d := .pointer 130, size := 1, bytes := 8, agg := false, zero := [.nilptr], fs := [], eqOk := false }
theorem ty128_ok : TyOk Tryz.prog 128 ty128 := .of_tyOf (by
  have h1 : Tryz.prog.underlying 128 = _ := Tryz.underlying128
  have h2 : Tryz.prog.info? 128 = some Tryz.t128 := info_of Tryz.type128
  unfold tyOf; rw [h1, h2]; rfl) (by intro h; cases h)
def ty129 : Ty := { d := .struct, size := 4, bytes := 96, agg := true, zero := [.nilsl, .nilsl, .nilsl, .nilsl], fs := [(27, 0)], eqOk := true }
theorem ty129_ok : TyOk Tryz.prog 129 ty129 := .of_tyOf (by
  have h1 : Tryz.prog.underlying 129 = _ := Tryz.underlying129
  have h2 : Tryz.prog.info? 129 = some Tryz.t129 := info_of Tryz.type129
  unfold tyOf; rw [h1, h2]; rfl) (by intro _; simp only [eqFine, Tryz.eqGuardType129, Tryz.underlying129, Tryz.stoodInHeld129]; rfl)
def ty130 : Ty := { d := .struct, size := 4, bytes := 96, agg := true, zero := [.nilsl, .nilsl, .nilsl, .nilsl], fs := [(27, 0)], eqOk := true }
theorem ty130_ok : TyOk Tryz.prog 130 ty130 := .of_tyOf (by
  have h1 : Tryz.prog.underlying 130 = _ := Tryz.underlying130
  have h2 : Tryz.prog.info? 130 = some Tryz.t130 := info_of Tryz.type130
  unfold tyOf; rw [h1, h2]; rfl) (by intro _; simp only [eqFine, Tryz.eqGuardType130, Tryz.underlying130, Tryz.stoodInHeld130]; rfl)
def ty131 : Ty := { d := .func, size := 1, bytes := 8, agg := false, zero := [.nilfn], fs := [], eqOk := false }
theorem ty131_ok : TyOk Tryz.prog 131 ty131 := .of_tyOf (by
  have h1 : Tryz.prog.underlying 131 = _ := Tryz.underlying131
  have h2 : Tryz.prog.info? 131 = some Tryz.t131 := info_of Tryz.type131
  unfold tyOf; rw [h1, h2]; rfl) (by intro h; cases h)
def ty132 : Ty := { d := .func, size := 1, bytes := 8, agg := false, zero := [.nilfn], fs := [], eqOk := false }
theorem ty132_ok : TyOk Tryz.prog 132 ty132 := .of_tyOf (by
  have h1 : Tryz.prog.underlying 132 = _ := Tryz.underlying132
  have h2 : Tryz.prog.info? 132 = some Tryz.t132 := info_of Tryz.type132
  unfold tyOf; rw [h1, h2]; rfl) (by intro h; cases h)
def ty133 : Ty := { d := .func, size := 1, bytes := 8, agg := false, zero := [.nilfn], fs := [], eqOk := false }
theorem ty133_ok : TyOk Tryz.prog 133 ty133 := .of_tyOf (by
  have h1 : Tryz.prog.underlying 133 = _ := Tryz.underlying133
  have h2 : Tryz.prog.info? 133 = some Tryz.t133 := info_of Tryz.type133
  unfold tyOf; rw [h1, h2]; rfl) (by intro h; cases h)
def ty134 : Ty := { d := .func, size := 1, bytes := 8, agg := false, zero := [.nilfn], fs := [], eqOk := false }
theorem ty134_ok : TyOk Tryz.prog 134 ty134 := .of_tyOf (by
  have h1 : Tryz.prog.underlying 134 = _ := Tryz.underlying134
  have h2 : Tryz.prog.info? 134 = some Tryz.t134 := info_of Tryz.type134
  unfold tyOf; rw [h1, h2]; rfl) (by intro h; cases h)
def ty135 : Ty := { d := .func, size := 1, bytes := 8, agg := false, zero := [.nilfn], fs := [], eqOk := false }
theorem ty135_ok : TyOk Tryz.prog 135 ty135 := .of_tyOf (by
  have h1 : Tryz.prog.underlying 135 = _ := Tryz.underlying135
  have h2 : Tryz.prog.info? 135 = some Tryz.t135 := info_of Tryz.type135
  unfold tyOf; rw [h1, h2]; rfl) (by intro h; cases h)
def ty136 : Ty := { d := .func, size := 1, bytes := 8, agg := false, zero := [.nilfn], fs := [], eqOk := false }
theorem ty136_ok : TyOk Tryz.prog 136 ty136 := .of_tyOf (by
  have h1 : Tryz.prog.underlying 136 = _ := Tryz.underlying136
  have h2 : Tryz.prog.info? 136 = some Tryz.t136 := info_of Tryz.type136
  unfold tyOf; rw [h1, h2]; rfl) (by intro h; cases h)
def ty137 : Ty := { d := .func, size := 1, bytes := 8, agg := false, zero := [.nilfn], fs := [], eqOk := false }
theorem ty137_ok : TyOk Tryz.prog 137 ty137 := .of_tyOf (by
  have h1 : Tryz.prog.underlying 137 = _ := Tryz.underlying137
  have h2 : Tryz.prog.info? 137 = some Tryz.t137 := info_of Tryz.type137
  unfold tyOf; rw [h1, h2]; rfl) (by intro h; cases h)
def ty139 : Ty := { d := .func, size := 1, bytes := 8, agg := false, zero := [.nilfn], fs := [], eqOk := false }
theorem ty139_ok : TyOk Tryz.prog 139 ty139 := .of_tyOf (by
  have h1 : Tryz.prog.underlying 139 = _ := Tryz.underlying139
  have h2 : Tryz.prog.info? 139 = some Tryz.t139 := info_of Tryz.type139
  unfold tyOf; rw [h1, h2]; rfl) (by intro h; cases h)
def ty140 : Ty := { d := .slice 63, size := 1, bytes := 24, agg := false, zero := [.nilsl], fs := [], eqOk := false }
theorem ty140_ok : TyOk Tryz.prog 140 ty140 := .of_tyOf (by
  have h1 : Tryz.prog.underlying 140 = _ := Tryz.underlying140
  have h2 : Tryz.prog.info? 140 = some Tryz.t140 := info_of Tryz.type140
  unfold tyOf; rw [h1, h2]; rfl) (by intro h; cases h)
def ty141 : Ty := { d := .func, size := 1, bytes := 8, agg := false, zero := [.nilfn], fs := [], eqOk := false }
theorem ty141_ok : TyOk Tryz.prog 141 ty141 := .of_tyOf (by
  have h1 : Tryz.prog.underlying 141 = _ := Tryz.underlying141
  have h2 : Tryz.prog.info? 141 = some Tryz.t141 := info_of Tryz.type141
  unfold tyOf; rw [h1, h2]; rfl) (by intro h; cases h)
def ty142 : Ty := { d := .func, size := 1, bytes := 8, agg := false, zero := [.nilfn], fs := [], eqOk := false }
theorem ty142_ok : TyOk Tryz.prog 142 ty142 := .of_tyOf (by
  have h1 : Tryz.prog.underlying 142 = _ := Tryz.underlying142
  have h2 : Tryz.prog.info? 142 = some Tryz.t142 := info_of Tryz.type142
  unfold tyOf; rw [h1, h2]; rfl) (by intro h; cases h)
def ty143 : Ty := { d := .func, size := 1, bytes := 8, agg := false, zero := [.nilfn], fs := [], eqOk := false }
theorem ty143_ok : TyOk Tryz.prog 143 ty143 := .of_tyOf (by
  have h1 : Tryz.prog.underlying 143 = _ := Tryz.underlying143
  have h2 : Tryz.prog.info? 143 = some Tryz.t143 := info_of Tryz.type143
  unfold tyOf; rw [h1, h2]; rfl) (by intro h; cases h)
def ty145 : Ty := { d := .func, size := 1, bytes := 8, agg := false, zero := [.nilfn], fs := [], eqOk := false }
theorem ty145_ok : TyOk Tryz.prog 145 ty145 := .of_tyOf (by
  have h1 : Tryz.prog.underlying 145 = _ := Tryz.underlying145
  have h2 : Tryz.prog.info? 145 = some Tryz.t145 := info_of Tryz.type145
  unfold tyOf; rw [h1, h2]; rfl) (by intro h; cases h)
def ty146 : Ty := { d := .func, size := 1, bytes := 8, agg := false, zero := [.nilfn], fs := [], eqOk := false }
theorem ty146_ok : TyOk Tryz.prog 146 ty146 := .of_tyOf (by
  have h1 : Tryz.prog.underlying 146 = _ := Tryz.underlying146
  have h2 : Tryz.prog.info? 146 = some Tryz.t146 := info_of Tryz.type146
  unfold tyOf; rw [h1, h2]; rfl) (by intro h; cases h)
def ty148 : Ty := { d := .func, size := 1, bytes := 8, agg := false, zero := [.nilfn], fs := [], eqOk := false }
theorem ty148_ok : TyOk Tryz.prog 148 ty148 := .of_tyOf (by
  have h1 : Tryz.prog.underlying 148 = _ := Tryz.underlying148
  have h2 : Tryz.prog.info? 148 = some Tryz.t148 := info_of Tryz.type148
  unfold tyOf; rw [h1, h2]; rfl) (by intro h; cases h)
def ty150 : Ty := { d := .func, size := 1, bytes := 8, agg := false, zero := [.nilfn], fs := [], eqOk := false }
theorem ty150_ok : TyOk Tryz.prog 150 ty150 := .of_tyOf (by
  have h1 : Tryz.prog.underlying 150 = _ := Tryz.underlying150
  have h2 : Tryz.prog.info? 150 = some Tryz.t150 := info_of Tryz.type150
  unfold tyOf; rw [h1, h2]; rfl) (by intro h; cases h)
def ty151 : Ty := { d := .func, size := 1, bytes := 8, agg := false, zero := [.nilfn], fs := [], eqOk := false }
theorem ty151_ok : TyOk Tryz.prog 151 ty151 := .of_tyOf (by
  have h1 : Tryz.prog.underlying 151 = _ := Tryz.underlying151
  have h2 : Tryz.prog.info? 151 = some Tryz.t151 := info_of Tryz.type151
  unfold tyOf; rw [h1, h2]; rfl) (by intro h; cases h)
def ty152 : Ty := { d := .struct, size := 2, bytes := 32, agg := true, zero := [.int .i64 0, .nilsl], fs := [(3, 0), (100, 1)], eqOk := true }
theorem ty152_ok : TyOk Tryz.prog 152 ty152 := .of_tyOf (by
  have h1 : Tryz.prog.underlying 152 = _ := Tryz.underlying152
  have h2 : Tryz.prog.info? 152 = some Tryz.t152 := info_of Tryz.type152
  unfold tyOf; rw [h1, h2]; rfl) (by intro _; simp only [eqFine, Tryz.eqGuardType152, Tryz.underlying152, Tryz.stoodInHeld152]; rfl)
def ty153 : Ty := { d := .struct, size := 2, bytes := 32, agg := true, zero := [.int .i64 0, .nilsl], fs := [(3, 0), (100, 1)], eqOk := true }
theorem ty153_ok : TyOk Tryz.prog 153 ty153 := .of_tyOf (by
  have h1 : Tryz.prog.underlying 153 = _ := Tryz.underlying153
  have h2 : Tryz.prog.info? 153 = some Tryz.t153 := info_of Tryz.type153
  unfold tyOf; rw [h1, h2]; rfl) (by intro _; simp only [eqFine, Tryz.eqGuardType153, Tryz.underlying153, Tryz.stoodInHeld153]; rfl)
def ty155 : Ty := { d := .func, size := 1, bytes := 8, agg := false, zero := [.nilfn], fs := [], eqOk := false }
theorem ty155_ok : TyOk Tryz.prog 155 ty155 := .of_tyOf (by
  have h1 : Tryz.prog.underlying 155 = _ := Tryz.underlying155
  have h2 : Tryz.prog.info? 155 = some Tryz.t155 := info_of Tryz.type155
  unfold tyOf; rw [h1, h2]; rfl) (by intro h; cases h)
def ty157 : Ty := { d := .func, size := 1, bytes := 8, agg := false, zero := [.nilfn], fs := [], eqOk := false }
theorem ty157_ok : TyOk Tryz.prog 157 ty157 := .of_tyOf (by
  have h1 : Tryz.prog.underlying 157 = _ := Tryz.underlying157
  have h2 : Tryz.prog.info? 157 = some Tryz.t157 := info_of Tryz.type157
  unfold tyOf; rw [h1, h2]; rfl) (by intro h; cases h)
def ty158 : Ty := { d := .func, size := 1, bytes := 8, agg := false, zero := [.nilfn], fs := [], eqOk := false }
theorem ty158_ok : TyOk Tryz.prog 158 ty158 := .of_tyOf (by
  have h1 : Tryz.prog.underlying 158 = _ := Tryz.underlying158
  have h2 : Tryz.prog.info? 158 = some Tryz.t158 := info_of Tryz.type158
  unfold tyOf; rw [h1, h2]; rfl) (by intro h; cases h)
def ty160 : Ty := { d := .func, size := 1, bytes := 8, agg := false, zero := [.nilfn], fs := [], eqOk := false }
theorem ty160_ok : TyOk Tryz.prog 160 ty160 := .of_tyOf (by
  have h1 : Tryz.prog.underlying 160 = _ := Tryz.underlying160
  have h2 : Tryz.prog.info? 160 = some Tryz.t160 := info_of Tryz.type160
  unfold tyOf; rw [h1, h2]; rfl) (by intro h; cases h)
def ty161 : Ty := { d := .func, size := 1, bytes := 8, agg := false, zero := [.nilfn], fs := [], eqOk := false }
theorem ty161_ok : TyOk Tryz.prog 161 ty161 := .of_tyOf (by
  have h1 : Tryz.prog.underlying 161 = _ := Tryz.underlying161
  have h2 : Tryz.prog.info? 161 = some Tryz.t161 := info_of Tryz.type161
  unfold tyOf; rw [h1, h2]; rfl) (by intro h; cases h)
def ty162 : Ty := { d := .func, size := 1, bytes := 8, agg := false, zero := [.nilfn], fs := [], eqOk := false }
theorem ty162_ok : TyOk Tryz.prog 162 ty162 := .of_tyOf (by
  have h1 : Tryz.prog.underlying 162 = _ := Tryz.underlying162
  have h2 : Tryz.prog.info? 162 = some Tryz.t162 := info_of Tryz.type162
  unfold tyOf; rw [h1, h2]; rfl) (by intro h; cases h)
def ty163 : Ty := { d := .int .u32, size := 1, bytes := 4, agg := false, zero := [.int .u32 0], fs := [], eqOk := false }
theorem ty163_ok : TyOk Tryz.prog 163 ty163 := .of_tyOf (by
  have h1 : Tryz.prog.underlying 163 = _ := Tryz.underlying163
  have h2 : Tryz.prog.info? 163 = some Tryz.t163 := info_of Tryz.type163
  unfold tyOf; rw [h1, h2]; rfl) (by intro h; cases h)
def ty165 : Ty := { d := .func, size := 1, bytes := 8, agg := false, zero := [.nilfn], fs := [], eqOk := false }
theorem ty165_ok : TyOk Tryz.prog 165 ty165 := .of_tyOf (by
  have h1 : Tryz.prog.underlying 165 = _ := Tryz.underlying165
  have h2 : Tryz.prog.info? 165 = some Tryz.t165 := info_of Tryz.type165
  unfold tyOf; rw [h1, h2]; rfl) (by intro h; cases h)
def ty167 : Ty := { d := .func, size := 1, bytes := 8, agg := false, zero := [.nilfn], fs := [], eqOk := false }
theorem ty167_ok : TyOk Tryz.prog 167 ty167 := .of_tyOf (by
  have h1 : Tryz.prog.underlying 167 = _ := Tryz.underlying167
  have h2 : Tryz.prog.info? 167 = some Tryz.t167 := info_of Tryz.type167
  unfold tyOf; rw [h1, h2]; rfl) (by intro h; cases h)
def ty168 : Ty := { d := .func, size := 1, bytes := 8, agg := false, zero := [.nilfn], fs := [], eqOk := false }
theorem ty168_ok : TyOk Tryz.prog 168 ty168 := .of_tyOf (by
  have h1 : Tryz.prog.underlying 168 = _ := Tryz.underlying168
  have h2 : Tryz.prog.info? 168 = some Tryz.t168 := info_of Tryz.type168
  unfold tyOf; rw [h1, h2]; rfl) (by intro h; cases h)
def ty169 : Ty := { d := .func, size := 1, bytes := 8, agg := false, zero := [.nilfn], fs := [], eqOk := false }
theorem ty169_ok : TyOk Tryz.prog 169 ty169 := .of_tyOf (by
  have h1 : Tryz.prog.underlying 169 = _ := Tryz.underlying169
  have h2 : Tryz.prog.info? 169 = some Tryz.t169 := info_of Tryz.type169
  unfold tyOf; rw [h1, h2]; rfl) (by intro h; cases h)
def ty170 : Ty := { d := .func, size := 1, bytes := 8, agg := false, zero := [.nilfn], fs := [], eqOk := false }
theorem ty170_ok : TyOk Tryz.prog 170 ty170 := .of_tyOf (by
  have h1 : Tryz.prog.underlying 170 = _ := Tryz.underlying170
  have h2 : Tryz.prog.info? 170 = some Tryz.t170 := info_of Tryz.type170
  unfold tyOf; rw [h1, h2]; rfl) (by intro h; cases h)
def ty171 : Ty := { d := .func, size := 1, bytes := 8, agg := false, zero := [.nilfn], fs := [], eqOk := false }
theorem ty171_ok : TyOk Tryz.prog 171 ty171 := .of_tyOf (by
  have h1 : Tryz.prog.underlying 171 = _ := Tryz.underlying171
  have h2 : Tryz.prog.info? 171 = some Tryz.t171 := info_of Tryz.type171
  unfold tyOf; rw [h1, h2]; rfl) (by intro h; cases h)
def ty172 : Ty := { d := .func, size := 1, bytes := 8, agg := false, zero := [.nilfn], fs := [], eqOk := false }
theorem ty172_ok : TyOk Tryz.prog 172 ty172 := .of_tyOf (by
  have h1 : Tryz.prog.underlying 172 = _ := Tryz.underlying172
  have h2 : Tryz.prog.info? 172 = some Tryz.t172 := info_of Tryz.type172
  unfold tyOf; rw [h1, h2]; rfl) (by intro h; cases h)
def ty173 : Ty := { d := .func, size := 1, bytes := 8, agg := false, zero := [.nilfn], fs := [], eqOk := false }
theorem ty173_ok : TyOk Tryz.prog 173 ty173 := .of_tyOf (by
  have h1 : Tryz.prog.underlying 173 = _ := Tryz.underlying173
  have h2 : Tryz.prog.info? 173 = some Tryz.t173 := info_of Tryz.type173
  unfold tyOf; rw [h1, h2]; rfl) (by intro h; cases h)
def ty174 : Ty := { d := .func, size := 1, bytes := 8, agg := false, zero := [.nilfn], fs := [], eqOk := false }
theorem ty174_ok : TyOk Tryz.prog 174 ty174 := .of_tyOf (by
  have h1 : Tryz.prog.underlying 174 = _ := Tryz.underlying174
  have h2 : Tryz.prog.info? 174 = some Tryz.t174 := info_of Tryz.type174
  unfold tyOf; rw [h1, h2]; rfl) (by intro h; cases h)
def ty175 : Ty := { d := .func, size := 1, bytes := 8, agg := false, zero := [.nilfn], fs := [], eqOk := false }
theorem ty175_ok : TyOk Tryz.prog 175 ty175 := .of_tyOf (by
  have h1 : Tryz.prog.underlying 175 = _ := Tryz.underlying175
  have h2 : Tryz.prog.info? 175 = some Tryz.t175 := info_of Tryz.type175
  unfold tyOf; rw [h1, h2]; rfl) (by intro h; cases h)
def ty176 : Ty := { d := .pointer 188, size := 1, bytes := 8, agg := false, zero := [.nilptr], fs := [], eqOk := false }
theorem ty176_ok : TyOk Tryz.prog 176 ty176 := .of_tyOf (by
  have h1 : Tryz.prog.underlying 176 = _ := Tryz.underlying176
  have h2 : Tryz.prog.info? 176 = some Tryz.t176 := info_of Tryz.type176
  unfold tyOf; rw [h1, h2]; rfl) (by intro h; cases h)
def ty177 : Ty := { d := .func, size := 1, bytes := 8, agg := false, zero := [.nilfn], fs := [], eqOk := false }
theorem ty177_ok : TyOk Tryz.prog 177 ty177 := .of_tyOf (by
  have h1 : Tryz.prog.underlying 177 = _ := Tryz.underlying177
  have h2 : Tryz.prog.info? 177 = some Tryz.t177 := info_of Tryz.type177
  unfold tyOf; rw [h1, h2]; rfl) (by intro h; cases h)
def ty178 : Ty := { d := .int .i64, size := 1, bytes := 8, agg := false, zero := [.int .i64 0], fs := [], eqOk := false }
theorem ty178_ok : TyOk Tryz.prog 178 ty178 := .of_tyOf (by
  have h1 : Tryz.prog.underlying 178 = _ := Tryz.underlying178
  have h2 : Tryz.prog.info? 178 = some Tryz.t178 := info_of Tryz.type178
  unfold tyOf; rw [h1, h2]; rfl) (by intro h; cases h)
def ty180 : Ty := { d := .func, size := 1, bytes := 8, agg := false, zero := [.nilfn], fs := [], eqOk := false }
theorem ty180_ok : TyOk Tryz.prog 180 ty180 := .of_tyOf (by
  have h1 : Tryz.prog.underlying 180 = _ := Tryz.underlying180
  have h2 : Tryz.prog.info? 180 = some Tryz.t180 := info_of Tryz.type180
  unfold tyOf; rw [h1, h2]; rfl) (by intro h; cases h)
def ty181 : Ty := { d := .func, size := 1, bytes := 8, agg := false, zero := [.nilfn], fs := [], eqOk := false }
theorem ty181_ok : TyOk Tryz.prog 181 ty181 := .of_tyOf (by
  have h1 : Tryz.prog.underlying 181 = _ := Tryz.underlying181
  have h2 : Tryz.prog.info? 181 = some Tryz.t181 := info_of Tryz.type181
  unfold tyOf; rw [h1, h2]; rfl) (by intro h; cases h)
def ty182 : Ty := { d := .func, size := 1, bytes := 8, agg := false, zero := [.nilfn], fs := [], eqOk := false }
theorem ty182_ok : TyOk Tryz.prog 182 ty182 := .of_tyOf (by
  have h1 : Tryz.prog.underlying 182 = _ := Tryz.underlying182
  have h2 : Tryz.prog.info? 182 = some Tryz.t182 := info_of Tryz.type182
  unfold tyOf; rw [h1, h2]; rfl) (by intro h; cases h)
def ty183 : Ty := { d := .func, size := 1, bytes := 8, agg := false, zero := [.nilfn], fs := [], eqOk := false }
theorem ty183_ok : TyOk Tryz.prog 183 ty183 := .of_tyOf (by
  have h1 : Tryz.prog.underlying 183 = _ := Tryz.underlying183
  have h2 : Tryz.prog.info? 183 = some Tryz.t183 := info_of Tryz.type183
  unfold tyOf; rw [h1, h2]; rfl) (by intro h; cases h)
def ty184 : Ty := { d := .slice 203, size := 1, bytes := 24, agg := false, zero := [.nilsl], fs := [], eqOk := false }
theorem ty184_ok : TyOk Tryz.prog 184 ty184 := .of_tyOf (by
  have h1 : Tryz.prog.underlying 184 = _ := Tryz.underlying184
  have h2 : Tryz.prog.info? 184 = some Tryz.t184 := info_of Tryz.type184
  unfold tyOf; rw [h1, h2]; rfl) (by intro h; cases h)
def ty185 : Ty := { d := .slice 197, size := 1, bytes := 24, agg := false, zero := [.nilsl], fs := [], eqOk := false }
theorem ty185_ok : TyOk Tryz.prog 185 ty185 := .of_tyOf (by
  have h1 : Tryz.prog.underlying 185 = _ := Tryz.underlying185
  have h2 : Tryz.prog.info? 185 = some Tryz.t185 := info_of Tryz.type185
  unfold tyOf; rw [h1, h2]; rfl) (by intro h; cases h)
def ty186 : Ty := { d := .slice 185, size := 1, bytes := 24, agg := false, zero := [.nilsl], fs := [], eqOk := false }
theorem ty186_ok : TyOk Tryz.prog 186 ty186 := .of_tyOf (by
  have h1 : Tryz.prog.underlying 186 = _ := Tryz.underlying186
  have h2 : Tryz.prog.info? 186 = some Tryz.t186 := info_of Tryz.type186
  unfold tyOf; rw [h1, h2]; rfl) (by intro h; cases h)
def ty187 : Ty := { d := .struct, size := 13, bytes := 232, agg := true, zero := [.int .i64 0, .nilsl, .nilsl, .nilsl, .nilsl, .nilsl, .nilsl, .int .i64 0, .nilsl, .int .i64 0, .nilsl, .int .i64 0, .bool false], fs := [(3, 0), (184, 1), (38, 2), (185, 3), (186, 4), (38, 5), (38, 6), (3, 7), (38, 8), (3, 9), (100, 10), (3, 11), (4, 12)], eqOk := true }
theorem ty187_ok : TyOk Tryz.prog 187 ty187 := .of_tyOf (by
  have h1 : Tryz.prog.underlying 187 = _ := Tryz.underlying187
  have h2 : Tryz.prog.info? 187 = some Tryz.t187 := info_of Tryz.type187
  unfold tyOf; rw [h1, h2]; rfl) (by intro _; simp only [eqFine, Tryz.eqGuardType187, Tryz.underlying187, Tryz.stoodInHeld187]; rfl)
def ty188 : Ty := { d := .struct, size := 13, bytes := 232, agg := true, zero := [.int .i64 0, .nilsl, .nilsl, .nilsl, .nilsl, .nilsl, .nilsl, .int .i64 0, .nilsl, .int .i64 0, .nilsl, .int .i64 0, .bool false], fs := [(3, 0), (184, 1), (38, 2), (185, 3), (186, 4), (38, 5), (38, 6), (3, 7), (38, 8), (3, 9), (100, 10), (3, 11), (4, 12)], eqOk := true }
theorem ty188_ok : TyOk Tryz.prog 188 ty188 := .of_tyOf (by
  have h1 : Tryz.prog.underlying 188 = _ := Tryz.underlying188
  have h2 : Tryz.prog.info? 188 = some Tryz.t188 := info_of Tryz.type188
  unfold tyOf; rw [h1, h2]; rfl) (by intro _; simp only [eqFine, Tryz.eqGuardType188, Tryz.underlying188, Tryz.stoodInHeld188]; rfl)
def ty190 : Ty := { d := .func, size := 1, bytes := 8, agg := false, zero := [.nilfn], fs := [], eqOk := false }
theorem ty190_ok : TyOk Tryz.prog 190 ty190 := .of_tyOf (by
  have h1 : Tryz.prog.underlying 190 = _ := Tryz.underlying190
  have h2 : Tryz.prog.info? 190 = some Tryz.t190 := info_of Tryz.type190
  unfold tyOf; rw [h1, h2]; rfl) (by intro h; cases h)
def ty192 : Ty := { d := .func, size := 1, bytes := 8, agg := false, zero := [.nilfn], fs := [], eqOk := false }
theorem ty192_ok : TyOk Tryz.prog 192 ty192 := .of_tyOf (by
  have h1 : Tryz.prog.underlying 192 = _ := Tryz.underlying192
  have h2 : Tryz.prog.info? 192 = some Tryz.t192 := info_of Tryz.type192
  unfold tyOf; rw [h1, h2]; rfl) (by intro h; cases h)
def ty193 : Ty := { d := .func, size := 1, bytes := 8, agg := false, zero := [.nilfn], fs := [], eqOk := false }
theorem ty193_ok : TyOk Tryz.prog 193 ty193 := .of_tyOf (by
  have h1 : Tryz.prog.underlying 193 = _ := Tryz.underlying193
  have h2 : Tryz.prog.info? 193 = some Tryz.t193 := info_of Tryz.type193
  unfold tyOf; rw [h1, h2]; rfl) (by intro h; cases h)
def ty194 : Ty := { d := .func, size := 1, bytes := 8, agg := false, zero := [.nilfn], fs := [], eqOk := false }
theorem ty194_ok : TyOk Tryz.prog 194 ty194 := .of_tyOf (by
  have h1 : Tryz.prog.underlying 194 = _ := Tryz.underlying194
  have h2 : Tryz.prog.info? 194 = some Tryz.t194 := info_of Tryz.type194
  unfold tyOf; rw [h1, h2]; rfl) (by intro h; cases h)
def ty195 : Ty := { d := .func, size := 1, bytes := 8, agg := false, zero := [.nilfn], fs := [], eqOk := false }
theorem ty195_ok : TyOk Tryz.prog 195 ty195 := .of_tyOf (by
  have h1 : Tryz.prog.underlying 195 = _ := Tryz.underlying195
  have h2 : Tryz.prog.info? 195 = some Tryz.t195 := info_of Tryz.type195
  unfold tyOf; rw [h1, h2]; rfl) (by intro h; cases h)
def ty196 : Ty := { d := .func, size := 1, bytes := 8, agg := false, zero := [.nilfn], fs := [], eqOk := false }
theorem ty196_ok : TyOk Tryz.prog 196 ty196 := .of_tyOf (by
  have h1 : Tryz.prog.underlying 196 = _ := Tryz.underlying196
  have h2 : Tryz.prog.info? 196 = some Tryz.t196 := info_of Tryz.type196
  unfold tyOf; rw [h1, h2]; rfl) (by intro h; cases h)
def ty197 : Ty := { d := .pointer 207, size := 1, bytes := 8, agg := false, zero := [.nilptr], fs := [], eqOk := false }
theorem ty197_ok : TyOk Tryz.prog 197 ty197 := .of_tyOf (by
  have h1 : Tryz.prog.underlying 197 = _ := Tryz.underlying197
  have h2 : Tryz.prog.info? 197 = some Tryz.t197 := info_of Tryz.type197
  unfold tyOf; rw [h1, h2]; rfl) (by intro h; cases h)
def ty198 : Ty := { d := .func, size := 1, bytes := 8, agg := false, zero := [.nilfn], fs := [], eqOk := false }
theorem ty198_ok : TyOk Tryz.prog 198 ty198 := .of_tyOf (by
  have h1 : Tryz.prog.underlying 198 = _ := Tryz.underlying198
  have h2 : Tryz.prog.info? 198 = some Tryz.t198 := info_of Tryz.type198
  unfold tyOf; rw [h1, h2]; rfl) (by intro h; cases h)
def ty200 : Ty := { d := .func, size := 1, bytes := 8, agg := false, zero := [.nilfn], fs := [], eqOk := false }
theorem ty200_ok : TyOk Tryz.prog 200 ty200 := .of_tyOf (by
  have h1 : Tryz.prog.underlying 200 = _ := Tryz.underlying200
  have h2 : Tryz.prog.info? 200 = some Tryz.t200 := info_of Tryz.type200
  unfold tyOf; rw [h1, h2]; rfl) (by intro h; cases h)
def ty201 : Ty := { d := .func, size := 1, bytes := 8, agg := false, zero := [.nilfn], fs := [], eqOk := false }
theorem ty201_ok : TyOk Tryz.prog 201 ty201 := .of_tyOf (by
  have h1 : Tryz.prog.underlying 201 = _ := Tryz.underlying201
  have h2 : Tryz.prog.info? 201 = some Tryz.t201 := info_of Tryz.type201
  unfold tyOf; rw [h1, h2]; rfl) (by intro h; cases h)
def ty202 : Ty := { d := .func, size := 1, bytes := 8, agg := false, zero := [.nilfn], fs := [], eqOk := false }
theorem ty202_ok : TyOk Tryz.prog 202 ty202 := .of_tyOf (by
  have h1 : Tryz.prog.underlying 202 = _ := Tryz.underlying202
  have h2 : Tryz.prog.info? 202 = some Tryz.t202 := info_of Tryz.type202
  unfold tyOf; rw [h1, h2]; rfl) (by intro h; cases h)
def ty203 : Ty := { d := .int .i8, size := 1, bytes := 1, agg := false, zero := [.int .i8 0], fs := [], eqOk := false }
theorem ty203_ok : TyOk Tryz.prog 203 ty203 := .of_tyOf (by
  have h1 : Tryz.prog.underlying 203 = _ := Tryz.underlying203
  have h2 : Tryz.prog.info? 203 = some Tryz.t203 := info_of Tryz.type203
  unfold tyOf; rw [h1, h2]; rfl) (by intro h; cases h)
def ty204 : Ty := { d := .func, size := 1, bytes := 8, agg := false, zero := [.nilfn], fs := [], eqOk := false }
theorem ty204_ok : TyOk Tryz.prog 204 ty204 := .of_tyOf (by
  have h1 : Tryz.prog.underlying 204 = _ := Tryz.underlying204
  have h2 : Tryz.prog.info? 204 = some Tryz.t204 := info_of Tryz.type204
  unfold tyOf; rw [h1, h2]; rfl) (by intro h; cases h)
def ty205 : Ty := { d := .func, size := 1, bytes := 8, agg := false, zero := [.nilfn], fs := [], eqOk := false }
theorem ty205_ok : TyOk Tryz.prog 205 ty205 := .of_tyOf (by
  have h1 : Tryz.prog.underlying 205 = _ := Tryz.underlying205
  have h2 : Tryz.prog.info? 205 = some Tryz.t205 := info_of Tryz.type205
  unfold tyOf; rw [h1, h2]; rfl) (by intro h; cases h)
def ty206 : Ty := { d := .struct, size := 1, bytes := 24, agg := true, zero := [.nilsl], fs := [(38, 0)], eqOk := true }
theorem ty206_ok : TyOk Tryz.prog 206 ty206 := .of_tyOf (by
  have h1 : Tryz.prog.underlying 206 = _ := Tryz.underlying206
  have h2 : Tryz.prog.info? 206 = some Tryz.t206 := info_of Tryz.type206
  unfold tyOf; rw [h1, h2]; rfl) (by intro _; simp only [eqFine, Tryz.eqGuardType206, Tryz.underlying206, Tryz.stoodInHeld206]; rfl)
def ty207 : Ty := { d := .struct, size := 1, bytes := 24, agg := true, zero := [.nilsl], fs := [(38, 0)], eqOk := true }
theorem ty207_ok : TyOk Tryz.prog 207 ty207 := .of_tyOf (by
  have h1 : Tryz.prog.underlying 207 = _ := Tryz.underlying207
  have h2 : Tryz.prog.info? 207 = some Tryz.t207 := info_of Tryz.type207
  unfold tyOf; rw [h1, h2]; rfl) (by intro _; simp only [eqFine, Tryz.eqGuardType207, Tryz.underlying207, Tryz.stoodInHeld207]; rfl)
def ty208 : Ty := { d := .func, size := 1, bytes := 8, agg := false, zero := [.nilfn], fs := [], eqOk := false }
theorem ty208_ok : TyOk Tryz.prog 208 ty208 := .of_tyOf (by
  have h1 : Tryz.prog.underlying 208 = _ := Tryz.underlying208
  have h2 : Tryz.prog.info? 208 = some Tryz.t208 := info_of Tryz.type208
  unfold tyOf; rw [h1, h2]; rfl) (by intro h; cases h)
def ty209 : Ty := { d := .func, size := 1, bytes := 8, agg := false, zero := [.nilfn], fs := [], eqOk := false }
theorem ty209_ok : TyOk Tryz.prog 209 ty209 := .of_tyOf (by
  have h1 : Tryz.prog.underlying 209 = _ := Tryz.underlying209
  have h2 : Tryz.prog.info? 209 = some Tryz.t209 := info_of Tryz.type209
  unfold tyOf; rw [h1, h2]; rfl) (by intro h; cases h)
def ty210 : Ty := { d := .func, size := 1, bytes := 8, agg := false, zero := [.nilfn], fs := [], eqOk := false }
theorem ty210_ok : TyOk Tryz.prog 210 ty210 := .of_tyOf (by
  have h1 : Tryz.prog.underlying 210 = _ := Tryz.underlying210
  have h2 : Tryz.prog.info? 210 = some Tryz.t210 := info_of Tryz.type210
  unfold tyOf; rw [h1, h2]; rfl) (by intro h; cases h)
def ty211 : Ty := { d := .func, size := 1, bytes := 8, agg := false, zero := [.nilfn], fs := [], eqOk := false }
theorem ty211_ok : TyOk Tryz.prog 211 ty211 := .of_tyOf (by
  have h1 : Tryz.prog.underlying 211 = _ := Tryz.underlying211
  have h2 : Tryz.prog.info? 211 = some Tryz.t211 := info_of Tryz.type211
  unfold tyOf; rw [h1, h2]; rfl) (by intro h; cases h)
def ty212 : Ty := { d := .func, size := 1, bytes := 8, agg := false, zero := [.nilfn], fs := [], eqOk := false }
theorem ty212_ok : TyOk Tryz.prog 212 ty212 := .of_tyOf (by
  have h1 : Tryz.prog.underlying 212 = _ := Tryz.underlying212
  have h2 : Tryz.prog.info? 212 = some Tryz.t212 := info_of Tryz.type212
  unfold tyOf; rw [h1, h2]; rfl) (by intro h; cases h)
def ty213 : Ty := { d := .func, size := 1, bytes := 8, agg := false, zero := [.nilfn], fs := [], eqOk := false }
theorem ty213_ok : TyOk Tryz.prog 213 ty213 := .of_tyOf (by
  have h1 : Tryz.prog.underlying 213 = _ := Tryz.underlying213
  have h2 : Tryz.prog.info? 213 = some Tryz.t213 := info_of Tryz.type213
  unfold tyOf; rw [h1, h2]; rfl) (by intro h; cases h)
def ty214 : Ty := { d := .func, size := 1, bytes := 8, agg := false, zero := [.nilfn], fs := [], eqOk := false }
theorem ty214_ok : TyOk Tryz.prog 214 ty214 := .of_tyOf (by
  have h1 : Tryz.prog.underlying 214 = _ := Tryz.underlying214
  have h2 : Tryz.prog.info? 214 = some Tryz.t214 := info_of Tryz.type214
  unfold tyOf; rw [h1, h2]; rfl) (by intro h; cases h)
def ty215 : Ty := { d := .func, size := 1, bytes := 8, agg := false, zero := [.nilfn], fs := [], eqOk := false }
theorem ty215_ok : TyOk Tryz.prog 215 ty215 := .of_tyOf (by
  have h1 : Tryz.prog.underlying 215 = _ := Tryz.underlying215
  have h2 : Tryz.prog.info? 215 = some Tryz.t215 := info_of Tryz.type215
  unfold tyOf; rw [h1, h2]; rfl) (by intro h; cases h)
def ty216 : Ty := { d := .struct, size := 4, bytes := 40, agg := true, zero := [.nilptr, .nilptr, .nilptr, .str ⟨#[]⟩], fs := [(17, 0), (17, 1), (17, 2), (9, 3)], eqOk := false }
theorem ty216_ok : TyOk Tryz.prog 216 ty216 := .of_tyOf (by
  have h1 : Tryz.prog.underlying 216 = _ := Tryz.underlying216
  have h2 : Tryz.prog.info? 216 = some Tryz.t216 := info_of Tryz.type216
  unfold tyOf; rw [h1, h2]; rfl) (by intro h; cases h)
def ty217 : Ty := { d := .struct, size := 4, bytes := 40, agg := true, zero := [.nilptr, .nilptr, .nilptr, .str ⟨#[]⟩], fs := [(17, 0), (17, 1), (17, 2), (9, 3)], eqOk := false }
theorem ty217_ok : TyOk Tryz.prog 217 ty217 := .of_tyOf (by
  have h1 : Tryz.prog.underlying 217 = _ := Tryz.underlying217
  have h2 : Tryz.prog.info? 217 = some Tryz.t217 := info_of Tryz.type217
  unfold tyOf; rw [h1, h2]; rfl) (by intro h; cases h)
def ty218 : Ty := { d := .array 0 16, size := 0, bytes := 0, agg := true, zero := [], fs := [], eqOk := true }
theorem ty218_ok : TyOk Tryz.prog 218 ty218 := .of_tyOf (by
  have h1 : Tryz.prog.underlying 218 = _ := Tryz.underlying218
  have h2 : Tryz.prog.info? 218 = some Tryz.t218 := info_of Tryz.type218
  unfold tyOf; rw [h1, h2]; rfl) (by intro _; simp only [eqFine, Tryz.eqGuardType218, Tryz.underlying218]; rfl)
def ty219 : Ty := { d := .struct, size := 0, bytes := 0, agg := true, zero := [], fs := [(218, 0)], eqOk := false }
theorem ty219_ok : TyOk Tryz.prog 219 ty219 := .of_tyOf (by
  have h1 : Tryz.prog.underlying 219 = _ := Tryz.underlying219
  have h2 : Tryz.prog.info? 219 = some Tryz.t219 := info_of Tryz.type219
  unfold tyOf; rw [h1, h2]; rfl) (by intro h; cases h)
def ty220 : Ty := { d := .struct, size := 0, bytes := 0, agg := true, zero := [], fs := [(218, 0)], eqOk := false }
theorem ty220_ok : TyOk Tryz.prog 220 ty220 := .of_tyOf (by
  have h1 : Tryz.prog.underlying 220 = _ := Tryz.underlying220
  have h2 : Tryz.prog.info? 220 = some Tryz.t220 := info_of Tryz.type220
  unfold tyOf; rw [h1, h2]; rfl) (by intro h; cases h)
def ty221 : Ty := { d := .int .u8, size := 1, bytes := 1, agg := false, zero := [.int .u8 0], fs := [], eqOk := false }
theorem ty221_ok : TyOk Tryz.prog 221 ty221 := .of_tyOf (by
  have h1 : Tryz.prog.underlying 221 = _ := Tryz.underlying221
  have h2 : Tryz.prog.info? 221 = some Tryz.t221 := info_of Tryz.type221
  unfold tyOf; rw [h1, h2]; rfl) (by intro h; cases h)
def ty222 : Ty := { d := .int .u8, size := 1, bytes := 1, agg := false, zero := [.int .u8 0], fs := [], eqOk := false }
theorem ty222_ok : TyOk Tryz.prog 222 ty222 := .of_tyOf (by
  have h1 : Tryz.prog.underlying 222 = _ := Tryz.underlying222
  have h2 : Tryz.prog.info? 222 = some Tryz.t222 := info_of Tryz.type222
  unfold tyOf; rw [h1, h2]; rfl) (by intro h; cases h)
def ty223 : Ty := { d := .func, size := 1, bytes := 8, agg := false, zero := [.nilfn], fs := [], eqOk := false }
theorem ty223_ok : TyOk Tryz.prog 223 ty223 := .of_tyOf (by
  have h1 : Tryz.prog.underlying 223 = _ := Tryz.underlying223
  have h2 : Tryz.prog.info? 223 = some Tryz.t223 := info_of Tryz.type223
  unfold tyOf; rw [h1, h2]; rfl) (by intro h; cases h)
def ty224 : Ty := { d := .pointer 5, size := 1, bytes := 8, agg := false, zero := [.nilptr], fs := [], eqOk := false }
theorem ty224_ok : TyOk Tryz.prog 224 ty224 := .of_tyOf (by
  have h1 : Tryz.prog.underlying 224 = _ := Tryz.underlying224
  have h2 : Tryz.prog.info? 224 = some Tryz.t224 := info_of Tryz.type224
  unfold tyOf; rw [h1, h2]; rfl) (by intro h; cases h)
def ty225 : Ty := { d := .int .i32, size := 1, bytes := 4, agg := false, zero := [.int .i32 0], fs := [], eqOk := false }
theorem ty225_ok : TyOk Tryz.prog 225 ty225 := .of_tyOf (by
  have h1 : Tryz.prog.underlying 225 = _ := Tryz.underlying225
  have h2 : Tryz.prog.info? 225 = some Tryz.t225 := info_of Tryz.type225
  unfold tyOf; rw [h1, h2]; rfl) (by intro h; cases h)
def ty226 : Ty := { d := .int .i32, size := 1, bytes := 4, agg := false, zero := [.int .i32 0], fs := [], eqOk := false }
theorem ty226_ok : TyOk Tryz.prog 226 ty226 := .of_tyOf (by
  have h1 : Tryz.prog.underlying 226 = _ := Tryz.underlying226
  have h2 : Tryz.prog.info? 226 = some Tryz.t226 := info_of Tryz.type226
  unfold tyOf; rw [h1, h2]; rfl) (by intro h; cases h)
def ty227 : Ty := { d := .struct, size := 11, bytes := 48, agg := true, zero := [.int .u64 0, .int .u64 0, .int .u32 0, .int .u8 0, .int .u8 0, .int .u8 0, .int .u8 0, .nilfn, .nilptr, .int .i32 0, .int .i32 0], fs := [(12, 0), (12, 1), (163, 2), (221, 3), (5, 4), (5, 5), (222, 6), (223, 7), (224, 8), (225, 9), (226, 10)], eqOk := false }
theorem ty227_ok : TyOk Tryz.prog 227 ty227 := .of_tyOf (by
  have h1 : Tryz.prog.underlying 227 = _ := Tryz.underlying227
  have h2 : Tryz.prog.info? 227 = some Tryz.t227 := info_of Tryz.type227
  unfold tyOf; rw [h1, h2]; rfl) (by intro h; cases h)
def ty228 : Ty := { d := .struct, size := 11, bytes := 48, agg := true, zero := [.int .u64 0, .int .u64 0, .int .u32 0, .int .u8 0, .int .u8 0, .int .u8 0, .int .u8 0, .nilfn, .nilptr, .int .i32 0, .int .i32 0], fs := [(12, 0), (12, 1), (163, 2), (221, 3), (5, 4), (5, 5), (222, 6), (223, 7), (224, 8), (225, 9), (226, 10)], eqOk := false }
theorem ty228_ok : TyOk Tryz.prog 228 ty228 := .of_tyOf (by
  have h1 : Tryz.prog.underlying 228 = _ := Tryz.underlying228
  have h2 : Tryz.prog.info? 228 = some Tryz.t228 := info_of Tryz.type228
  unfold tyOf; rw [h1, h2]; rfl) (by intro h; cases h)
def tys : Tree Ty := (.node 111 ty111 (.node 56 ty56 (.node 26 ty26 (.node 13 ty13 (.node 7 ty7 (.node 4 ty4 (.node 2 ty2 (.node 1 ty1 .leaf .leaf) (.node 3 ty3 .leaf .leaf)) (.node 6 ty6 (.node 5 ty5 .leaf .leaf) .leaf)) (.node 10 ty10 (.node 9 ty9 (.node 8 ty8 .leaf .leaf) .leaf) (.node 12 ty12 (.node 11 ty11 .leaf .leaf) .leaf))) (.node 20 ty20 (.node 17 ty17 (.node 15 ty15 (.node 14 ty14 .leaf .leaf) (.node 16 ty16 .leaf .leaf)) (.node 19 ty19 (.node 18 ty18 .leaf .leaf) .leaf)) (.node 23 ty23 (.node 22 ty22 (.node 21 ty21 .leaf .leaf) .leaf) (.node 25 ty25 (.node 24 ty24 .leaf .leaf) .leaf)))) (.node 42 ty42 (.node 34 ty34 (.node 30 ty30 (.node 28 ty28 (.node 27 ty27 .leaf .leaf) (.node 29 ty29 .leaf .leaf)) (.node 33 ty33 (.node 32 ty32 .leaf .leaf) .leaf)) (.node 38 ty38 (.node 37 ty37 (.node 36 ty36 .leaf .leaf) .leaf) (.node 41 ty41 (.node 40 ty40 .leaf .leaf) .leaf))) (.node 50 ty50 (.node 46 ty46 (.node 44 ty44 (.node 43 ty43 .leaf .leaf) (.node 45 ty45 .leaf .leaf)) (.node 49 ty49 (.node 47 ty47 .leaf .leaf) .leaf)) (.node 53 ty53 (.node 52 ty52 (.node 51 ty51 .leaf .leaf) .leaf) (.node 55 ty55 (.node 54 ty54 .leaf .leaf) .leaf))))) (.node 84 ty84 (.node 70 ty70 (.node 63 ty63 (.node 60 ty60 (.node 58 ty58 (.node 57 ty57 .leaf .leaf) (.node 59 ty59 .leaf .leaf)) (.node 62 ty62 (.node 61 ty61 .leaf .leaf) .leaf)) (.node 67 ty67 (.node 66 ty66 (.node 65 ty65 .leaf .leaf) .leaf) (.node 69 ty69 (.node 68 ty68 .leaf .leaf) .leaf))) (.node 77 ty77 (.node 74 ty74 (.node 72 ty72 (.node 71 ty71 .leaf .leaf) (.node 73 ty73 .leaf .leaf)) (.node 76 ty76 (.node 75 ty75 .leaf .leaf) .leaf)) (.node 80 ty80 (.node 79 ty79 (.node 78 ty78 .leaf .leaf) .leaf) (.node 83 ty83 (.node 81 ty81 .leaf .leaf) .leaf)))) (.node 99 ty99 (.node 92 ty92 (.node 89 ty89 (.node 87 ty87 (.node 85 ty85 .leaf .leaf) (.node 88 ty88 .leaf .leaf)) (.node 91 ty91 (.node 90 ty90 .leaf .leaf) .leaf)) (.node 96 ty96 (.node 95 ty95 (.node 94 ty94 .leaf .leaf) .leaf) (.node 98 ty98 (.node 97 ty97 .leaf .leaf) .leaf))) (.node 105 ty105 (.node 102 ty102 (.node 101 ty101 (.node 100 ty100 .leaf .leaf) .leaf) (.node 104 ty104 (.node 103 ty103 .leaf .leaf) .leaf)) (.node 108 ty108 (.node 107 ty107 (.node 106 ty106 .leaf .leaf) .leaf) (.node 110 ty110 (.node 109 ty109 .leaf .leaf) .leaf)))))) (.node 174 ty174 (.node 140 ty140 (.node 126 ty126 (.node 119 ty119 (.node 116 ty116 (.node 113 ty113 (.node 112 ty112 .leaf .leaf) (.node 114 ty114 .leaf .leaf)) (.node 118 ty118 (.node 117 ty117 .leaf .leaf) .leaf)) (.node 123 ty123 (.node 121 ty121 (.node 120 ty120 .leaf .leaf) .leaf) (.node 125 ty125 (.node 124 ty124 .leaf .leaf) .leaf))) (.node 133 ty133 (.node 130 ty130 (.node 128 ty128 (.node 127 ty127 .leaf .leaf) (.node 129 ty129 .leaf .leaf)) (.node 132 ty132 (.node 131 ty131 .leaf .leaf) .leaf)) (.node 136 ty136 (.node 135 ty135 (.node 134 ty134 .leaf .leaf) .leaf) (.node 139 ty139 (.node 137 ty137 .leaf .leaf) .leaf)))) (.node 158 ty158 (.node 150 ty150 (.node 145 ty145 (.node 142 ty142 (.node 141 ty141 .leaf .leaf) (.node 143 ty143 .leaf .leaf)) (.node 148 ty148 (.node 146 ty146 .leaf .leaf) .leaf)) (.node 153 ty153 (.node 152 ty152 (.node 151 ty151 .leaf .leaf) .leaf) (.node 157 ty157 (.node 155 ty155 .leaf .leaf) .leaf))) (.node 168 ty168 (.node 163 ty163 (.node 161 ty161 (.node 160 ty160 .leaf .leaf) (.node 162 ty162 .leaf .leaf)) (.node 167 ty167 (.node 165 ty165 .leaf .leaf) .leaf)) (.node 171 ty171 (.node 170 ty170 (.node 169 ty169 .leaf .leaf) .leaf) (.node 173 ty173 (.node 172 ty172 .leaf .leaf) .leaf))))) (.node 204 ty204 (.node 188 ty188 (.node 182 ty182 (.node 178 ty178 (.node 176 ty176 (.node 175 ty175 .leaf .leaf) (.node 177 ty177 .leaf .leaf)) (.node 181 ty181 (.node 180 ty180 .leaf .leaf) .leaf)) (.node 185 ty185 (.node 184 ty184 (.node 183 ty183 .leaf .leaf) .leaf) (.node 187 ty187 (.node 186 ty186 .leaf .leaf) .leaf))) (.node 197 ty197 (.node 194 ty194 (.node 192 ty192 (.node 190 ty190 .leaf .leaf) (.node 193 ty193 .leaf .leaf)) (.node 196 ty196 (.node 195 ty195 .leaf .leaf) .leaf)) (.node 201 ty201 (.node 200 ty200 (.node 198 ty198 .leaf .leaf) .leaf) (.node 203 ty203 (.node 202 ty202 .leaf .leaf) .leaf)))) (.node 217 ty217 (.node 211 ty211 (.node 208 ty208 (.node 206 ty206 (.node 205 ty205 .leaf .leaf) (.node 207 ty207 .leaf .leaf)) (.node 210 ty210 (.node 209 ty209 .leaf .leaf) .leaf)) (.node 214 ty214 (.node 213 ty213 (.node 212 ty212 .leaf .leaf) .leaf) (.node 216 ty216 (.node 215 ty215 .leaf .leaf) .leaf))) (.node 223 ty223 (.node 220 ty220 (.node 219 ty219 (.node 218 ty218 .leaf .leaf) .leaf) (.node 222 ty222 (.node 221 ty221 .leaf .leaf) .leaf)) (.node 226 ty226 (.node 225 ty225 (.node 224 ty224 .leaf .leaf) .leaf) (.node 228 ty228 (.node 227 ty227 .leaf .leaf) .leaf)))))))
theorem tys_ok : tys.All (TyOk Tryz.prog) := ⟨ty111_ok, ⟨ty56_ok, ⟨ty26_ok, ⟨ty13_ok, ⟨ty7_ok, ⟨ty4_ok, ⟨ty2_ok, ⟨ty1_ok, trivial, trivial⟩, ⟨ty3_ok, trivial, trivial⟩⟩, ⟨ty6_ok, ⟨ty5_ok, trivial, trivial⟩, trivial⟩⟩, ⟨ty10_ok, ⟨ty9_ok, ⟨ty8_ok, trivial, trivial⟩, trivial⟩, ⟨ty12_ok, ⟨ty11_ok, trivial, trivial⟩, trivial⟩⟩⟩, ⟨ty20_ok, ⟨ty17_ok, ⟨ty15_ok, ⟨ty14_ok, trivial, trivial⟩, ⟨ty16_ok, trivial, trivial⟩⟩, ⟨ty19_ok, ⟨ty18_ok, trivial, trivial⟩, trivial⟩⟩, ⟨ty23_ok, ⟨ty22_ok, ⟨ty21_ok, trivial, trivial⟩, trivial⟩, ⟨ty25_ok, ⟨ty24_ok, trivial, trivial⟩, trivial⟩⟩⟩⟩, ⟨ty42_ok, ⟨ty34_ok, ⟨ty30_ok, ⟨ty28_ok, ⟨ty27_ok, trivial, trivial⟩, ⟨ty29_ok, trivial, trivial⟩⟩, ⟨ty33_ok, ⟨ty32_ok, trivial, trivial⟩, trivial⟩⟩, ⟨ty38_ok, ⟨ty37_ok, ⟨ty36_ok, trivial, trivial⟩, trivial⟩, ⟨ty41_ok, ⟨ty40_ok, trivial, trivial⟩, trivial⟩⟩⟩, ⟨ty50_ok, ⟨ty46_ok, ⟨ty44_ok, ⟨ty43_ok, trivial, trivial⟩, ⟨ty45_ok, trivial, trivial⟩⟩, ⟨ty49_ok, ⟨ty47_ok, trivial, trivial⟩, trivial⟩⟩, ⟨ty53_ok, ⟨ty52_ok, ⟨ty51_ok, trivial, trivial⟩, trivial⟩, ⟨ty55_ok, ⟨ty54_ok, trivial, trivial⟩, trivial⟩⟩⟩⟩⟩, ⟨ty84_ok, ⟨ty70_ok, ⟨ty63_ok, ⟨ty60_ok, ⟨ty58_ok, ⟨ty57_ok, trivial, trivial⟩, ⟨ty59_ok, trivial, trivial⟩⟩, ⟨ty62_ok, ⟨ty61_ok, trivial, trivial⟩, trivial⟩⟩, ⟨ty67_ok, ⟨ty66_ok, ⟨ty65_ok, trivial, trivial⟩, trivial⟩, ⟨ty69_ok, ⟨ty68_ok, trivial, trivial⟩, trivial⟩⟩⟩, ⟨ty77_ok, ⟨ty74_ok, ⟨ty72_ok, ⟨ty71_ok, trivial, trivial⟩, ⟨ty73_ok, trivial, trivial⟩⟩, ⟨ty76_ok, ⟨ty75_ok, trivial, trivial⟩, trivial⟩⟩, ⟨ty80_ok, ⟨ty79_ok, ⟨ty78_ok, trivial, trivial⟩, trivial⟩, ⟨ty83_ok, ⟨ty81_ok, trivial, trivial⟩, trivial⟩⟩⟩⟩, ⟨ty99_ok, ⟨ty92_ok, ⟨ty89_ok, ⟨ty87_ok, ⟨ty85_ok, trivial, trivial⟩, ⟨ty88_ok, trivial, trivial⟩⟩, ⟨ty91_ok, ⟨ty90_ok, trivial, trivial⟩, trivial⟩⟩, ⟨ty96_ok, ⟨ty95_ok, ⟨ty94_ok, trivial, trivial⟩, trivial⟩, ⟨ty98_ok, ⟨ty97_ok, trivial, trivial⟩, trivial⟩⟩⟩, ⟨ty105_ok, ⟨ty102_ok, ⟨ty101_ok, ⟨ty100_ok, trivial, trivial⟩, trivial⟩, ⟨ty104_ok, ⟨ty103_ok, trivial, trivial⟩, trivial⟩⟩, ⟨ty108_ok, ⟨ty107_ok, ⟨ty106_ok, trivial, trivial⟩, trivial⟩, ⟨ty110_ok, ⟨ty109_ok, trivial, trivial⟩, trivial⟩⟩⟩⟩⟩⟩, ⟨ty174_ok, ⟨ty140_ok, ⟨ty126_ok, ⟨ty119_ok, ⟨ty116_ok, ⟨ty113_ok, ⟨ty112_ok, trivial, trivial⟩, ⟨ty114_ok, trivial, trivial⟩⟩, ⟨ty118_ok, ⟨ty117_ok, trivial, trivial⟩, trivial⟩⟩, ⟨ty123_ok, ⟨ty121_ok, ⟨ty120_ok, trivial, trivial⟩, trivial⟩, ⟨ty125_ok, ⟨ty124_ok, trivial, trivial⟩, trivial⟩⟩⟩, ⟨ty133_ok, ⟨ty130_ok, ⟨ty128_ok, ⟨ty127_ok, trivial, trivial⟩, ⟨ty129_ok, trivial, trivial⟩⟩, ⟨ty132_ok, ⟨ty131_ok, trivial, trivial⟩, trivial⟩⟩, ⟨ty136_ok, ⟨ty135_ok, ⟨ty134_ok, trivial, trivial⟩, trivial⟩, ⟨ty139_ok, ⟨ty137_ok, trivial, trivial⟩, trivial⟩⟩⟩⟩, ⟨ty158_ok, ⟨ty150_ok, ⟨ty145_ok, ⟨ty142_ok, ⟨ty141_ok, trivial, trivial⟩, ⟨ty143_ok, trivial, trivial⟩⟩, ⟨ty148_ok, ⟨ty146_ok, trivial, trivial⟩, trivial⟩⟩, ⟨ty153_ok, ⟨ty152_ok, ⟨ty151_ok, trivial, trivial⟩, trivial⟩, ⟨ty157_ok, ⟨ty155_ok, trivial, trivial⟩, trivial⟩⟩⟩, ⟨ty168_ok, ⟨ty163_ok, ⟨ty161_ok, ⟨ty160_ok, trivial, trivial⟩, ⟨ty162_ok, trivial, trivial⟩⟩, ⟨ty167_ok, ⟨ty165_ok, trivial, trivial⟩, trivial⟩⟩, ⟨ty171_ok, ⟨ty170_ok, ⟨ty169_ok, trivial, trivial⟩, trivial⟩, ⟨ty173_ok, ⟨ty172_ok, trivial, trivial⟩, trivial⟩⟩⟩⟩⟩, ⟨ty204_ok, ⟨ty188_ok, ⟨ty182_ok, ⟨ty178_ok, ⟨ty176_ok, ⟨ty175_ok, trivial, trivial⟩, ⟨ty177_ok, trivial, trivial⟩⟩, ⟨ty181_ok, ⟨ty180_ok, trivial, trivial⟩, trivial⟩⟩, ⟨ty185_ok, ⟨ty184_ok, ⟨ty183_ok, trivial, trivial⟩, trivial⟩, ⟨ty187_ok, ⟨ty186_ok, trivial, trivial⟩, trivial⟩⟩⟩, ⟨ty197_ok, ⟨ty194_ok, ⟨ty192_ok, ⟨ty190_ok, trivial, trivial⟩, ⟨ty193_ok, trivial, trivial⟩⟩, ⟨ty196_ok, ⟨ty195_ok, trivial, trivial⟩, trivial⟩⟩, ⟨ty201_ok, ⟨ty200_ok, ⟨ty198_ok, trivial, trivial⟩, trivial⟩, ⟨ty203_ok, ⟨ty202_ok, trivial, trivial⟩, trivial⟩⟩⟩⟩, ⟨ty217_ok, ⟨ty211_ok, ⟨ty208_ok, ⟨ty206_ok, ⟨ty205_ok, trivial, trivial⟩, ⟨ty207_ok, trivial, trivial⟩⟩, ⟨ty210_ok, ⟨ty209_ok, trivial, trivial⟩, trivial⟩⟩, ⟨ty214_ok, ⟨ty213_ok, ⟨ty212_ok, trivial, trivial⟩, trivial⟩, ⟨ty216_ok, ⟨ty215_ok, trivial, trivial⟩, trivial⟩⟩⟩, ⟨ty223_ok, ⟨ty220_ok, ⟨ty219_ok, ⟨ty218_ok, trivial, trivial⟩, trivial⟩, ⟨ty222_ok, ⟨ty221_ok, trivial, trivial⟩, trivial⟩⟩, ⟨ty226_ok, ⟨ty225_ok, ⟨ty224_ok, trivial, trivial⟩, trivial⟩, ⟨ty228_ok, ⟨ty227_ok, trivial, trivial⟩, trivial⟩⟩⟩⟩⟩⟩⟩
def mks : Nat → Nat → Bool := mkOf [(24, 7), (29, 4), (38, 4), (40, 22)]
def dyn : Nat → Nat → List (Nat × Nat) := dynOf [(29, 8, [(15, 8), (15, 9)]), (56, 15, [(9, 6)]), (6, 12, [(6, 0)]),(7, 9, [(41, 42)]),(8, 20, [(4, 7), (4, 8)]),(20, 4, [(2, 0)]),(27, 16, [(4, 7)]),(27, 33, [(5, 8)]),(27, 40, [(7, 3)]),(31, 21, [(3, 1), (12, 10)]),(31, 24, [(1, 3), (1, 4)]),(38, 4, [(4, 0), (4, 6), (4, 7)]),(39, 36, [(4, 7)]),(40, 10, [(2, 0)]),(40, 11, [(4, 0)]),(40, 18, [(3, 0), (3, 4), (3, 5), (7, 0), (7, 4), (11, 0)]),(40, 22, [(4, 0), (4, 6), (4, 7)]),(40, 24, [(2, 1)]),(45, 13, [(1, 2)]),(46, 1, [(3, 6), (3, 10), (3, 14), (7, 10), (7, 14), (11, 14)]),(52, 13, [(4, 7)]),(52, 19, [(13, 4)]),(52, 24, [(11, 5), (11, 7)]),(53, 26, [(2, 5), (2, 8), (2, 9), (6, 8), (6, 9)]),(53, 27, [(5, 1), (5, 8), (9, 1)]),(53, 32, [(10, 1)]),(53, 37, [(10, 1)]),(54, 24, [(5, 1), (5, 8), (9, 1)]),(54, 36, [(7, 1), (7, 3)]),(55, 20, [(5, 1), (5, 8), (9, 1)]),(55, 25, [(10, 1)]),(55, 30, [(7, 1), (7, 3)]),(61, 14, [(4, 7)]),(61, 23, [(12, 2), (12, 3)]),(61, 29, [(6, 9)]),(61, 42, [(6, 2)]),(63, 20, [(12, 2), (12, 3)]),(63, 26, [(3, 6)]),(63, 33, [(10, 1)]),(63, 38, [(7, 1), (7, 3)]),(69, 6, [(4, 7)]),(74, 1, [(2, 0)]),(86, 7, [(2, 3)]),(90, 7, [(3, 5)]),(93, 6, [(4, 7)]),(98, 19, [(4, 9), (4, 10)]),(100, 1, [(1, 3), (1, 4)]),(109, 10, [(4, 7)]),(118, 1, [(2, 4), (2, 7), (2, 10), (5, 7), (5, 10), (8, 10)]),(119, 10, [(7, 1), (7, 13), (7, 19), (7, 24), (14, 1), (14, 19), (14, 24), (20, 1), (20, 24), (25, 1)]),(119, 12, [(4, 1)]),(126, 4, [(5, 10), (5, 11)]),(143, 10, [(6, 4)]),(162, 0, [(10, 3), (10, 14), (10, 18), (10, 20), (21, 3), (21, 14), (26, 3)]),(162, 1, [(10, 3), (10, 14), (10, 18), (10, 20), (21, 3), (21, 14), (26, 3)])]
theorem fn3_ok : FnOk Tryz.prog dyn 3 (fi Tryz.f3) (mks 3) := ⟨⟨Tryz.f3, Tryz.func3, rfl, rfl, rfl, rfl⟩, by kernel_rfl⟩
theorem fn4_ok : FnOk Tryz.prog dyn 4 (fi Tryz.f4) (mks 4) := ⟨⟨Tryz.f4, Tryz.func4, rfl, rfl, rfl, rfl⟩, by kernel_rfl⟩
theorem fn5_ok : FnOk Tryz.prog dyn 5 (fi Tryz.f5) (mks 5) := ⟨⟨Tryz.f5, Tryz.func5, rfl, rfl, rfl, rfl⟩, by kernel_rfl⟩
theorem fn6_ok : FnOk Tryz.prog dyn 6 (fi Tryz.f6) (mks 6) := ⟨⟨Tryz.f6, Tryz.func6, rfl, rfl, rfl, rfl⟩, by kernel_rfl⟩
theorem fn7_ok : FnOk Tryz.prog dyn 7 (fi Tryz.f7) (mks 7) := ⟨⟨Tryz.f7, Tryz.func7, rfl, rfl, rfl, rfl⟩, by kernel_rfl⟩
theorem fn8_ok : FnOk Tryz.prog dyn 8 (fi Tryz.f8) (mks 8) := ⟨⟨Tryz.f8, Tryz.func8, rfl, rfl, rfl, rfl⟩, by kernel_rfl⟩
theorem fn9_ok : FnOk Tryz.prog dyn 9 (fi Tryz.f9) (mks 9) := ⟨⟨Tryz.f9, Tryz.func9, rfl, rfl, rfl, rfl⟩, by kernel_rfl⟩
theorem fn10_ok : FnOk Tryz.prog dyn 10 (fi Tryz.f10) (mks 10) := ⟨⟨Tryz.f10, Tryz.func10, rfl, rfl, rfl, rfl⟩, by kernel_rfl⟩
theorem fn11_ok : FnOk Tryz.prog dyn 11 (fi Tryz.f11) (mks 11) := ⟨⟨Tryz.f11, Tryz.func11, rfl, rfl, rfl, rfl⟩, by kernel_rfl⟩
theorem fn12_ok : FnOk Tryz.prog dyn 12 (fi Tryz.f12) (mks 12) := ⟨⟨Tryz.f12, Tryz.func12, rfl, rfl, rfl, rfl⟩, by kernel_rfl⟩
theorem fn13_ok : FnOk Tryz.prog dyn 13 (fi Tryz.f13) (mks 13) := ⟨⟨Tryz.f13, Tryz.func13, rfl, rfl, rfl, rfl⟩, by kernel_rfl⟩
theorem fn14_ok : FnOk Tryz.prog dyn 14 (fi Tryz.f14) (mks 14) := ⟨⟨Tryz.f14, Tryz.func14, rfl, rfl, rfl, rfl⟩, by kernel_rfl⟩
theorem fn15_ok : FnOk Tryz.prog dyn 15 (fi Tryz.f15) (mks 15) := ⟨⟨Tryz.f15, Tryz.func15, rfl, rfl, rfl, rfl⟩, by kernel_rfl⟩
theorem fn16_ok : FnOk Tryz.prog dyn 16 (fi Tryz.f16) (mks 16) := ⟨⟨Tryz.f16, Tryz.func16, rfl, rfl, rfl, rfl⟩, by kernel_rfl⟩
theorem fn17_ok : FnOk Tryz.prog dyn 17 (fi Tryz.f17) (mks 17) := ⟨⟨Tryz.f17, Tryz.func17, rfl, rfl, rfl, rfl⟩, by kernel_rfl⟩
theorem fn18_ok : FnOk Tryz.prog dyn 18 (fi Tryz.f18) (mks 18) := ⟨⟨Tryz.f18, Tryz.func18, rfl, rfl, rfl, rfl⟩, by kernel_rfl⟩
theorem fn19_ok : FnOk Tryz.prog dyn 19 (fi Tryz.f19) (mks 19) := ⟨⟨Tryz.f19, Tryz.func19, rfl, rfl, rfl, rfl⟩, by kernel_rfl⟩
theorem fn20_ok : FnOk Tryz.prog dyn 20 (fi Tryz.f20) (mks 20) := ⟨⟨Tryz.f20, Tryz.func20, rfl, rfl, rfl, rfl⟩, by kernel_rfl⟩
theorem fn21_ok : FnOk Tryz.prog dyn 21 (fi Tryz.f21) (mks 21) := ⟨⟨Tryz.f21, Tryz.func21, rfl, rfl, rfl, rfl⟩, by kernel_rfl⟩
theorem fn22_ok : FnOk Tryz.prog dyn 22 (fi Tryz.f22) (mks 22) := ⟨⟨Tryz.f22, Tryz.func22, rfl, rfl, rfl, rfl⟩, by kernel_rfl⟩
theorem fn23_ok : FnOk Tryz.prog dyn 23 (fi Tryz.f23) (mks 23) := ⟨⟨Tryz.f23, Tryz.func23, rfl, rfl, rfl, rfl⟩, by kernel_rfl⟩
theorem fn24_ok : FnOk Tryz.prog dyn 24 (fi Tryz.f24) (mks 24) := ⟨⟨Tryz.f24, Tryz.func24, rfl, rfl, rfl, rfl⟩, by kernel_rfl⟩
theorem fn25_ok : FnOk Tryz.prog dyn 25 (fi Tryz.f25) (mks 25) := ⟨⟨Tryz.f25, Tryz.func25, rfl, rfl, rfl, rfl⟩, by kernel_rfl⟩
theorem fn26_ok : FnOk Tryz.prog dyn 26 (fi Tryz.f26) (mks 26) := ⟨⟨Tryz.f26, Tryz.func26, rfl, rfl, rfl, rfl⟩, by kernel_rfl⟩
theorem fn27_ok : FnOk Tryz.prog dyn 27 (fi Tryz.f27) (mks 27) := ⟨⟨Tryz.f27, Tryz.func27, rfl, rfl, rfl, rfl⟩, by kernel_rfl⟩
theorem fn28_ok : FnOk Tryz.prog dyn 28 (fi Tryz.f28) (mks 28) := ⟨⟨Tryz.f28, Tryz.func28, rfl, rfl, rfl, rfl⟩, by kernel_rfl⟩
theorem fn29_ok : FnOk Tryz.prog dyn 29 (fi Tryz.f29) (mks 29) := ⟨⟨Tryz.f29, Tryz.func29, rfl, rfl, rfl, rfl⟩, by kernel_rfl⟩
theorem fn30_ok : FnOk Tryz.prog dyn 30 (fi Tryz.f30) (mks 30) := ⟨⟨Tryz.f30, Tryz.func30, rfl, rfl, rfl, rfl⟩, by kernel_rfl⟩
theorem fn31_ok : FnOk Tryz.prog dyn 31 (fi Tryz.f31) (mks 31) := ⟨⟨Tryz.f31, Tryz.func31, rfl, rfl, rfl, rfl⟩, by kernel_rfl⟩
theorem fn32_ok : FnOk Tryz.prog dyn 32 (fi Tryz.f32) (mks 32) := ⟨⟨Tryz.f32, Tryz.func32, rfl, rfl, rfl, rfl⟩, by kernel_rfl⟩
theorem fn33_ok : FnOk Tryz.prog dyn 33 (fi Tryz.f33) (mks 33) := ⟨⟨Tryz.f33, Tryz.func33, rfl, rfl, rfl, rfl⟩, by kernel_rfl⟩
theorem fn34_ok : FnOk Tryz.prog dyn 34 (fi Tryz.f34) (mks 34) := ⟨⟨Tryz.f34, Tryz.func34, rfl, rfl, rfl, rfl⟩, by kernel_rfl⟩
theorem fn35_ok : FnOk Tryz.prog dyn 35 (fi Tryz.f35) (mks 35) := ⟨⟨Tryz.f35, Tryz.func35, rfl, rfl, rfl, rfl⟩, by kernel_rfl⟩
theorem fn36_ok : FnOk Tryz.prog dyn 36 (fi Tryz.f36) (mks 36) := ⟨⟨Tryz.f36, Tryz.func36, rfl, rfl, rfl, rfl⟩, by kernel_rfl⟩
theorem fn37_ok : FnOk Tryz.prog dyn 37 (fi Tryz.f37) (mks 37) := ⟨⟨Tryz.f37, Tryz.func37, rfl, rfl, rfl, rfl⟩, by kernel_rfl⟩
theorem fn38_ok : FnOk Tryz.prog dyn 38 (fi Tryz.f38) (mks 38) := ⟨⟨Tryz.f38, Tryz.func38, rfl, rfl, rfl, rfl⟩, by kernel_rfl⟩
theorem fn39_ok : FnOk Tryz.prog dyn 39 (fi Tryz.f39) (mks 39) := ⟨⟨Tryz.f39, Tryz.func39, rfl, rfl, rfl, rfl⟩, by kernel_rfl⟩
theorem fn40_ok : FnOk Tryz.prog dyn 40 (fi Tryz.f40) (mks 40) := ⟨⟨Tryz.f40, Tryz.func40, rfl, rfl, rfl, rfl⟩, by kernel_rfl⟩
theorem fn41_ok : FnOk Tryz.prog dyn 41 (fi Tryz.f41) (mks 41) := ⟨⟨Tryz.f41, Tryz.func41, rfl, rfl, rfl, rfl⟩, by kernel_rfl⟩
theorem fn42_ok : FnOk Tryz.prog dyn 42 (fi Tryz.f42) (mks 42) := ⟨⟨Tryz.f42, Tryz.func42, rfl, rfl, rfl, rfl⟩, by kernel_rfl⟩
theorem fn43_ok : FnOk Tryz.prog dyn 43 (fi Tryz.f43) (mks 43) := ⟨⟨Tryz.f43, Tryz.func43, rfl, rfl, rfl, rfl⟩, by kernel_rfl⟩
theorem fn44_ok : FnOk Tryz.prog dyn 44 (fi Tryz.f44) (mks 44) := ⟨⟨Tryz.f44, Tryz.func44, rfl, rfl, rfl, rfl⟩, by kernel_rfl⟩
theorem fn45_ok : FnOk Tryz.prog dyn 45 (fi Tryz.f45) (mks 45) := ⟨⟨Tryz.f45, Tryz.func45, rfl, rfl, rfl, rfl⟩, by kernel_rfl⟩
theorem fn46_ok : FnOk Tryz.prog dyn 46 (fi Tryz.f46) (mks 46) := ⟨⟨Tryz.f46, Tryz.func46, rfl, rfl, rfl, rfl⟩, by kernel_rfl⟩
theorem fn47_ok : FnOk Tryz.prog dyn 47 (fi Tryz.f47) (mks 47) := ⟨⟨Tryz.f47, Tryz.func47, rfl, rfl, rfl, rfl⟩, by kernel_rfl⟩
theorem fn48_ok : FnOk Tryz.prog dyn 48 (fi Tryz.f48) (mks 48) := ⟨⟨Tryz.f48, Tryz.func48, rfl, rfl, rfl, rfl⟩, by kernel_rfl⟩
theorem fn49_ok : FnOk Tryz.prog dyn 49 (fi Tryz.f49) (mks 49) := ⟨⟨Tryz.f49, Tryz.func49, rfl, rfl, rfl, rfl⟩, by kernel_rfl⟩
theorem fn50_ok : FnOk Tryz.prog dyn 50 (fi Tryz.f50) (mks 50) := ⟨⟨Tryz.f50, Tryz.func50, rfl, rfl, rfl, rfl⟩, by kernel_rfl⟩
theorem fn51_ok : FnOk Tryz.prog dyn 51 (fi Tryz.f51) (mks 51) := ⟨⟨Tryz.f51, Tryz.func51, rfl, rfl, rfl, rfl⟩, by kernel_rfl⟩
theorem fn52_ok : FnOk Tryz.prog dyn 52 (fi Tryz.f52) (mks 52) := ⟨⟨Tryz.f52, Tryz.func52, rfl, rfl, rfl, rfl⟩, by kernel_rfl⟩
theorem fn53_ok : FnOk Tryz.prog dyn 53 (fi Tryz.f53) (mks 53) := ⟨⟨Tryz.f53, Tryz.func53, rfl, rfl, rfl, rfl⟩, by kernel_rfl⟩
theorem fn54_ok : FnOk Tryz.prog dyn 54 (fi Tryz.f54) (mks 54) := ⟨⟨Tryz.f54, Tryz.func54, rfl, rfl, rfl, rfl⟩, by kernel_rfl⟩
theorem fn55_ok : FnOk Tryz.prog dyn 55 (fi Tryz.f55) (mks 55) := ⟨⟨Tryz.f55, Tryz.func55, rfl, rfl, rfl, rfl⟩, by kernel_rfl⟩
theorem fn56_ok : FnOk Tryz.prog dyn 56 (fi Tryz.f56) (mks 56) := ⟨⟨Tryz.f56, Tryz.func56, rfl, rfl, rfl, rfl⟩, by kernel_rfl⟩
theorem fn57_ok : FnOk Tryz.prog dyn 57 (fi Tryz.f57) (mks 57) := ⟨⟨Tryz.f57, Tryz.func57, rfl, rfl, rfl, rfl⟩, by kernel_rfl⟩
theorem fn58_ok : FnOk Tryz.prog dyn 58 (fi Tryz.f58) (mks 58) := ⟨⟨Tryz.f58, Tryz.func58, rfl, rfl, rfl, rfl⟩, by kernel_rfl⟩
theorem fn59_ok : FnOk Tryz.prog dyn 59 (fi Tryz.f59) (mks 59) := ⟨⟨Tryz.f59, Tryz.func59, rfl, rfl, rfl, rfl⟩, by kernel_rfl⟩
theorem fn60_ok : FnOk Tryz.prog dyn 60 (fi Tryz.f60) (mks 60) := ⟨⟨Tryz.f60, Tryz.func60, rfl, rfl, rfl, rfl⟩, by kernel_rfl⟩
theorem fn61_ok : FnOk Tryz.prog dyn 61 (fi Tryz.f61) (mks 61) := ⟨⟨Tryz.f61, Tryz.func61, rfl, rfl, rfl, rfl⟩, by kernel_rfl⟩
theorem fn62_ok : FnOk Tryz.prog dyn 62 (fi Tryz.f62) (mks 62) := ⟨⟨Tryz.f62, Tryz.func62, rfl, rfl, rfl, rfl⟩, by kernel_rfl⟩
theorem fn63_ok : FnOk Tryz.prog dyn 63 (fi Tryz.f63) (mks 63) := ⟨⟨Tryz.f63, Tryz.func63, rfl, rfl, rfl, rfl⟩, by kernel_rfl⟩
theorem fn64_ok : FnOk Tryz.prog dyn 64 (fi Tryz.f64) (mks 64) := ⟨⟨Tryz.f64, Tryz.func64, rfl, rfl, rfl, rfl⟩, by kernel_rfl⟩
theorem fn65_ok : FnOk Tryz.prog dyn 65 (fi Tryz.f65) (mks 65) := ⟨⟨Tryz.f65, Tryz.func65, rfl, rfl, rfl, rfl⟩, by kernel_rfl⟩
theorem fn66_ok : FnOk Tryz.prog dyn 66 (fi Tryz.f66) (mks 66) := ⟨⟨Tryz.f66, Tryz.func66, rfl, rfl, rfl, rfl⟩, by kernel_rfl⟩
theorem fn67_ok : FnOk Tryz.prog dyn 67 (fi Tryz.f67) (mks 67) := ⟨⟨Tryz.f67, Tryz.func67, rfl, rfl, rfl, rfl⟩, by kernel_rfl⟩
theorem fn68_ok : FnOk Tryz.prog dyn 68 (fi Tryz.f68) (mks 68) := ⟨⟨Tryz.f68, Tryz.func68, rfl, rfl, rfl, rfl⟩, by kernel_rfl⟩
theorem fn69_ok : FnOk Tryz.prog dyn 69 (fi Tryz.f69) (mks 69) := ⟨⟨Tryz.f69, Tryz.func69, rfl, rfl, rfl, rfl⟩, by kernel_rfl⟩
theorem fn70_ok : FnOk Tryz.prog dyn 70 (fi Tryz.f70) (mks 70) := ⟨⟨Tryz.f70, Tryz.func70, rfl, rfl, rfl, rfl⟩, by kernel_rfl⟩
theorem fn71_ok : FnOk Tryz.prog dyn 71 (fi Tryz.f71) (mks 71) := ⟨⟨Tryz.f71, Tryz.func71, rfl, rfl, rfl, rfl⟩, by kernel_rfl⟩
theorem fn72_ok : FnOk Tryz.prog dyn 72 (fi Tryz.f72) (mks 72) := ⟨⟨Tryz.f72, Tryz.func72, rfl, rfl, rfl, rfl⟩, by kernel_rfl⟩
theorem fn73_ok : FnOk Tryz.prog dyn 73 (fi Tryz.f73) (mks 73) := ⟨⟨Tryz.f73, Tryz.func73, rfl, rfl, rfl, rfl⟩, by kernel_rfl⟩
theorem fn74_ok : FnOk Tryz.prog dyn 74 (fi Tryz.f74) (mks 74) := ⟨⟨Tryz.f74, Tryz.func74, rfl, rfl, rfl, rfl⟩, by kernel_rfl⟩
theorem fn75_ok : FnOk Tryz.prog dyn 75 (fi Tryz.f75) (mks 75) := ⟨⟨Tryz.f75, Tryz.func75, rfl, rfl, rfl, rfl⟩, by kernel_rfl⟩
theorem fn76_ok : FnOk Tryz.prog dyn 76 (fi Tryz.f76) (mks 76) := ⟨⟨Tryz.f76, Tryz.func76, rfl, rfl, rfl, rfl⟩, by kernel_rfl⟩
theorem fn77_ok : FnOk Tryz.prog dyn 77 (fi Tryz.f77) (mks 77) := ⟨⟨Tryz.f77, Tryz.func77, rfl, rfl, rfl, rfl⟩, by kernel_rfl⟩
theorem fn78_ok : FnOk Tryz.prog dyn 78 (fi Tryz.f78) (mks 78) := ⟨⟨Tryz.f78, Tryz.func78, rfl, rfl, rfl, rfl⟩, by kernel_rfl⟩
theorem fn79_ok : FnOk Tryz.prog dyn 79 (fi Tryz.f79) (mks 79) := ⟨⟨Tryz.f79, Tryz.func79, rfl, rfl, rfl, rfl⟩, by kernel_rfl⟩
theorem fn80_ok : FnOk Tryz.prog dyn 80 (fi Tryz.f80) (mks 80) := ⟨⟨Tryz.f80, Tryz.func80, rfl, rfl, rfl, rfl⟩, by kernel_rfl⟩
theorem fn81_ok : FnOk Tryz.prog dyn 81 (fi Tryz.f81) (mks 81) := ⟨⟨Tryz.f81, Tryz.func81, rfl, rfl, rfl, rfl⟩, by kernel_rfl⟩
theorem fn82_ok : FnOk Tryz.prog dyn 82 (fi Tryz.f82) (mks 82) := ⟨⟨Tryz.f82, Tryz.func82, rfl, rfl, rfl, rfl⟩, by kernel_rfl⟩
theorem fn83_ok : FnOk Tryz.prog dyn 83 (fi Tryz.f83) (mks 83) := ⟨⟨Tryz.f83, Tryz.func83, rfl, rfl, rfl, rfl⟩, by kernel_rfl⟩
theorem fn84_ok : FnOk Tryz.prog dyn 84 (fi Tryz.f84) (mks 84) := ⟨⟨Tryz.f84, Tryz.func84, rfl, rfl, rfl, rfl⟩, by kernel_rfl⟩
theorem fn85_ok : FnOk Tryz.prog dyn 85 (fi Tryz.f85) (mks 85) := ⟨⟨Tryz.f85, Tryz.func85, rfl, rfl, rfl, rfl⟩, by kernel_rfl⟩
theorem fn86_ok : FnOk Tryz.prog dyn 86 (fi Tryz.f86) (mks 86) := ⟨⟨Tryz.f86, Tryz.func86, rfl, rfl, rfl, rfl⟩, by kernel_rfl⟩
theorem fn87_ok : FnOk Tryz.prog dyn 87 (fi Tryz.f87) (mks 87) := ⟨⟨Tryz.f87, Tryz.func87, rfl, rfl, rfl, rfl⟩, by kernel_rfl⟩
theorem fn88_ok : FnOk Tryz.prog dyn 88 (fi Tryz.f88) (mks 88) := ⟨⟨Tryz.f88, Tryz.func88, rfl, rfl, rfl, rfl⟩, by kernel_rfl⟩
theorem fn89_ok : FnOk Tryz.prog dyn 89 (fi Tryz.f89) (mks 89) := ⟨⟨Tryz.f89, Tryz.func89, rfl, rfl, rfl, rfl⟩, by kernel_rfl⟩
theorem fn90_ok : FnOk Tryz.prog dyn 90 (fi Tryz.f90) (mks 90) := ⟨⟨Tryz.f90, Tryz.func90, rfl, rfl, rfl, rfl⟩, by kernel_rfl⟩
theorem fn91_ok : FnOk Tryz.prog dyn 91 (fi Tryz.f91) (mks 91) := ⟨⟨Tryz.f91, Tryz.func91, rfl, rfl, rfl, rfl⟩, by kernel_rfl⟩
theorem fn92_ok : FnOk Tryz.prog dyn 92 (fi Tryz.f92) (mks 92) := ⟨⟨Tryz.f92, Tryz.func92, rfl, rfl, rfl, rfl⟩, by kernel_rfl⟩
theorem fn93_ok : FnOk Tryz.prog dyn 93 (fi Tryz.f93) (mks 93) := ⟨⟨Tryz.f93, Tryz.func93, rfl, rfl, rfl, rfl⟩, by kernel_rfl⟩
theorem fn94_ok : FnOk Tryz.prog dyn 94 (fi Tryz.f94) (mks 94) := ⟨⟨Tryz.f94, Tryz.func94, rfl, rfl, rfl, rfl⟩, by kernel_rfl⟩
theorem fn95_ok : FnOk Tryz.prog dyn 95 (fi Tryz.f95) (mks 95) := ⟨⟨Tryz.f95, Tryz.func95, rfl, rfl, rfl, rfl⟩, by kernel_rfl⟩
theorem fn96_ok : FnOk Tryz.prog dyn 96 (fi Tryz.f96) (mks 96) := ⟨⟨Tryz.f96, Tryz.func96, rfl, rfl, rfl, rfl⟩, by kernel_rfl⟩
theorem fn97_ok : FnOk Tryz.prog dyn 97 (fi Tryz.f97) (mks 97) := ⟨⟨Tryz.f97, Tryz.func97, rfl, rfl, rfl, rfl⟩, by kernel_rfl⟩
theorem fn98_ok : FnOk Tryz.prog dyn 98 (fi Tryz.f98) (mks 98) := ⟨⟨Tryz.f98, Tryz.func98, rfl, rfl, rfl, rfl⟩, by kernel_rfl⟩
theorem fn99_ok : FnOk Tryz.prog dyn 99 (fi Tryz.f99) (mks 99) := ⟨⟨Tryz.f99, Tryz.func99, rfl, rfl, rfl, rfl⟩, by kernel_rfl⟩
theorem fn100_ok : FnOk Tryz.prog dyn 100 (fi Tryz.f100) (mks 100) := ⟨⟨Tryz.f100, Tryz.func100, rfl, rfl, rfl, rfl⟩, by kernel_rfl⟩
theorem fn101_ok : FnOk Tryz.prog dyn 101 (fi Tryz.f101) (mks 101) := ⟨⟨Tryz.f101, Tryz.func101, rfl, rfl, rfl, rfl⟩, by kernel_rfl⟩
theorem fn102_ok : FnOk Tryz.prog dyn 102 (fi Tryz.f102) (mks 102) := ⟨⟨Tryz.f102, Tryz.func102, rfl, rfl, rfl, rfl⟩, by kernel_rfl⟩
theorem fn103_ok : FnOk Tryz.prog dyn 103 (fi Tryz.f103) (mks 103) := ⟨⟨Tryz.f103, Tryz.func103, rfl, rfl, rfl, rfl⟩, by kernel_rfl⟩
theorem fn104_ok : FnOk Tryz.prog dyn 104 (fi Tryz.f104) (mks 104) := ⟨⟨Tryz.f104, Tryz.func104, rfl, rfl, rfl, rfl⟩, by kernel_rfl⟩
theorem fn105_ok : FnOk Tryz.prog dyn 105 (fi Tryz.f105) (mks 105) := ⟨⟨Tryz.f105, Tryz.func105, rfl, rfl, rfl, rfl⟩, by kernel_rfl⟩
theorem fn106_ok : FnOk Tryz.prog dyn 106 (fi Tryz.f106) (mks 106) := ⟨⟨Tryz.f106, Tryz.func106, rfl, rfl, rfl, rfl⟩, by kernel_rfl⟩
theorem fn107_ok : FnOk Tryz.prog dyn 107 (fi Tryz.f107) (mks 107) := ⟨⟨Tryz.f107, Tryz.func107, rfl, rfl, rfl, rfl⟩, by kernel_rfl⟩
theorem fn108_ok : FnOk Tryz.prog dyn 108 (fi Tryz.f108) (mks 108) := ⟨⟨Tryz.f108, Tryz.func108, rfl, rfl, rfl, rfl⟩, by kernel_rfl⟩
theorem fn109_ok : FnOk Tryz.prog dyn 109 (fi Tryz.f109) (mks 109) := ⟨⟨Tryz.f109, Tryz.func109, rfl, rfl, rfl, rfl⟩, by kernel_rfl⟩
theorem fn110_ok : FnOk Tryz.prog dyn 110 (fi Tryz.f110) (mks 110) := ⟨⟨Tryz.f110, Tryz.func110, rfl, rfl, rfl, rfl⟩, by kernel_rfl⟩
theorem fn111_ok : FnOk Tryz.prog dyn 111 (fi Tryz.f111) (mks 111) := ⟨⟨Tryz.f111, Tryz.func111, rfl, rfl, rfl, rfl⟩, by kernel_rfl⟩
theorem fn112_ok : FnOk Tryz.prog dyn 112 (fi Tryz.f112) (mks 112) := ⟨⟨Tryz.f112, Tryz.func112, rfl, rfl, rfl, rfl⟩, by kernel_rfl⟩
theorem fn113_ok : FnOk Tryz.prog dyn 113 (fi Tryz.f113) (mks 113) := ⟨⟨Tryz.f113, Tryz.func113, rfl, rfl, rfl, rfl⟩, by kernel_rfl⟩
theorem fn114_ok : FnOk Tryz.prog dyn 114 (fi Tryz.f114) (mks 114) := ⟨⟨Tryz.f114, Tryz.func114, rfl, rfl, rfl, rfl⟩, by kernel_rfl⟩
theorem fn115_ok : FnOk Tryz.prog dyn 115 (fi Tryz.f115) (mks 115) := ⟨⟨Tryz.f115, Tryz.func115, rfl, rfl, rfl, rfl⟩, by kernel_rfl⟩
theorem fn116_ok : FnOk Tryz.prog dyn 116 (fi Tryz.f116) (mks 116) := ⟨⟨Tryz.f116, Tryz.func116, rfl, rfl, rfl, rfl⟩, by kernel_rfl⟩
theorem fn117_ok : FnOk Tryz.prog dyn 117 (fi Tryz.f117) (mks 117) := ⟨⟨Tryz.f117, Tryz.func117, rfl, rfl, rfl, rfl⟩, by kernel_rfl⟩
theorem fn118_ok : FnOk Tryz.prog dyn 118 (fi Tryz.f118) (mks 118) := ⟨⟨Tryz.f118, Tryz.func118, rfl, rfl, rfl, rfl⟩, by kernel_rfl⟩
theorem fn120_ok : FnOk Tryz.prog dyn 120 (fi Tryz.f120) (mks 120) := ⟨⟨Tryz.f120, Tryz.func120, rfl, rfl, rfl, rfl⟩, by kernel_rfl⟩
theorem fn122_ok : FnOk Tryz.prog dyn 122 (fi Tryz.f122) (mks 122) := ⟨⟨Tryz.f122, Tryz.func122, rfl, rfl, rfl, rfl⟩, by kernel_rfl⟩
theorem fn123_ok : FnOk Tryz.prog dyn 123 (fi Tryz.f123) (mks 123) := ⟨⟨Tryz.f123, Tryz.func123, rfl, rfl, rfl, rfl⟩, by kernel_rfl⟩
theorem fn124_ok : FnOk Tryz.prog dyn 124 (fi Tryz.f124) (mks 124) := ⟨⟨Tryz.f124, Tryz.func124, rfl, rfl, rfl, rfl⟩, by kernel_rfl⟩
theorem fn125_ok : FnOk Tryz.prog dyn 125 (fi Tryz.f125) (mks 125) := ⟨⟨Tryz.f125, Tryz.func125, rfl, rfl, rfl, rfl⟩, by kernel_rfl⟩
theorem fn126_ok : FnOk Tryz.prog dyn 126 (fi Tryz.f126) (mks 126) := ⟨⟨Tryz.f126, Tryz.func126, rfl, rfl, rfl, rfl⟩, by kernel_rfl⟩
theorem fn127_ok : FnOk Tryz.prog dyn 127 (fi Tryz.f127) (mks 127) := ⟨⟨Tryz.f127, Tryz.func127, rfl, rfl, rfl, rfl⟩, by kernel_rfl⟩
theorem fn128_ok : FnOk Tryz.prog dyn 128 (fi Tryz.f128) (mks 128) := ⟨⟨Tryz.f128, Tryz.func128, rfl, rfl, rfl, rfl⟩, by kernel_rfl⟩
theorem fn129_ok : FnOk Tryz.prog dyn 129 (fi Tryz.f129) (mks 129) := ⟨⟨Tryz.f129, Tryz.func129, rfl, rfl, rfl, rfl⟩, by kernel_rfl⟩
theorem fn130_ok : FnOk Tryz.prog dyn 130 (fi Tryz.f130) (mks 130) := ⟨⟨Tryz.f130, Tryz.func130, rfl, rfl, rfl, rfl⟩, by kernel_rfl⟩
theorem fn131_ok : FnOk Tryz.prog dyn 131 (fi Tryz.f131) (mks 131) := ⟨⟨Tryz.f131, Tryz.func131, rfl, rfl, rfl, rfl⟩, by kernel_rfl⟩
theorem fn132_ok : FnOk Tryz.prog dyn 132 (fi Tryz.f132) (mks 132) := ⟨⟨Tryz.f132, Tryz.func132, rfl, rfl, rfl, rfl⟩, by kernel_rfl⟩
theorem fn133_ok : FnOk Tryz.prog dyn 133 (fi Tryz.f133) (mks 133) := ⟨⟨Tryz.f133, Tryz.func133, rfl, rfl, rfl, rfl⟩, by kernel_rfl⟩
theorem fn134_ok : FnOk Tryz.prog dyn 134 (fi Tryz.f134) (mks 134) := ⟨⟨Tryz.f134, Tryz.func134, rfl, rfl, rfl, rfl⟩, by kernel_rfl⟩
theorem fn135_ok : FnOk Tryz.prog dyn 135 (fi Tryz.f135) (mks 135) := ⟨⟨Tryz.f135, Tryz.func135, rfl, rfl, rfl, rfl⟩, by kernel_rfl⟩
theorem fn136_ok : FnOk Tryz.prog dyn 136 (fi Tryz.f136) (mks 136) := ⟨⟨Tryz.f136, Tryz.func136, rfl, rfl, rfl, rfl⟩, by kernel_rfl⟩
theorem fn137_ok : FnOk Tryz.prog dyn 137 (fi Tryz.f137) (mks 137) := ⟨⟨Tryz.f137, Tryz.func137, rfl, rfl, rfl, rfl⟩, by kernel_rfl⟩
theorem fn138_ok : FnOk Tryz.prog dyn 138 (fi Tryz.f138) (mks 138) := ⟨⟨Tryz.f138, Tryz.func138, rfl, rfl, rfl, rfl⟩, by kernel_rfl⟩
theorem fn139_ok : FnOk Tryz.prog dyn 139 (fi Tryz.f139) (mks 139) := ⟨⟨Tryz.f139, Tryz.func139, rfl, rfl, rfl, rfl⟩, by kernel_rfl⟩
theorem fn147_ok : FnOk Tryz.prog dyn 147 (fi Tryz.f147) (mks 147) := ⟨⟨Tryz.f147, Tryz.func147, rfl, rfl, rfl, rfl⟩, by kernel_rfl⟩
theorem fn148_ok : FnOk Tryz.prog dyn 148 (fi Tryz.f148) (mks 148) := ⟨⟨Tryz.f148, Tryz.func148, rfl, rfl, rfl, rfl⟩, by kernel_rfl⟩
theorem fn149_ok : FnOk Tryz.prog dyn 149 (fi Tryz.f149) (mks 149) := ⟨⟨Tryz.f149, Tryz.func149, rfl, rfl, rfl, rfl⟩, by kernel_rfl⟩
theorem fn150_ok : FnOk Tryz.prog dyn 150 (fi Tryz.f150) (mks 150) := ⟨⟨Tryz.f150, Tryz.func150, rfl, rfl, rfl, rfl⟩, by kernel_rfl⟩
theorem fn151_ok : FnOk Tryz.prog dyn 151 (fi Tryz.f151) (mks 151) := ⟨⟨Tryz.f151, Tryz.func151, rfl, rfl, rfl, rfl⟩, by kernel_rfl⟩
theorem fn152_ok : FnOk Tryz.prog dyn 152 (fi Tryz.f152) (mks 152) := ⟨⟨Tryz.f152, Tryz.func152, rfl, rfl, rfl, rfl⟩, by kernel_rfl⟩
theorem fn154_ok : FnOk Tryz.prog dyn 154 (fi Tryz.f154) (mks 154) := ⟨⟨Tryz.f154, Tryz.func154, rfl, rfl, rfl, rfl⟩, by kernel_rfl⟩
theorem fn168_ok : FnOk Tryz.prog dyn 168 (fi Tryz.f168) (mks 168) := ⟨⟨Tryz.f168, Tryz.func168, rfl, rfl, rfl, rfl⟩, by kernel_rfl⟩
theorem fn169_ok : FnOk Tryz.prog dyn 169 (fi Tryz.f169) (mks 169) := ⟨⟨Tryz.f169, Tryz.func169, rfl, rfl, rfl, rfl⟩, by kernel_rfl⟩
theorem fn171_ok : FnOk Tryz.prog dyn 171 (fi Tryz.f171) (mks 171) := ⟨⟨Tryz.f171, Tryz.func171, rfl, rfl, rfl, rfl⟩, by kernel_rfl⟩
noncomputable def fns : Tree FnI := (.node 75 (fi Tryz.f75) (.node 39 (fi Tryz.f39) (.node 21 (fi Tryz.f21) (.node 12 (fi Tryz.f12) (.node 7 (fi Tryz.f7) (.node 5 (fi Tryz.f5) (.node 4 (fi Tryz.f4) (.node 3 (fi Tryz.f3) .leaf .leaf) .leaf) (.node 6 (fi Tryz.f6) .leaf .leaf)) (.node 10 (fi Tryz.f10) (.node 9 (fi Tryz.f9) (.node 8 (fi Tryz.f8) .leaf .leaf) .leaf) (.node 11 (fi Tryz.f11) .leaf .leaf))) (.node 17 (fi Tryz.f17) (.node 15 (fi Tryz.f15) (.node 14 (fi Tryz.f14) (.node 13 (fi Tryz.f13) .leaf .leaf) .leaf) (.node 16 (fi Tryz.f16) .leaf .leaf)) (.node 19 (fi Tryz.f19) (.node 18 (fi Tryz.f18) .leaf .leaf) (.node 20 (fi Tryz.f20) .leaf .leaf)))) (.node 30 (fi Tryz.f30) (.node 26 (fi Tryz.f26) (.node 24 (fi Tryz.f24) (.node 23 (fi Tryz.f23) (.node 22 (fi Tryz.f22) .leaf .leaf) .leaf) (.node 25 (fi Tryz.f25) .leaf .leaf)) (.node 28 (fi Tryz.f28) (.node 27 (fi Tryz.f27) .leaf .leaf) (.node 29 (fi Tryz.f29) .leaf .leaf))) (.node 35 (fi Tryz.f35) (.node 33 (fi Tryz.f33) (.node 32 (fi Tryz.f32) (.node 31 (fi Tryz.f31) .leaf .leaf) .leaf) (.node 34 (fi Tryz.f34) .leaf .leaf)) (.node 37 (fi Tryz.f37) (.node 36 (fi Tryz.f36) .leaf .leaf) (.node 38 (fi Tryz.f38) .leaf .leaf))))) (.node 57 (fi Tryz.f57) (.node 48 (fi Tryz.f48) (.node 44 (fi Tryz.f44) (.node 42 (fi Tryz.f42) (.node 41 (fi Tryz.f41) (.node 40 (fi Tryz.f40) .leaf .leaf) .leaf) (.node 43 (fi Tryz.f43) .leaf .leaf)) (.node 46 (fi Tryz.f46) (.node 45 (fi Tryz.f45) .leaf .leaf) (.node 47 (fi Tryz.f47) .leaf .leaf))) (.node 53 (fi Tryz.f53) (.node 51 (fi Tryz.f51) (.node 50 (fi Tryz.f50) (.node 49 (fi Tryz.f49) .leaf .leaf) .leaf) (.node 52 (fi Tryz.f52) .leaf .leaf)) (.node 55 (fi Tryz.f55) (.node 54 (fi Tryz.f54) .leaf .leaf) (.node 56 (fi Tryz.f56) .leaf .leaf)))) (.node 66 (fi Tryz.f66) (.node 62 (fi Tryz.f62) (.node 60 (fi Tryz.f60) (.node 59 (fi Tryz.f59) (.node 58 (fi Tryz.f58) .leaf .leaf) .leaf) (.node 61 (fi Tryz.f61) .leaf .leaf)) (.node 64 (fi Tryz.f64) (.node 63 (fi Tryz.f63) .leaf .leaf) (.node 65 (fi Tryz.f65) .leaf .leaf))) (.node 71 (fi Tryz.f71) (.node 69 (fi Tryz.f69) (.node 68 (fi Tryz.f68) (.node 67 (fi Tryz.f67) .leaf .leaf) .leaf) (.node 70 (fi Tryz.f70) .leaf .leaf)) (.node 73 (fi Tryz.f73) (.node 72 (fi Tryz.f72) .leaf .leaf) (.node 74 (fi Tryz.f74) .leaf .leaf)))))) (.node 112 (fi Tryz.f112) (.node 94 (fi Tryz.f94) (.node 85 (fi Tryz.f85) (.node 80 (fi Tryz.f80) (.node 78 (fi Tryz.f78) (.node 77 (fi Tryz.f77) (.node 76 (fi Tryz.f76) .leaf .leaf) .leaf) (.node 79 (fi Tryz.f79) .leaf .leaf)) (.node 83 (fi Tryz.f83) (.node 82 (fi Tryz.f82) (.node 81 (fi Tryz.f81) .leaf .leaf) .leaf) (.node 84 (fi Tryz.f84) .leaf .leaf))) (.node 90 (fi Tryz.f90) (.node 88 (fi Tryz.f88) (.node 87 (fi Tryz.f87) (.node 86 (fi Tryz.f86) .leaf .leaf) .leaf) (.node 89 (fi Tryz.f89) .leaf .leaf)) (.node 92 (fi Tryz.f92) (.node 91 (fi Tryz.f91) .leaf .leaf) (.node 93 (fi Tryz.f93) .leaf .leaf)))) (.node 103 (fi Tryz.f103) (.node 99 (fi Tryz.f99) (.node 97 (fi Tryz.f97) (.node 96 (fi Tryz.f96) (.node 95 (fi Tryz.f95) .leaf .leaf) .leaf) (.node 98 (fi Tryz.f98) .leaf .leaf)) (.node 101 (fi Tryz.f101) (.node 100 (fi Tryz.f100) .leaf .leaf) (.node 102 (fi Tryz.f102) .leaf .leaf))) (.node 108 (fi Tryz.f108) (.node 106 (fi Tryz.f106) (.node 105 (fi Tryz.f105) (.node 104 (fi Tryz.f104) .leaf .leaf) .leaf) (.node 107 (fi Tryz.f107) .leaf .leaf)) (.node 110 (fi Tryz.f110) (.node 109 (fi Tryz.f109) .leaf .leaf) (.node 111 (fi Tryz.f111) .leaf .leaf))))) (.node 132 (fi Tryz.f132) (.node 123 (fi Tryz.f123) (.node 117 (fi Tryz.f117) (.node 115 (fi Tryz.f115) (.node 114 (fi Tryz.f114) (.node 113 (fi Tryz.f113) .leaf .leaf) .leaf) (.node 116 (fi Tryz.f116) .leaf .leaf)) (.node 120 (fi Tryz.f120) (.node 118 (fi Tryz.f118) .leaf .leaf) (.node 122 (fi Tryz.f122) .leaf .leaf))) (.node 128 (fi Tryz.f128) (.node 126 (fi Tryz.f126) (.node 125 (fi Tryz.f125) (.node 124 (fi Tryz.f124) .leaf .leaf) .leaf) (.node 127 (fi Tryz.f127) .leaf .leaf)) (.node 130 (fi Tryz.f130) (.node 129 (fi Tryz.f129) .leaf .leaf) (.node 131 (fi Tryz.f131) .leaf .leaf)))) (.node 148 (fi Tryz.f148) (.node 137 (fi Tryz.f137) (.node 135 (fi Tryz.f135) (.node 134 (fi Tryz.f134) (.node 133 (fi Tryz.f133) .leaf .leaf) .leaf) (.node 136 (fi Tryz.f136) .leaf .leaf)) (.node 139 (fi Tryz.f139) (.node 138 (fi Tryz.f138) .leaf .leaf) (.node 147 (fi Tryz.f147) .leaf .leaf))) (.node 154 (fi Tryz.f154) (.node 151 (fi Tryz.f151) (.node 150 (fi Tryz.f150) (.node 149 (fi Tryz.f149) .leaf .leaf) .leaf) (.node 152 (fi Tryz.f152) .leaf .leaf)) (.node 169 (fi Tryz.f169) (.node 168 (fi Tryz.f168) .leaf .leaf) (.node 171 (fi Tryz.f171) .leaf .leaf)))))))
theorem fns_ok : fns.All (fun f i => FnOk Tryz.prog dyn f i (mks f)) := ⟨fn75_ok, ⟨fn39_ok, ⟨fn21_ok, ⟨fn12_ok, ⟨fn7_ok, ⟨fn5_ok, ⟨fn4_ok, ⟨fn3_ok, trivial, trivial⟩, trivial⟩, ⟨fn6_ok, trivial, trivial⟩⟩, ⟨fn10_ok, ⟨fn9_ok, ⟨fn8_ok, trivial, trivial⟩, trivial⟩, ⟨fn11_ok, trivial, trivial⟩⟩⟩, ⟨fn17_ok, ⟨fn15_ok, ⟨fn14_ok, ⟨fn13_ok, trivial, trivial⟩, trivial⟩, ⟨fn16_ok, trivial, trivial⟩⟩, ⟨fn19_ok, ⟨fn18_ok, trivial, trivial⟩, ⟨fn20_ok, trivial, trivial⟩⟩⟩⟩, ⟨fn30_ok, ⟨fn26_ok, ⟨fn24_ok, ⟨fn23_ok, ⟨fn22_ok, trivial, trivial⟩, trivial⟩, ⟨fn25_ok, trivial, trivial⟩⟩, ⟨fn28_ok, ⟨fn27_ok, trivial, trivial⟩, ⟨fn29_ok, trivial, trivial⟩⟩⟩, ⟨fn35_ok, ⟨fn33_ok, ⟨fn32_ok, ⟨fn31_ok, trivial, trivial⟩, trivial⟩, ⟨fn34_ok, trivial, trivial⟩⟩, ⟨fn37_ok, ⟨fn36_ok, trivial, trivial⟩, ⟨fn38_ok, trivial, trivial⟩⟩⟩⟩⟩, ⟨fn57_ok, ⟨fn48_ok, ⟨fn44_ok, ⟨fn42_ok, ⟨fn41_ok, ⟨fn40_ok, trivial, trivial⟩, trivial⟩, ⟨fn43_ok, trivial, trivial⟩⟩, ⟨fn46_ok, ⟨fn45_ok, trivial, trivial⟩, ⟨fn47_ok, trivial, trivial⟩⟩⟩, ⟨fn53_ok, ⟨fn51_ok, ⟨fn50_ok, ⟨fn49_ok, trivial, trivial⟩, trivial⟩, ⟨fn52_ok, trivial, trivial⟩⟩, ⟨fn55_ok, ⟨fn54_ok, trivial, trivial⟩, ⟨fn56_ok, trivial, trivial⟩⟩⟩⟩, ⟨fn66_ok, ⟨fn62_ok, ⟨fn60_ok, ⟨fn59_ok, ⟨fn58_ok, trivial, trivial⟩, trivial⟩, ⟨fn61_ok, trivial, trivial⟩⟩, ⟨fn64_ok, ⟨fn63_ok, trivial, trivial⟩, ⟨fn65_ok, trivial, trivial⟩⟩⟩, ⟨fn71_ok, ⟨fn69_ok, ⟨fn68_ok, ⟨fn67_ok, trivial, trivial⟩, trivial⟩, ⟨fn70_ok, trivial, trivial⟩⟩, ⟨fn73_ok, ⟨fn72_ok, trivial, trivial⟩, ⟨fn74_ok, trivial, trivial⟩⟩⟩⟩⟩⟩, ⟨fn112_ok, ⟨fn94_ok, ⟨fn85_ok, ⟨fn80_ok, ⟨fn78_ok, ⟨fn77_ok, ⟨fn76_ok, trivial, trivial⟩, trivial⟩, ⟨fn79_ok, trivial, trivial⟩⟩, ⟨fn83_ok, ⟨fn82_ok, ⟨fn81_ok, trivial, trivial⟩, trivial⟩, ⟨fn84_ok, trivial, trivial⟩⟩⟩, ⟨fn90_ok, ⟨fn88_ok, ⟨fn87_ok, ⟨fn86_ok, trivial, trivial⟩, trivial⟩, ⟨fn89_ok, trivial, trivial⟩⟩, ⟨fn92_ok, ⟨fn91_ok, trivial, trivial⟩, ⟨fn93_ok, trivial, trivial⟩⟩⟩⟩, ⟨fn103_ok, ⟨fn99_ok, ⟨fn97_ok, ⟨fn96_ok, ⟨fn95_ok, trivial, trivial⟩, trivial⟩, ⟨fn98_ok, trivial, trivial⟩⟩, ⟨fn101_ok, ⟨fn100_ok, trivial, trivial⟩, ⟨fn102_ok, trivial, trivial⟩⟩⟩, ⟨fn108_ok, ⟨fn106_ok, ⟨fn105_ok, ⟨fn104_ok, trivial, trivial⟩, trivial⟩, ⟨fn107_ok, trivial, trivial⟩⟩, ⟨fn110_ok, ⟨fn109_ok, trivial, trivial⟩, ⟨fn111_ok, trivial, trivial⟩⟩⟩⟩⟩, ⟨fn132_ok, ⟨fn123_ok, ⟨fn117_ok, ⟨fn115_ok, ⟨fn114_ok, ⟨fn113_ok, trivial, trivial⟩, trivial⟩, ⟨fn116_ok, trivial, trivial⟩⟩, ⟨fn120_ok, ⟨fn118_ok, trivial, trivial⟩, ⟨fn122_ok, trivial, trivial⟩⟩⟩, ⟨fn128_ok, ⟨fn126_ok, ⟨fn125_ok, ⟨fn124_ok, trivial, trivial⟩, trivial⟩, ⟨fn127_ok, trivial, trivial⟩⟩, ⟨fn130_ok, ⟨fn129_ok, trivial, trivial⟩, ⟨fn131_ok, trivial, trivial⟩⟩⟩⟩, ⟨fn148_ok, ⟨fn137_ok, ⟨fn135_ok, ⟨fn134_ok, ⟨fn133_ok, trivial, trivial⟩, trivial⟩, ⟨fn136_ok, trivial, trivial⟩⟩, ⟨fn139_ok, ⟨fn138_ok, trivial, trivial⟩, ⟨fn147_ok, trivial, trivial⟩⟩⟩, ⟨fn154_ok, ⟨fn151_ok, ⟨fn150_ok, ⟨fn149_ok, trivial, trivial⟩, trivial⟩, ⟨fn152_ok, trivial, trivial⟩⟩, ⟨fn169_ok, ⟨fn168_ok, trivial, trivial⟩, ⟨fn171_ok, trivial, trivial⟩⟩⟩⟩⟩⟩⟩
theorem mixed : Tryz.prog.follows .mixedOrders = true := by rfl
end Go.OptEnv
