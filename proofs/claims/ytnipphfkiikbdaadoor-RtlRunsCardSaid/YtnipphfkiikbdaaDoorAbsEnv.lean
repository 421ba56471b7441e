/- Own text of this claim: part Env of an interpreter that is proved sound against the model, and of what it shows of the law. -/
import Derived.KernelRfl
import Derived.Test.YtnipphfkiikbdaaDoorProg
import Derived.Test.YtnipphfkiikbdaaDoorAbs5
/- The tables of the program, for the interpreter. -/
namespace Go.RtlEnv
open Go Go.Proofs Go.Abs

theorem info_of {t : TypeId} {i : TypeInfo} (h : Tryd.prog.types[t]? = some i) : Tryd.prog.info? t = some i := by
  have hs : t < Tryd.prog.types.size := (Array.getElem?_eq_some_iff.1 h).1
  unfold Tables.info?
  rw [if_pos hs, h]
def ty1 : Ty := { d := .func, size := 1, bytes := 8, agg := false, zero := [.nilfn], fs := [], eqOk := false }
theorem ty1_ok : TyOk Tryd.prog 1 ty1 := .of_tyOf (by
  have h1 : Tryd.prog.underlying 1 = _ := Tryd.underlying1
  have h2 : Tryd.prog.info? 1 = some Tryd.t1 := info_of Tryd.type1
  unfold tyOf; rw [h1, h2]; rfl) (by intro h; cases h)
def ty2 : Ty := { d := .int .i64, size := 1, bytes := 8, agg := false, zero := [.int .i64 0], fs := [], eqOk := false }
theorem ty2_ok : TyOk Tryd.prog 2 ty2 := .of_tyOf (by
  have h1 : Tryd.prog.underlying 2 = _ := Tryd.underlying2
  have h2 : Tryd.prog.info? 2 = some Tryd.t2 := info_of Tryd.type2
  unfold tyOf; rw [h1, h2]; rfl) (by intro h; cases h)
def ty3 : Ty := { d := .int .i64, size := 1, bytes := 8, agg := false, zero := [.int .i64 0], fs := [], eqOk := false }
theorem ty3_ok : TyOk Tryd.prog 3 ty3 := .of_tyOf (by
  have h1 : Tryd.prog.underlying 3 = _ := Tryd.underlying3
  have h2 : Tryd.prog.info? 3 = some Tryd.t3 := info_of Tryd.type3
  unfold tyOf; rw [h1, h2]; rfl) (by intro h; cases h)
def ty4 : Ty := { d := .bool, size := 1, bytes := 1, agg := false, zero := [.bool false], fs := [], eqOk := false }
theorem ty4_ok : TyOk Tryd.prog 4 ty4 := .of_tyOf (by
  have h1 : Tryd.prog.underlying 4 = _ := Tryd.underlying4
  have h2 : Tryd.prog.info? 4 = some Tryd.t4 := info_of Tryd.type4
  unfold tyOf; rw [h1, h2]; rfl) (by intro h; cases h)
def ty5 : Ty := { d := .int .u8, size := 1, bytes := 1, agg := false, zero := [.int .u8 0], fs := [], eqOk := false }
theorem ty5_ok : TyOk Tryd.prog 5 ty5 := .of_tyOf (by
  have h1 : Tryd.prog.underlying 5 = _ := Tryd.underlying5
  have h2 : Tryd.prog.info? 5 = some Tryd.t5 := info_of Tryd.type5
  unfold tyOf; rw [h1, h2]; rfl) (by intro h; cases h)
def ty6 : Ty := { d := .int .u8, size := 1, bytes := 1, agg := false, zero := [.int .u8 0], fs := [], eqOk := false }
theorem ty6_ok : TyOk Tryd.prog 6 ty6 := .of_tyOf (by
  have h1 : Tryd.prog.underlying 6 = _ := Tryd.underlying6
  have h2 : Tryd.prog.info? 6 = some Tryd.t6 := info_of Tryd.type6
  unfold tyOf; rw [h1, h2]; rfl) (by intro h; cases h)
def ty7 : Ty := { d := .struct, size := 4, bytes := 24, agg := true, zero := [.int .i64 0, .int .i64 0, .bool false, .int .u8 0], fs := [(2, 0), (3, 1), (4, 2), (6, 3)], eqOk := true }
theorem ty7_ok : TyOk Tryd.prog 7 ty7 := .of_tyOf (by
  have h1 : Tryd.prog.underlying 7 = _ := Tryd.underlying7
  have h2 : Tryd.prog.info? 7 = some Tryd.t7 := info_of Tryd.type7
  unfold tyOf; rw [h1, h2]; rfl) (by intro _; simp only [eqFine, Tryd.eqGuardType7, Tryd.underlying7, Tryd.stoodInHeld7]; rfl)
def ty8 : Ty := { d := .struct, size := 4, bytes := 24, agg := true, zero := [.int .i64 0, .int .i64 0, .bool false, .int .u8 0], fs := [(2, 0), (3, 1), (4, 2), (6, 3)], eqOk := true }
theorem ty8_ok : TyOk Tryd.prog 8 ty8 := .of_tyOf (by
  have h1 : Tryd.prog.underlying 8 = _ := Tryd.underlying8
  have h2 : Tryd.prog.info? 8 = some Tryd.t8 := info_of Tryd.type8
  unfold tyOf; rw [h1, h2]; rfl) (by intro _; simp only [eqFine, Tryd.eqGuardType8, Tryd.underlying8, Tryd.stoodInHeld8]; rfl)
def ty9 : Ty := { d := .string, size := 1, bytes := 16, agg := false, zero := [.str ⟨#[]⟩], fs := [], eqOk := false }
theorem ty9_ok : TyOk Tryd.prog 9 ty9 := .of_tyOf (by
  have h1 : Tryd.prog.underlying 9 = _ := Tryd.underlying9
  have h2 : Tryd.prog.info? 9 = some Tryd.t9 := info_of Tryd.type9
  unfold tyOf; rw [h1, h2]; rfl) (by intro h; cases h)
def ty10 : Ty := { d := .string, size := 1, bytes := 16, agg := false, zero := [.str ⟨#[]⟩], fs := [], eqOk := false }
theorem ty10_ok : TyOk Tryd.prog 10 ty10 := .of_tyOf (by
  have h1 : Tryd.prog.underlying 10 = _ := Tryd.underlying10
  have h2 : Tryd.prog.info? 10 = some Tryd.t10 := info_of Tryd.type10
  unfold tyOf; rw [h1, h2]; rfl) (by intro h; cases h)
def ty11 : Ty := { d := .string, size := 1, bytes := 16, agg := false, zero := [.str ⟨#[]⟩], fs := [], eqOk := false }
theorem ty11_ok : TyOk Tryd.prog 11 ty11 := .of_tyOf (by
  have h1 : Tryd.prog.underlying 11 = _ := Tryd.underlying11
  have h2 : Tryd.prog.info? 11 = some Tryd.t11 := info_of Tryd.type11
  unfold tyOf; rw [h1, h2]; rfl) (by intro h; cases h)
def ty12 : Ty := { d := .int .u64, size := 1, bytes := 8, agg := false, zero := [.int .u64 0], fs := [], eqOk := false }
theorem ty12_ok : TyOk Tryd.prog 12 ty12 := .of_tyOf (by
  have h1 : Tryd.prog.underlying 12 = _ := Tryd.underlying12
  have h2 : Tryd.prog.info? 12 = some Tryd.t12 := info_of Tryd.type12
  unfold tyOf; rw [h1, h2]; rfl) (by intro h; cases h)
def ty13 : Ty := { d := .struct, size := 2, bytes := 24, agg := true, zero := [.str ⟨#[]⟩, .int .u64 0], fs := [(9, 0), (12, 1)], eqOk := false }
theorem ty13_ok : TyOk Tryd.prog 13 ty13 := .of_tyOf (by
  have h1 : Tryd.prog.underlying 13 = _ := Tryd.underlying13
  have h2 : Tryd.prog.info? 13 = some Tryd.t13 := info_of Tryd.type13
  unfold tyOf; rw [h1, h2]; rfl) (by intro h; cases h)
def ty14 : Ty := { d := .struct, size := 2, bytes := 24, agg := true, zero := [.str ⟨#[]⟩, .int .u64 0], fs := [(9, 0), (12, 1)], eqOk := false }
theorem ty14_ok : TyOk Tryd.prog 14 ty14 := .of_tyOf (by
  have h1 : Tryd.prog.underlying 14 = _ := Tryd.underlying14
  have h2 : Tryd.prog.info? 14 = some Tryd.t14 := info_of Tryd.type14
  unfold tyOf; rw [h1, h2]; rfl) (by intro h; cases h)
def ty15 : Ty := { d := .pointer 147, size := 1, bytes := 8, agg := false, zero := [.nilptr], fs := [], eqOk := false }
theorem ty15_ok : TyOk Tryd.prog 15 ty15 := .of_tyOf (by
  have h1 : Tryd.prog.underlying 15 = _ := Tryd.underlying15
  have h2 : Tryd.prog.info? 15 = some Tryd.t15 := info_of Tryd.type15
  unfold tyOf; rw [h1, h2]; rfl) (by intro h; cases h)
def ty16 : Ty := { d := .pointer 150, size := 1, bytes := 8, agg := false, zero := [.nilptr], fs := [], eqOk := false }
theorem ty16_ok : TyOk Tryd.prog 16 ty16 := .of_tyOf (by
  have h1 : Tryd.prog.underlying 16 = _ := Tryd.underlying16
  have h2 : Tryd.prog.info? 16 = some Tryd.t16 := info_of Tryd.type16
  unfold tyOf; rw [h1, h2]; rfl) (by intro h; cases h)
def ty17 : Ty := { d := .pointer 158, size := 1, bytes := 8, agg := false, zero := [.nilptr], fs := [], eqOk := false }
theorem ty17_ok : TyOk Tryd.prog 17 ty17 := .of_tyOf (by
  have h1 : Tryd.prog.underlying 17 = _ := Tryd.underlying17
  have h2 : Tryd.prog.info? 17 = some Tryd.t17 := info_of Tryd.type17
  unfold tyOf; rw [h1, h2]; rfl) (by intro h; cases h)
def ty18 : Ty := { d := .struct, size := 1, bytes := 8, agg := true, zero := [.nilptr], fs := [(17, 0)], eqOk := false }
theorem ty18_ok : TyOk Tryd.prog 18 ty18 := .of_tyOf (by
  have h1 : Tryd.prog.underlying 18 = _ := Tryd.underlying18
  have h2 : Tryd.prog.info? 18 = some Tryd.t18 := info_of Tryd.type18
  unfold tyOf; rw [h1, h2]; rfl) (by intro h; cases h)
def ty19 : Ty := { d := .struct, size := 1, bytes := 8, agg := true, zero := [.nilptr], fs := [(17, 0)], eqOk := false }
theorem ty19_ok : TyOk Tryd.prog 19 ty19 := .of_tyOf (by
  have h1 : Tryd.prog.underlying 19 = _ := Tryd.underlying19
  have h2 : Tryd.prog.info? 19 = some Tryd.t19 := info_of Tryd.type19
  unfold tyOf; rw [h1, h2]; rfl) (by intro h; cases h)
def ty20 : Ty := { d := .iface, size := 1, bytes := 16, agg := false, zero := [.nilif], fs := [], eqOk := false }
theorem ty20_ok : TyOk Tryd.prog 20 ty20 := .of_tyOf (by
  have h1 : Tryd.prog.underlying 20 = _ := Tryd.underlying20
  have h2 : Tryd.prog.info? 20 = some Tryd.t20 := info_of Tryd.type20
  unfold tyOf; rw [h1, h2]; rfl) (by intro h; cases h)
def ty21 : Ty := { d := .int .i32, size := 1, bytes := 4, agg := false, zero := [.int .i32 0], fs := [], eqOk := false }
theorem ty21_ok : TyOk Tryd.prog 21 ty21 := .of_tyOf (by
  have h1 : Tryd.prog.underlying 21 = _ := Tryd.underlying21
  have h2 : Tryd.prog.info? 21 = some Tryd.t21 := info_of Tryd.type21
  unfold tyOf; rw [h1, h2]; rfl) (by intro h; cases h)
def ty22 : Ty := { d := .slice 66, size := 1, bytes := 24, agg := false, zero := [.nilsl], fs := [], eqOk := false }
theorem ty22_ok : TyOk Tryd.prog 22 ty22 := .of_tyOf (by
  have h1 : Tryd.prog.underlying 22 = _ := Tryd.underlying22
  have h2 : Tryd.prog.info? 22 = some Tryd.t22 := info_of Tryd.type22
  unfold tyOf; rw [h1, h2]; rfl) (by intro h; cases h)
def ty23 : Ty := { d := .slice 62, size := 1, bytes := 24, agg := false, zero := [.nilsl], fs := [], eqOk := false }
theorem ty23_ok : TyOk Tryd.prog 23 ty23 := .of_tyOf (by
  have h1 : Tryd.prog.underlying 23 = _ := Tryd.underlying23
  have h2 : Tryd.prog.info? 23 = some Tryd.t23 := info_of Tryd.type23
  unfold tyOf; rw [h1, h2]; rfl) (by intro h; cases h)
def ty24 : Ty := { d := .slice 53, size := 1, bytes := 24, agg := false, zero := [.nilsl], fs := [], eqOk := false }
theorem ty24_ok : TyOk Tryd.prog 24 ty24 := .of_tyOf (by
  have h1 : Tryd.prog.underlying 24 = _ := Tryd.underlying24
  have h2 : Tryd.prog.info? 24 = some Tryd.t24 := info_of Tryd.type24
  unfold tyOf; rw [h1, h2]; rfl) (by intro h; cases h)
def ty25 : Ty := { d := .struct, size := 4, bytes := 96, agg := true, zero := [.nilsl, .nilsl, .nilsl, .nilsl], fs := [(22, 0), (23, 1), (24, 2), (22, 3)], eqOk := true }
theorem ty25_ok : TyOk Tryd.prog 25 ty25 := .of_tyOf (by
  have h1 : Tryd.prog.underlying 25 = _ := Tryd.underlying25
  have h2 : Tryd.prog.info? 25 = some Tryd.t25 := info_of Tryd.type25
  unfold tyOf; rw [h1, h2]; rfl) (by intro _; simp only [eqFine, Tryd.eqGuardType25, Tryd.underlying25, Tryd.stoodInHeld25]; rfl)
def ty26 : Ty := { d := .struct, size := 4, bytes := 96, agg := true, zero := [.nilsl, .nilsl, .nilsl, .nilsl], fs := [(22, 0), (23, 1), (24, 2), (22, 3)], eqOk := true }
theorem ty26_ok : TyOk Tryd.prog 26 ty26 := .of_tyOf (by
  have h1 : Tryd.prog.underlying 26 = _ := Tryd.underlying26
  have h2 : Tryd.prog.info? 26 = some Tryd.t26 := info_of Tryd.type26
  unfold tyOf; rw [h1, h2]; rfl) (by intro _; simp only [eqFine, Tryd.eqGuardType26, Tryd.underlying26, Tryd.stoodInHeld26]; rfl)
def ty27 : Ty := { d := .func, size := 1, bytes := 8, agg := false, zero := [.nilfn], fs := [], eqOk := false }
theorem ty27_ok : TyOk Tryd.prog 27 ty27 := .of_tyOf (by
  have h1 : Tryd.prog.underlying 27 = _ := Tryd.underlying27
  have h2 : Tryd.prog.info? 27 = some Tryd.t27 := info_of Tryd.type27
  unfold tyOf; rw [h1, h2]; rfl) (by intro h; cases h)
def ty28 : Ty := { d := .func, size := 1, bytes := 8, agg := false, zero := [.nilfn], fs := [], eqOk := false }
theorem ty28_ok : TyOk Tryd.prog 28 ty28 := .of_tyOf (by
  have h1 : Tryd.prog.underlying 28 = _ := Tryd.underlying28
  have h2 : Tryd.prog.info? 28 = some Tryd.t28 := info_of Tryd.type28
  unfold tyOf; rw [h1, h2]; rfl) (by intro h; cases h)
def ty29 : Ty := { d := .slice 51, size := 1, bytes := 24, agg := false, zero := [.nilsl], fs := [], eqOk := false }
theorem ty29_ok : TyOk Tryd.prog 29 ty29 := .of_tyOf (by
  have h1 : Tryd.prog.underlying 29 = _ := Tryd.underlying29
  have h2 : Tryd.prog.info? 29 = some Tryd.t29 := info_of Tryd.type29
  unfold tyOf; rw [h1, h2]; rfl) (by intro h; cases h)
def ty30 : Ty := { d := .func, size := 1, bytes := 8, agg := false, zero := [.nilfn], fs := [], eqOk := false }
theorem ty30_ok : TyOk Tryd.prog 30 ty30 := .of_tyOf (by
  have h1 : Tryd.prog.underlying 30 = _ := Tryd.underlying30
  have h2 : Tryd.prog.info? 30 = some Tryd.t30 := info_of Tryd.type30
  unfold tyOf; rw [h1, h2]; rfl) (by intro h; cases h)
def ty31 : Ty := { d := .int .i64, size := 1, bytes := 8, agg := false, zero := [.int .i64 0], fs := [], eqOk := false }
theorem ty31_ok : TyOk Tryd.prog 31 ty31 := .of_tyOf (by
  have h1 : Tryd.prog.underlying 31 = _ := Tryd.underlying31
  have h2 : Tryd.prog.info? 31 = some Tryd.t31 := info_of Tryd.type31
  unfold tyOf; rw [h1, h2]; rfl) (by intro h; cases h)
def ty33 : Ty := { d := .func, size := 1, bytes := 8, agg := false, zero := [.nilfn], fs := [], eqOk := false }
theorem ty33_ok : TyOk Tryd.prog 33 ty33 := .of_tyOf (by
  have h1 : Tryd.prog.underlying 33 = _ := Tryd.underlying33
  have h2 : Tryd.prog.info? 33 = some Tryd.t33 := info_of Tryd.type33
  unfold tyOf; rw [h1, h2]; rfl) (by intro h; cases h)
def ty35 : Ty := { d := .func, size := 1, bytes := 8, agg := false, zero := [.nilfn], fs := [], eqOk := false }
theorem ty35_ok : TyOk Tryd.prog 35 ty35 := .of_tyOf (by
  have h1 : Tryd.prog.underlying 35 = _ := Tryd.underlying35
  have h2 : Tryd.prog.info? 35 = some Tryd.t35 := info_of Tryd.type35
  unfold tyOf; rw [h1, h2]; rfl) (by intro h; cases h)
def ty36 : Ty := { d := .func, size := 1, bytes := 8, agg := false, zero := [.nilfn], fs := [], eqOk := false }
theorem ty36_ok : TyOk Tryd.prog 36 ty36 := .of_tyOf (by
  have h1 : Tryd.prog.underlying 36 = _ := Tryd.underlying36
  have h2 : Tryd.prog.info? 36 = some Tryd.t36 := info_of Tryd.type36
  unfold tyOf; rw [h1, h2]; rfl) (by intro h; cases h)
def ty37 : Ty := { d := .func, size := 1, bytes := 8, agg := false, zero := [.nilfn], fs := [], eqOk := false }
theorem ty37_ok : TyOk Tryd.prog 37 ty37 := .of_tyOf (by
  have h1 : Tryd.prog.underlying 37 = _ := Tryd.underlying37
  have h2 : Tryd.prog.info? 37 = some Tryd.t37 := info_of Tryd.type37
  unfold tyOf; rw [h1, h2]; rfl) (by intro h; cases h)
def ty38 : Ty := { d := .slice 29, size := 1, bytes := 24, agg := false, zero := [.nilsl], fs := [], eqOk := false }
theorem ty38_ok : TyOk Tryd.prog 38 ty38 := .of_tyOf (by
  have h1 : Tryd.prog.underlying 38 = _ := Tryd.underlying38
  have h2 : Tryd.prog.info? 38 = some Tryd.t38 := info_of Tryd.type38
  unfold tyOf; rw [h1, h2]; rfl) (by intro h; cases h)
def ty40 : Ty := { d := .func, size := 1, bytes := 8, agg := false, zero := [.nilfn], fs := [], eqOk := false }
theorem ty40_ok : TyOk Tryd.prog 40 ty40 := .of_tyOf (by
  have h1 : Tryd.prog.underlying 40 = _ := Tryd.underlying40
  have h2 : Tryd.prog.info? 40 = some Tryd.t40 := info_of Tryd.type40
  unfold tyOf; rw [h1, h2]; rfl) (by intro h; cases h)
def ty41 : Ty := { d := .func, size := 1, bytes := 8, agg := false, zero := [.nilfn], fs := [], eqOk := false }
theorem ty41_ok : TyOk Tryd.prog 41 ty41 := .of_tyOf (by
  have h1 : Tryd.prog.underlying 41 = _ := Tryd.underlying41
  have h2 : Tryd.prog.info? 41 = some Tryd.t41 := info_of Tryd.type41
  unfold tyOf; rw [h1, h2]; rfl) (by intro h; cases h)
def ty42 : Ty := { d := .slice 5, size := 1, bytes := 24, agg := false, zero := [.nilsl], fs := [], eqOk := false }
theorem ty42_ok : TyOk Tryd.prog 42 ty42 := .of_tyOf (by
  have h1 : Tryd.prog.underlying 42 = _ := Tryd.underlying42
  have h2 : Tryd.prog.info? 42 = some Tryd.t42 := info_of Tryd.type42
  unfold tyOf; rw [h1, h2]; rfl) (by intro h; cases h)
def ty43 : Ty := { d := .array 2 42, size := 2, bytes := 48, agg := true, zero := [.nilsl, .nilsl], fs := [], eqOk := false }
theorem ty43_ok : TyOk Tryd.prog 43 ty43 := .of_tyOf (by
  have h1 : Tryd.prog.underlying 43 = _ := Tryd.underlying43
  have h2 : Tryd.prog.info? 43 = some Tryd.t43 := info_of Tryd.type43
  unfold tyOf; rw [h1, h2]; rfl) (by intro h; cases h)
def ty45 : Ty := { d := .func, size := 1, bytes := 8, agg := false, zero := [.nilfn], fs := [], eqOk := false }
theorem ty45_ok : TyOk Tryd.prog 45 ty45 := .of_tyOf (by
  have h1 : Tryd.prog.underlying 45 = _ := Tryd.underlying45
  have h2 : Tryd.prog.info? 45 = some Tryd.t45 := info_of Tryd.type45
  unfold tyOf; rw [h1, h2]; rfl) (by intro h; cases h)
def ty46 : Ty := { d := .func, size := 1, bytes := 8, agg := false, zero := [.nilfn], fs := [], eqOk := false }
theorem ty46_ok : TyOk Tryd.prog 46 ty46 := .of_tyOf (by
  have h1 : Tryd.prog.underlying 46 = _ := Tryd.underlying46
  have h2 : Tryd.prog.info? 46 = some Tryd.t46 := info_of Tryd.type46
  unfold tyOf; rw [h1, h2]; rfl) (by intro h; cases h)
def ty47 : Ty := { d := .slice 4, size := 1, bytes := 24, agg := false, zero := [.nilsl], fs := [], eqOk := false }
theorem ty47_ok : TyOk Tryd.prog 47 ty47 := .of_tyOf (by
  have h1 : Tryd.prog.underlying 47 = _ := Tryd.underlying47
  have h2 : Tryd.prog.info? 47 = some Tryd.t47 := info_of Tryd.type47
  unfold tyOf; rw [h1, h2]; rfl) (by intro h; cases h)
def ty48 : Ty := { d := .func, size := 1, bytes := 8, agg := false, zero := [.nilfn], fs := [], eqOk := false }
theorem ty48_ok : TyOk Tryd.prog 48 ty48 := .of_tyOf (by
  have h1 : Tryd.prog.underlying 48 = _ := Tryd.underlying48
  have h2 : Tryd.prog.info? 48 = some Tryd.t48 := info_of Tryd.type48
  unfold tyOf; rw [h1, h2]; rfl) (by intro h; cases h)
def ty49 : Ty := { d := .int .i64, size := 1, bytes := 8, agg := false, zero := [.int .i64 0], fs := [], eqOk := false }
theorem ty49_ok : TyOk Tryd.prog 49 ty49 := .of_tyOf (by
  have h1 : Tryd.prog.underlying 49 = _ := Tryd.underlying49
  have h2 : Tryd.prog.info? 49 = some Tryd.t49 := info_of Tryd.type49
  unfold tyOf; rw [h1, h2]; rfl) (by intro h; cases h)
def ty50 : Ty := { d := .slice 3, size := 1, bytes := 24, agg := false, zero := [.nilsl], fs := [], eqOk := false }
theorem ty50_ok : TyOk Tryd.prog 50 ty50 := .of_tyOf (by
  have h1 : Tryd.prog.underlying 50 = _ := Tryd.underlying50
  have h2 : Tryd.prog.info? 50 = some Tryd.t50 := info_of Tryd.type50
  unfold tyOf; rw [h1, h2]; rfl) (by intro h; cases h)
def ty51 : Ty := { d := .slice 60, size := 1, bytes := 24, agg := false, zero := [.nilsl], fs := [], eqOk := false }
theorem ty51_ok : TyOk Tryd.prog 51 ty51 := .of_tyOf (by
  have h1 : Tryd.prog.underlying 51 = _ := Tryd.underlying51
  have h2 : Tryd.prog.info? 51 = some Tryd.t51 := info_of Tryd.type51
  unfold tyOf; rw [h1, h2]; rfl) (by intro h; cases h)
def ty52 : Ty := { d := .struct, size := 5, bytes := 72, agg := true, zero := [.int .i64 0, .int .i64 0, .int .i64 0, .nilsl, .nilsl], fs := [(49, 0), (3, 1), (3, 2), (50, 3), (51, 4)], eqOk := true }
theorem ty52_ok : TyOk Tryd.prog 52 ty52 := .of_tyOf (by
  have h1 : Tryd.prog.underlying 52 = _ := Tryd.underlying52
  have h2 : Tryd.prog.info? 52 = some Tryd.t52 := info_of Tryd.type52
  unfold tyOf; rw [h1, h2]; rfl) (by intro _; simp only [eqFine, Tryd.eqGuardType52, Tryd.underlying52, Tryd.stoodInHeld52]; rfl)
def ty53 : Ty := { d := .struct, size := 5, bytes := 72, agg := true, zero := [.int .i64 0, .int .i64 0, .int .i64 0, .nilsl, .nilsl], fs := [(49, 0), (3, 1), (3, 2), (50, 3), (51, 4)], eqOk := true }
theorem ty53_ok : TyOk Tryd.prog 53 ty53 := .of_tyOf (by
  have h1 : Tryd.prog.underlying 53 = _ := Tryd.underlying53
  have h2 : Tryd.prog.info? 53 = some Tryd.t53 := info_of Tryd.type53
  unfold tyOf; rw [h1, h2]; rfl) (by intro _; simp only [eqFine, Tryd.eqGuardType53, Tryd.underlying53, Tryd.stoodInHeld53]; rfl)
def ty54 : Ty := { d := .func, size := 1, bytes := 8, agg := false, zero := [.nilfn], fs := [], eqOk := false }
theorem ty54_ok : TyOk Tryd.prog 54 ty54 := .of_tyOf (by
  have h1 : Tryd.prog.underlying 54 = _ := Tryd.underlying54
  have h2 : Tryd.prog.info? 54 = some Tryd.t54 := info_of Tryd.type54
  unfold tyOf; rw [h1, h2]; rfl) (by intro h; cases h)
def ty56 : Ty := { d := .func, size := 1, bytes := 8, agg := false, zero := [.nilfn], fs := [], eqOk := false }
theorem ty56_ok : TyOk Tryd.prog 56 ty56 := .of_tyOf (by
  have h1 : Tryd.prog.underlying 56 = _ := Tryd.underlying56
  have h2 : Tryd.prog.info? 56 = some Tryd.t56 := info_of Tryd.type56
  unfold tyOf; rw [h1, h2]; rfl) (by intro h; cases h)
def ty57 : Ty := { d := .func, size := 1, bytes := 8, agg := false, zero := [.nilfn], fs := [], eqOk := false }
theorem ty57_ok : TyOk Tryd.prog 57 ty57 := .of_tyOf (by
  have h1 : Tryd.prog.underlying 57 = _ := Tryd.underlying57
  have h2 : Tryd.prog.info? 57 = some Tryd.t57 := info_of Tryd.type57
  unfold tyOf; rw [h1, h2]; rfl) (by intro h; cases h)
def ty58 : Ty := { d := .func, size := 1, bytes := 8, agg := false, zero := [.nilfn], fs := [], eqOk := false }
theorem ty58_ok : TyOk Tryd.prog 58 ty58 := .of_tyOf (by
  have h1 : Tryd.prog.underlying 58 = _ := Tryd.underlying58
  have h2 : Tryd.prog.info? 58 = some Tryd.t58 := info_of Tryd.type58
  unfold tyOf; rw [h1, h2]; rfl) (by intro h; cases h)
def ty59 : Ty := { d := .func, size := 1, bytes := 8, agg := false, zero := [.nilfn], fs := [], eqOk := false }
theorem ty59_ok : TyOk Tryd.prog 59 ty59 := .of_tyOf (by
  have h1 : Tryd.prog.underlying 59 = _ := Tryd.underlying59
  have h2 : Tryd.prog.info? 59 = some Tryd.t59 := info_of Tryd.type59
  unfold tyOf; rw [h1, h2]; rfl) (by intro h; cases h)
def ty60 : Ty := { d := .int .u8, size := 1, bytes := 1, agg := false, zero := [.int .u8 0], fs := [], eqOk := false }
theorem ty60_ok : TyOk Tryd.prog 60 ty60 := .of_tyOf (by
  have h1 : Tryd.prog.underlying 60 = _ := Tryd.underlying60
  have h2 : Tryd.prog.info? 60 = some Tryd.t60 := info_of Tryd.type60
  unfold tyOf; rw [h1, h2]; rfl) (by intro h; cases h)
def ty61 : Ty := { d := .struct, size := 3, bytes := 48, agg := true, zero := [.str ⟨#[]⟩, .nilsl, .int .i64 0], fs := [(9, 0), (51, 1), (3, 2)], eqOk := true }
theorem ty61_ok : TyOk Tryd.prog 61 ty61 := .of_tyOf (by
  have h1 : Tryd.prog.underlying 61 = _ := Tryd.underlying61
  have h2 : Tryd.prog.info? 61 = some Tryd.t61 := info_of Tryd.type61
  unfold tyOf; rw [h1, h2]; rfl) (by intro _; simp only [eqFine, Tryd.eqGuardType61, Tryd.underlying61, Tryd.stoodInHeld61]; rfl)
def ty62 : Ty := { d := .struct, size := 3, bytes := 48, agg := true, zero := [.str ⟨#[]⟩, .nilsl, .int .i64 0], fs := [(9, 0), (51, 1), (3, 2)], eqOk := true }
theorem ty62_ok : TyOk Tryd.prog 62 ty62 := .of_tyOf (by
  have h1 : Tryd.prog.underlying 62 = _ := Tryd.underlying62
  have h2 : Tryd.prog.info? 62 = some Tryd.t62 := info_of Tryd.type62
  unfold tyOf; rw [h1, h2]; rfl) (by intro _; simp only [eqFine, Tryd.eqGuardType62, Tryd.underlying62, Tryd.stoodInHeld62]; rfl)
def ty63 : Ty := { d := .func, size := 1, bytes := 8, agg := false, zero := [.nilfn], fs := [], eqOk := false }
theorem ty63_ok : TyOk Tryd.prog 63 ty63 := .of_tyOf (by
  have h1 : Tryd.prog.underlying 63 = _ := Tryd.underlying63
  have h2 : Tryd.prog.info? 63 = some Tryd.t63 := info_of Tryd.type63
  unfold tyOf; rw [h1, h2]; rfl) (by intro h; cases h)
def ty64 : Ty := { d := .func, size := 1, bytes := 8, agg := false, zero := [.nilfn], fs := [], eqOk := false }
theorem ty64_ok : TyOk Tryd.prog 64 ty64 := .of_tyOf (by
  have h1 : Tryd.prog.underlying 64 = _ := Tryd.underlying64
  have h2 : Tryd.prog.info? 64 = some Tryd.t64 := info_of Tryd.type64
  unfold tyOf; rw [h1, h2]; rfl) (by intro h; cases h)
def ty65 : Ty := { d := .struct, size := 3, bytes := 32, agg := true, zero := [.str ⟨#[]⟩, .int .i64 0, .int .i64 0], fs := [(9, 0), (3, 1), (3, 2)], eqOk := true }
theorem ty65_ok : TyOk Tryd.prog 65 ty65 := .of_tyOf (by
  have h1 : Tryd.prog.underlying 65 = _ := Tryd.underlying65
  have h2 : Tryd.prog.info? 65 = some Tryd.t65 := info_of Tryd.type65
  unfold tyOf; rw [h1, h2]; rfl) (by intro _; simp only [eqFine, Tryd.eqGuardType65, Tryd.underlying65, Tryd.stoodInHeld65]; rfl)
def ty66 : Ty := { d := .struct, size := 3, bytes := 32, agg := true, zero := [.str ⟨#[]⟩, .int .i64 0, .int .i64 0], fs := [(9, 0), (3, 1), (3, 2)], eqOk := true }
theorem ty66_ok : TyOk Tryd.prog 66 ty66 := .of_tyOf (by
  have h1 : Tryd.prog.underlying 66 = _ := Tryd.underlying66
  have h2 : Tryd.prog.info? 66 = some Tryd.t66 := info_of Tryd.type66
  unfold tyOf; rw [h1, h2]; rfl) (by intro _; simp only [eqFine, Tryd.eqGuardType66, Tryd.underlying66, Tryd.stoodInHeld66]; rfl)
def ty67 : Ty := { d := .func, size := 1, bytes := 8, agg := false, zero := [.nilfn], fs := [], eqOk := false }
theorem ty67_ok : TyOk Tryd.prog 67 ty67 := .of_tyOf (by
  have h1 : Tryd.prog.underlying 67 = _ := Tryd.underlying67
  have h2 : Tryd.prog.info? 67 = some Tryd.t67 := info_of Tryd.type67
  unfold tyOf; rw [h1, h2]; rfl) (by intro h; cases h)
def ty68 : Ty := { d := .func, size := 1, bytes := 8, agg := false, zero := [.nilfn], fs := [], eqOk := false }
theorem ty68_ok : TyOk Tryd.prog 68 ty68 := .of_tyOf (by
  have h1 : Tryd.prog.underlying 68 = _ := Tryd.underlying68
  have h2 : Tryd.prog.info? 68 = some Tryd.t68 := info_of Tryd.type68
  unfold tyOf; rw [h1, h2]; rfl) (by intro h; cases h)
def ty69 : Ty := { d := .func, size := 1, bytes := 8, agg := false, zero := [.nilfn], fs := [], eqOk := false }
theorem ty69_ok : TyOk Tryd.prog 69 ty69 := .of_tyOf (by
  have h1 : Tryd.prog.underlying 69 = _ := Tryd.underlying69
  have h2 : Tryd.prog.info? 69 = some Tryd.t69 := info_of Tryd.type69
  unfold tyOf; rw [h1, h2]; rfl) (by intro h; cases h)
def ty70 : Ty := { d := .func, size := 1, bytes := 8, agg := false, zero := [.nilfn], fs := [], eqOk := false }
theorem ty70_ok : TyOk Tryd.prog 70 ty70 := .of_tyOf (by
  have h1 : Tryd.prog.underlying 70 = _ := Tryd.underlying70
  have h2 : Tryd.prog.info? 70 = some Tryd.t70 := info_of Tryd.type70
  unfold tyOf; rw [h1, h2]; rfl) (by intro h; cases h)
def ty71 : Ty := { d := .func, size := 1, bytes := 8, agg := false, zero := [.nilfn], fs := [], eqOk := false }
theorem ty71_ok : TyOk Tryd.prog 71 ty71 := .of_tyOf (by
  have h1 : Tryd.prog.underlying 71 = _ := Tryd.underlying71
  have h2 : Tryd.prog.info? 71 = some Tryd.t71 := info_of Tryd.type71
  unfold tyOf; rw [h1, h2]; rfl) (by intro h; cases h)
def ty72 : Ty := { d := .func, size := 1, bytes := 8, agg := false, zero := [.nilfn], fs := [], eqOk := false }
theorem ty72_ok : TyOk Tryd.prog 72 ty72 := .of_tyOf (by
  have h1 : Tryd.prog.underlying 72 = _ := Tryd.underlying72
  have h2 : Tryd.prog.info? 72 = some Tryd.t72 := info_of Tryd.type72
  unfold tyOf; rw [h1, h2]; rfl) (by intro h; cases h)
def ty73 : Ty := { d := .slice 9, size := 1, bytes := 24, agg := false, zero := [.nilsl], fs := [], eqOk := false }
theorem ty73_ok : TyOk Tryd.prog 73 ty73 := .of_tyOf (by
  have h1 : Tryd.prog.underlying 73 = _ := Tryd.underlying73
  have h2 : Tryd.prog.info? 73 = some Tryd.t73 := info_of Tryd.type73
  unfold tyOf; rw [h1, h2]; rfl) (by intro h; cases h)
def ty74 : Ty := { d := .func, size := 1, bytes := 8, agg := false, zero := [.nilfn], fs := [], eqOk := false }
theorem ty74_ok : TyOk Tryd.prog 74 ty74 := .of_tyOf (by
  have h1 : Tryd.prog.underlying 74 = _ := Tryd.underlying74
  have h2 : Tryd.prog.info? 74 = some Tryd.t74 := info_of Tryd.type74
  unfold tyOf; rw [h1, h2]; rfl) (by intro h; cases h)
def ty75 : Ty := { d := .func, size := 1, bytes := 8, agg := false, zero := [.nilfn], fs := [], eqOk := false }
theorem ty75_ok : TyOk Tryd.prog 75 ty75 := .of_tyOf (by
  have h1 : Tryd.prog.underlying 75 = _ := Tryd.underlying75
  have h2 : Tryd.prog.info? 75 = some Tryd.t75 := info_of Tryd.type75
  unfold tyOf; rw [h1, h2]; rfl) (by intro h; cases h)
def ty76 : Ty := { d := .func, size := 1, bytes := 8, agg := false, zero := [.nilfn], fs := [], eqOk := false }
theorem ty76_ok : TyOk Tryd.prog 76 ty76 := .of_tyOf (by
  have h1 : Tryd.prog.underlying 76 = _ := Tryd.underlying76
  have h2 : Tryd.prog.info? 76 = some Tryd.t76 := info_of Tryd.type76
  unfold tyOf; rw [h1, h2]; rfl) (by intro h; cases h)
def ty78 : Ty := { d := .func, size := 1, bytes := 8, agg := false, zero := [.nilfn], fs := [], eqOk := false }
theorem ty78_ok : TyOk Tryd.prog 78 ty78 := .of_tyOf (by
  have h1 : Tryd.prog.underlying 78 = _ := Tryd.underlying78
  have h2 : Tryd.prog.info? 78 = some Tryd.t78 := info_of Tryd.type78
  unfold tyOf; rw [h1, h2]; rfl) (by intro h; cases h)
def ty79 : Ty := { d := .func, size := 1, bytes := 8, agg := false, zero := [.nilfn], fs := [], eqOk := false }
theorem ty79_ok : TyOk Tryd.prog 79 ty79 := .of_tyOf (by
  have h1 : Tryd.prog.underlying 79 = _ := Tryd.underlying79
  have h2 : Tryd.prog.info? 79 = some Tryd.t79 := info_of Tryd.type79
  unfold tyOf; rw [h1, h2]; rfl) (by intro h; cases h)
def ty80 : Ty := { d := .func, size := 1, bytes := 8, agg := false, zero := [.nilfn], fs := [], eqOk := false }
theorem ty80_ok : TyOk Tryd.prog 80 ty80 := .of_tyOf (by
  have h1 : Tryd.prog.underlying 80 = _ := Tryd.underlying80
  have h2 : Tryd.prog.info? 80 = some Tryd.t80 := info_of Tryd.type80
  unfold tyOf; rw [h1, h2]; rfl) (by intro h; cases h)
def ty81 : Ty := { d := .func, size := 1, bytes := 8, agg := false, zero := [.nilfn], fs := [], eqOk := false }
theorem ty81_ok : TyOk Tryd.prog 81 ty81 := .of_tyOf (by
  have h1 : Tryd.prog.underlying 81 = _ := Tryd.underlying81
  have h2 : Tryd.prog.info? 81 = some Tryd.t81 := info_of Tryd.type81
  unfold tyOf; rw [h1, h2]; rfl) (by intro h; cases h)
def ty82 : Ty := { d := .func, size := 1, bytes := 8, agg := false, zero := [.nilfn], fs := [], eqOk := false }
theorem ty82_ok : TyOk Tryd.prog 82 ty82 := .of_tyOf (by
  have h1 : Tryd.prog.underlying 82 = _ := Tryd.underlying82
  have h2 : Tryd.prog.info? 82 = some Tryd.t82 := info_of Tryd.type82
  unfold tyOf; rw [h1, h2]; rfl) (by intro h; cases h)
def ty83 : Ty := { d := .func, size := 1, bytes := 8, agg := false, zero := [.nilfn], fs := [], eqOk := false }
theorem ty83_ok : TyOk Tryd.prog 83 ty83 := .of_tyOf (by
  have h1 : Tryd.prog.underlying 83 = _ := Tryd.underlying83
  have h2 : Tryd.prog.info? 83 = some Tryd.t83 := info_of Tryd.type83
  unfold tyOf; rw [h1, h2]; rfl) (by intro h; cases h)
def ty84 : Ty := { d := .func, size := 1, bytes := 8, agg := false, zero := [.nilfn], fs := [], eqOk := false }
theorem ty84_ok : TyOk Tryd.prog 84 ty84 := .of_tyOf (by
  have h1 : Tryd.prog.underlying 84 = _ := Tryd.underlying84
  have h2 : Tryd.prog.info? 84 = some Tryd.t84 := info_of Tryd.type84
  unfold tyOf; rw [h1, h2]; rfl) (by intro h; cases h)
def ty85 : Ty := { d := .func, size := 1, bytes := 8, agg := false, zero := [.nilfn], fs := [], eqOk := false }
theorem ty85_ok : TyOk Tryd.prog 85 ty85 := .of_tyOf (by
  have h1 : Tryd.prog.underlying 85 = _ := Tryd.underlying85
  have h2 : Tryd.prog.info? 85 = some Tryd.t85 := info_of Tryd.type85
  unfold tyOf; rw [h1, h2]; rfl) (by intro h; cases h)
def ty86 : Ty := { d := .map 9 4, size := 1, bytes := 8, agg := false, zero := [.nilmap], fs := [], eqOk := false }
theorem ty86_ok : TyOk Tryd.prog 86 ty86 := .of_tyOf (by
  have h1 : Tryd.prog.underlying 86 = _ := Tryd.underlying86
  have h2 : Tryd.prog.info? 86 = some Tryd.t86 := info_of Tryd.type86
  unfold tyOf; rw [h1, h2]; rfl) (by intro h; cases h)
def ty87 : Ty := { d := .func, size := 1, bytes := 8, agg := false, zero := [.nilfn], fs := [], eqOk := false }
theorem ty87_ok : TyOk Tryd.prog 87 ty87 := .of_tyOf (by
  have h1 : Tryd.prog.underlying 87 = _ := Tryd.underlying87
  have h2 : Tryd.prog.info? 87 = some Tryd.t87 := info_of Tryd.type87
  unfold tyOf; rw [h1, h2]; rfl) (by intro h; cases h)
def ty88 : Ty := { d := .func, size := 1, bytes := 8, agg := false, zero := [.nilfn], fs := [], eqOk := false }
theorem ty88_ok : TyOk Tryd.prog 88 ty88 := .of_tyOf (by
  have h1 : Tryd.prog.underlying 88 = _ := Tryd.underlying88
  have h2 : Tryd.prog.info? 88 = some Tryd.t88 := info_of Tryd.type88
  unfold tyOf; rw [h1, h2]; rfl) (by intro h; cases h)
def ty89 : Ty := { d := .func, size := 1, bytes := 8, agg := false, zero := [.nilfn], fs := [], eqOk := false }
theorem ty89_ok : TyOk Tryd.prog 89 ty89 := .of_tyOf (by
  have h1 : Tryd.prog.underlying 89 = _ := Tryd.underlying89
  have h2 : Tryd.prog.info? 89 = some Tryd.t89 := info_of Tryd.type89
  unfold tyOf; rw [h1, h2]; rfl) (by intro h; cases h)
def ty90 : Ty := { d := .func, size := 1, bytes := 8, agg := false, zero := [.nilfn], fs := [], eqOk := false }
theorem ty90_ok : TyOk Tryd.prog 90 ty90 := .of_tyOf (by
  have h1 : Tryd.prog.underlying 90 = _ := Tryd.underlying90
  have h2 : Tryd.prog.info? 90 = some Tryd.t90 := info_of Tryd.type90
  unfold tyOf; rw [h1, h2]; rfl) (by intro h; cases h)
def ty92 : Ty := { d := .func, size := 1, bytes := 8, agg := false, zero := [.nilfn], fs := [], eqOk := false }
theorem ty92_ok : TyOk Tryd.prog 92 ty92 := .of_tyOf (by
  have h1 : Tryd.prog.underlying 92 = _ := Tryd.underlying92
  have h2 : Tryd.prog.info? 92 = some Tryd.t92 := info_of Tryd.type92
  unfold tyOf; rw [h1, h2]; rfl) (by intro h; cases h)
def ty93 : Ty := { d := .func, size := 1, bytes := 8, agg := false, zero := [.nilfn], fs := [], eqOk := false }
theorem ty93_ok : TyOk Tryd.prog 93 ty93 := .of_tyOf (by
  have h1 : Tryd.prog.underlying 93 = _ := Tryd.underlying93
  have h2 : Tryd.prog.info? 93 = some Tryd.t93 := info_of Tryd.type93
  unfold tyOf; rw [h1, h2]; rfl) (by intro h; cases h)
def ty94 : Ty := { d := .func, size := 1, bytes := 8, agg := false, zero := [.nilfn], fs := [], eqOk := false }
theorem ty94_ok : TyOk Tryd.prog 94 ty94 := .of_tyOf (by
  have h1 : Tryd.prog.underlying 94 = _ := Tryd.underlying94
  have h2 : Tryd.prog.info? 94 = some Tryd.t94 := info_of Tryd.type94
  unfold tyOf; rw [h1, h2]; rfl) (by intro h; cases h)
def ty95 : Ty := { d := .func, size := 1, bytes := 8, agg := false, zero := [.nilfn], fs := [], eqOk := false }
theorem ty95_ok : TyOk Tryd.prog 95 ty95 := .of_tyOf (by
  have h1 : Tryd.prog.underlying 95 = _ := Tryd.underlying95
  have h2 : Tryd.prog.info? 95 = some Tryd.t95 := info_of Tryd.type95
  unfold tyOf; rw [h1, h2]; rfl) (by intro h; cases h)
def ty96 : Ty := { d := .func, size := 1, bytes := 8, agg := false, zero := [.nilfn], fs := [], eqOk := false }
theorem ty96_ok : TyOk Tryd.prog 96 ty96 := .of_tyOf (by
  have h1 : Tryd.prog.underlying 96 = _ := Tryd.underlying96
  have h2 : Tryd.prog.info? 96 = some Tryd.t96 := info_of Tryd.type96
  unfold tyOf; rw [h1, h2]; rfl) (by intro h; cases h)
def ty97 : Ty := { d := .func, size := 1, bytes := 8, agg := false, zero := [.nilfn], fs := [], eqOk := false }
theorem ty97_ok : TyOk Tryd.prog 97 ty97 := .of_tyOf (by
  have h1 : Tryd.prog.underlying 97 = _ := Tryd.underlying97
  have h2 : Tryd.prog.info? 97 = some Tryd.t97 := info_of Tryd.type97
  unfold tyOf; rw [h1, h2]; rfl) (by intro h; cases h)
def ty98 : Ty := { d := .func, size := 1, bytes := 8, agg := false, zero := [.nilfn], fs := [], eqOk := false }
theorem ty98_ok : TyOk Tryd.prog 98 ty98 := .of_tyOf (by
  have h1 : Tryd.prog.underlying 98 = _ := Tryd.underlying98
  have h2 : Tryd.prog.info? 98 = some Tryd.t98 := info_of Tryd.type98
  unfold tyOf; rw [h1, h2]; rfl) (by intro h; cases h)
def ty99 : Ty := { d := .func, size := 1, bytes := 8, agg := false, zero := [.nilfn], fs := [], eqOk := false }
theorem ty99_ok : TyOk Tryd.prog 99 ty99 := .of_tyOf (by
  have h1 : Tryd.prog.underlying 99 = _ := Tryd.underlying99
  have h2 : Tryd.prog.info? 99 = some Tryd.t99 := info_of Tryd.type99
  unfold tyOf; rw [h1, h2]; rfl) (by intro h; cases h)
def ty100 : Ty := { d := .pointer 107, size := 1, bytes := 8, agg := false, zero := [.nilptr], fs := [], eqOk := false }
theorem ty100_ok : TyOk Tryd.prog 100 ty100 := .of_tyOf (by
  have h1 : Tryd.prog.underlying 100 = _ := Tryd.underlying100
  have h2 : Tryd.prog.info? 100 = some Tryd.t100 := info_of Tryd.type100
  unfold tyOf; rw [h1, h2]; rfl) (by intro h; cases h)
def ty101 : Ty := { d := .func, size := 1, bytes := 8, agg := false, zero := [.nilfn], fs := [], eqOk := false }
theorem ty101_ok : TyOk Tryd.prog 101 ty101 := .of_tyOf (by
  have h1 : Tryd.prog.underlying 101 = _ := Tryd.underlying101
  have h2 : Tryd.prog.info? 101 = some Tryd.t101 := info_of Tryd.type101
  unfold tyOf; rw [h1, h2]; rfl) (by intro h; cases h)
def ty102 : Ty := { d := .func, size := 1, bytes := 8, agg := false, zero := [.nilfn], fs := [], eqOk := false }
theorem ty102_ok : TyOk Tryd.prog 102 ty102 := .of_tyOf (by
  have h1 : Tryd.prog.underlying 102 = _ := Tryd.underlying102
  have h2 : Tryd.prog.info? 102 = some Tryd.t102 := info_of Tryd.type102
  unfold tyOf; rw [h1, h2]; rfl) (by intro h; cases h)
def ty103 : Ty := { d := .func, size := 1, bytes := 8, agg := false, zero := [.nilfn], fs := [], eqOk := false }
theorem ty103_ok : TyOk Tryd.prog 103 ty103 := .of_tyOf (by
  have h1 : Tryd.prog.underlying 103 = _ := Tryd.underlying103
  have h2 : Tryd.prog.info? 103 = some Tryd.t103 := info_of Tryd.type103
  unfold tyOf; rw [h1, h2]; rfl) (by intro h; cases h)
def ty104 : Ty := { d := .func, size := 1, bytes := 8, agg := false, zero := [.nilfn], fs := [], eqOk := false }
theorem ty104_ok : TyOk Tryd.prog 104 ty104 := .of_tyOf (by
  have h1 : Tryd.prog.underlying 104 = _ := Tryd.underlying104
  have h2 : Tryd.prog.info? 104 = some Tryd.t104 := info_of Tryd.type104
  unfold tyOf; rw [h1, h2]; rfl) (by intro h; cases h)
def ty105 : Ty := { d := .map 9 3, size := 1, bytes := 8, agg := false, zero := [.nilmap], fs := [], eqOk := false }
theorem ty105_ok : TyOk Tryd.prog 105 ty105 := .of_tyOf (by
  have h1 : Tryd.prog.underlying 105 = _ := Tryd.underlying105
  have h2 : Tryd.prog.info? 105 = some Tryd.t105 := info_of Tryd.type105
  unfold tyOf; rw [h1, h2]; rfl) (by intro h; cases h)
def ty106 : Ty := { d := .struct, size := 2, bytes := 32, agg := true, zero := [.nilsl, .nilmap], fs := [(24, 0), (105, 1)], eqOk := true }
theorem ty106_ok : TyOk Tryd.prog 106 ty106 := .of_tyOf (by
  have h1 : Tryd.prog.underlying 106 = _ := Tryd.underlying106
  have h2 : Tryd.prog.info? 106 = some Tryd.t106 := info_of Tryd.type106
  unfold tyOf; rw [h1, h2]; rfl) (by intro _; simp only [eqFine, Tryd.eqGuardType106, Tryd.underlying106, Tryd.stoodInHeld106]; rfl)
def ty107 : Ty := { d := .struct, size := 2, bytes := 32, agg := true, zero := [.nilsl, .nilmap], fs := [(24, 0), (105, 1)], eqOk := true }
theorem ty107_ok : TyOk Tryd.prog 107 ty107 := .of_tyOf (by
  have h1 : Tryd.prog.underlying 107 = _ := Tryd.underlying107
  have h2 : Tryd.prog.info? 107 = some Tryd.t107 := info_of Tryd.type107
  unfold tyOf; rw [h1, h2]; rfl) (by intro _; simp only [eqFine, Tryd.eqGuardType107, Tryd.underlying107, Tryd.stoodInHeld107]; rfl)
def ty108 : Ty := { d := .func, size := 1, bytes := 8, agg := false, zero := [.nilfn], fs := [], eqOk := false }
theorem ty108_ok : TyOk Tryd.prog 108 ty108 := .of_tyOf (by
  have h1 : Tryd.prog.underlying 108 = _ := Tryd.underlying108
  have h2 : Tryd.prog.info? 108 = some Tryd.t108 := info_of Tryd.type108
  unfold tyOf; rw [h1, h2]; rfl) (by intro h; cases h)
def ty109 : Ty := { d := .func, size := 1, bytes := 8, agg := false, zero := [.nilfn], fs := [], eqOk := false }
theorem ty109_ok : TyOk Tryd.prog 109 ty109 := .of_tyOf (by
  have h1 : Tryd.prog.underlying 109 = _ := Tryd.underlying109
  have h2 : Tryd.prog.info? 109 = some Tryd.t109 := info_of Tryd.type109
  unfold tyOf; rw [h1, h2]; rfl) (by intro h; cases h)
def ty111 : Ty := { d := .func, size := 1, bytes := 8, agg := false, zero := [.nilfn], fs := [], eqOk := false }
theorem ty111_ok : TyOk Tryd.prog 111 ty111 := .of_tyOf (by
  have h1 : Tryd.prog.underlying 111 = _ := Tryd.underlying111
  have h2 : Tryd.prog.info? 111 = some Tryd.t111 := info_of Tryd.type111
  unfold tyOf; rw [h1, h2]; rfl) (by intro h; cases h)
def ty112 : Ty := { d := .func, size := 1, bytes := 8, agg := false, zero := [.nilfn], fs := [], eqOk := false }
theorem ty112_ok : TyOk Tryd.prog 112 ty112 := .of_tyOf (by
  have h1 : Tryd.prog.underlying 112 = _ := Tryd.underlying112
  have h2 : Tryd.prog.info? 112 = some Tryd.t112 := info_of Tryd.type112
  unfold tyOf; rw [h1, h2]; rfl) (by intro h; cases h)
def ty113 : Ty := { d := .int .u64, size := 1, bytes := 8, agg := false, zero := [.int .u64 0], fs := [], eqOk := false }
theorem ty113_ok : TyOk Tryd.prog 113 ty113 := .of_tyOf (by
  have h1 : Tryd.prog.underlying 113 = _ := Tryd.underlying113
  have h2 : Tryd.prog.info? 113 = some Tryd.t113 := info_of Tryd.type113
  unfold tyOf; rw [h1, h2]; rfl) (by intro h; cases h)
def ty115 : Ty := { d := .func, size := 1, bytes := 8, agg := false, zero := [.nilfn], fs := [], eqOk := false }
theorem ty115_ok : TyOk Tryd.prog 115 ty115 := .of_tyOf (by
  have h1 : Tryd.prog.underlying 115 = _ := Tryd.underlying115
  have h2 : Tryd.prog.info? 115 = some Tryd.t115 := info_of Tryd.type115
  unfold tyOf; rw [h1, h2]; rfl) (by intro h; cases h)
def ty116 : Ty := { d := .func, size := 1, bytes := 8, agg := false, zero := [.nilfn], fs := [], eqOk := false }
theorem ty116_ok : TyOk Tryd.prog 116 ty116 := .of_tyOf (by
  have h1 : Tryd.prog.underlying 116 = _ := Tryd.underlying116
  have h2 : Tryd.prog.info? 116 = some Tryd.t116 := info_of Tryd.type116
  unfold tyOf; rw [h1, h2]; rfl) (by intro h; cases h)
def ty117 : Ty := { d := .pointer 119, size := 1, bytes := 8, agg := false, zero := [.nilptr], fs := [], eqOk := false }
theorem ty117_ok : TyOk Tryd.prog 117 ty117 := .of_tyOf (by
  have h1 : Tryd.prog.underlying 117 = _ := Tryd.underlying117
  have h2 : Tryd.prog.info? 117 = some Tryd.t117 := info_of Tryd.type117
  unfold tyOf; rw [h1, h2]; rfl) (by intro h; cases h)
def ty118 : Ty := { d := .struct, size := 2, bytes := 32, agg := true, zero := [.nilptr, .nilsl], fs := [(117, 0), (42, 1)], eqOk := true }
theorem ty118_ok : TyOk Tryd.prog 118 ty118 := .of_tyOf (by
  have h1 : Tryd.prog.underlying 118 = _ := Tryd.underlying118
  have h2 : Tryd.prog.info? 118 = some Tryd.t118 := info_of Tryd.type118
  unfold tyOf; rw [h1, h2]; rfl) (by intro _; simp only [eqFine, Tryd.eqGuardType118, Tryd.underlying118, Tryd.stoodInHeld118]; rfl)
def ty119 : Ty := { d := .struct, size := 2, bytes := 32, agg := true, zero := [.nilptr, .nilsl], fs := [(117, 0), (42, 1)], eqOk := true }
theorem ty119_ok : TyOk Tryd.prog 119 ty119 := .of_tyOf (by
  have h1 : Tryd.prog.underlying 119 = _ := Tryd.underlying119
  have h2 : Tryd.prog.info? 119 = some Tryd.t119 := info_of Tryd.type119
  unfold tyOf; rw [h1, h2]; rfl) (by intro _; simp only [eqFine, Tryd.eqGuardType119, Tryd.underlying119, Tryd.stoodInHeld119]; rfl)
def ty120 : Ty := { d := .iface, size := 1, bytes := 16, agg := false, zero := [.nilif], fs := [], eqOk := false }
theorem ty120_ok : TyOk Tryd.prog 120 ty120 := .of_tyOf (by
  have h1 : Tryd.prog.underlying 120 = _ := Tryd.underlying120
  have h2 : Tryd.prog.info? 120 = some Tryd.t120 := info_of Tryd.type120
  unfold tyOf; rw [h1, h2]; rfl) (by intro h; cases h)
def ty121 : Ty := { d := .iface, size := 1, bytes := 16, agg := false, zero := [.nilif], fs := [], eqOk := false }
theorem ty121_ok : TyOk Tryd.prog 121 ty121 := .of_tyOf (by
  have h1 : Tryd.prog.underlying 121 = _ := Tryd.underlying121
  have h2 : Tryd.prog.info? 121 = some Tryd.t121 := info_of Tryd.type121
  unfold tyOf; rw [h1, h2]; rfl) (by intro h; cases h)
def ty123 : Ty := { d := .func, size := 1, bytes := 8, agg := false, zero := [.nilfn], fs := [], eqOk := false }
theorem ty123_ok : TyOk Tryd.prog 123 ty123 := .of_tyOf (by
  have h1 : Tryd.prog.underlying 123 = _ := Tryd.underlying123
  have h2 : Tryd.prog.info? 123 = some Tryd.t123 := info_of Tryd.type123
  unfold tyOf; rw [h1, h2]; rfl) (by intro h; cases h)
def ty124 : Ty := { d := .func, size := 1, bytes := 8, agg := false, zero := [.nilfn], fs := [], eqOk := false }
theorem ty124_ok : TyOk Tryd.prog 124 ty124 := .of_tyOf (by
  have h1 : Tryd.prog.underlying 124 = _ := Tryd.underlying124
  have h2 : Tryd.prog.info? 124 = some Tryd.t124 := info_of Tryd.type124
  unfold tyOf; rw [h1, h2]; rfl) (by intro h; cases h)
def ty125 : Ty := { d := .func, size := 1, bytes := 8, agg := false, zero := [.nilfn], fs := [], eqOk := false }
theorem ty125_ok : TyOk Tryd.prog 125 ty125 := .of_tyOf (by
  have h1 : Tryd.prog.underlying 125 = _ := Tryd.underlying125
  have h2 : Tryd.prog.info? 125 = some Tryd.t125 := info_of Tryd.type125
  unfold tyOf; rw [h1, h2]; rfl) (by intro h; cases h)
def ty126 : Ty := { d := .func, size := 1, bytes := 8, agg := false, zero := [.nilfn], fs := [], eqOk := false }
theorem ty126_ok : TyOk Tryd.prog 126 ty126 := .of_tyOf (by
  have h1 : Tryd.prog.underlying 126 = _ := Tryd.underlying126
  have h2 : Tryd.prog.info? 126 = some Tryd.t126 := info_of Tryd.type126
  unfold tyOf; rw [h1, h2]; rfl) (by intro h; cases h)
def ty127 : Ty := { d := .pointer 5, size := 1, bytes := 8, agg := false, zero := [.nilptr], fs := [], eqOk := false }
theorem ty127_ok : TyOk Tryd.prog 127 ty127 := .of_tyOf (by
  have h1 : Tryd.prog.underlying 127 = _ := Tryd.underlying127
  have h2 : Tryd.prog.info? 127 = some Tryd.t127 := info_of Tryd.type127
  unfold tyOf; rw [h1, h2]; rfl) (by intro h; cases h)
def ty129 : Ty := { d := .func, size := 1, bytes := 8, agg := false, zero := [.nilfn], fs := [], eqOk := false }
theorem ty129_ok : TyOk Tryd.prog 129 ty129 := .of_tyOf (by
  have h1 : Tryd.prog.underlying 129 = _ := Tryd.underlying129
  have h2 : Tryd.prog.info? 129 = some Tryd.t129 := info_of Tryd.type129
  unfold tyOf; rw [h1, h2]; rfl) (by intro h; cases h)
def ty130 : Ty := { d := .func, size := 1, bytes := 8, agg := false, zero := [.nilfn], fs := [], eqOk := false }
theorem ty130_ok : TyOk Tryd.prog 130 ty130 := .of_tyOf (by
  have h1 : Tryd.prog.underlying 130 = _ := Tryd.underlying130
  have h2 : Tryd.prog.info? 130 = some Tryd.t130 := info_of Tryd.type130
  unfold tyOf; rw [h1, h2]; rfl) (by intro h; cases h)
def ty131 : Ty := { d := .array 24 5, size := 24, bytes := 24, agg := true, zero := [.int .u8 0, .int .u8 0, .int .u8 0, .int .u8 0, .int .u8 0, .int .u8 0, .int .u8 0, .int .u8 0, .int .u8 0, .int .u8 0, .int .u8 0, .int .u8 0, .int .u8 0, .int .u8 0, .int .u8 0, .int .u8 0, .int .u8 0, .int .u8 0, .int .u8 0, .int .u8 0, .int .u8 0, .int .u8 0, .int .u8 0, .int .u8 0], fs := [], eqOk := false }
theorem ty131_ok : TyOk Tryd.prog 131 ty131 := .of_tyOf (by
  have h1 : Tryd.prog.underlying 131 = _ := Tryd.underlying131
  have h2 : Tryd.prog.info? 131 = some Tryd.t131 := info_of Tryd.type131
  unfold tyOf; rw [h1, h2]; rfl) (by intro h; cases h)
def ty132 : Ty := { d := .int .u64, size := 1, bytes := 8, agg := false, zero := [.int .u64 0], fs := [], eqOk := false }
theorem ty132_ok : TyOk Tryd.prog 132 ty132 := .of_tyOf (by
  have h1 : Tryd.prog.underlying 132 = _ := Tryd.underlying132
  have h2 : Tryd.prog.info? 132 = some Tryd.t132 := info_of Tryd.type132
  unfold tyOf; rw [h1, h2]; rfl) (by intro h; cases h)
def ty133 : Ty := { d := .func, size := 1, bytes := 8, agg := false, zero := [.nilfn], fs := [], eqOk := false }
theorem ty133_ok : TyOk Tryd.prog 133 ty133 := .of_tyOf (by
  have h1 : Tryd.prog.underlying 133 = _ := Tryd.underlying133
  have h2 : Tryd.prog.info? 133 = some Tryd.t133 := info_of Tryd.type133
  unfold tyOf; rw [h1, h2]; rfl) (by intro h; cases h)
def ty134 : Ty := { d := .func, size := 1, bytes := 8, agg := false, zero := [.nilfn], fs := [], eqOk := false }
theorem ty134_ok : TyOk Tryd.prog 134 ty134 := .of_tyOf (by
  have h1 : Tryd.prog.underlying 134 = _ := Tryd.underlying134
  have h2 : Tryd.prog.info? 134 = some Tryd.t134 := info_of Tryd.type134
  unfold tyOf; rw [h1, h2]; rfl) (by intro h; cases h)
def ty136 : Ty := { d := .func, size := 1, bytes := 8, agg := false, zero := [.nilfn], fs := [], eqOk := false }
theorem ty136_ok : TyOk Tryd.prog 136 ty136 := .of_tyOf (by
  have h1 : Tryd.prog.underlying 136 = _ := Tryd.underlying136
  have h2 : Tryd.prog.info? 136 = some Tryd.t136 := info_of Tryd.type136
  unfold tyOf; rw [h1, h2]; rfl) (by intro h; cases h)
def ty137 : Ty := { d := .func, size := 1, bytes := 8, agg := false, zero := [.nilfn], fs := [], eqOk := false }
theorem ty137_ok : TyOk Tryd.prog 137 ty137 := .of_tyOf (by
  have h1 : Tryd.prog.underlying 137 = _ := Tryd.underlying137
  have h2 : Tryd.prog.info? 137 = some Tryd.t137 := info_of Tryd.type137
  unfold tyOf; rw [h1, h2]; rfl) (by intro h; cases h)
def ty138 : Ty := { d := .func, size := 1, bytes := 8, agg := false, zero := [.nilfn], fs := [], eqOk := false }
theorem ty138_ok : TyOk Tryd.prog 138 ty138 := .of_tyOf (by
  have h1 : Tryd.prog.underlying 138 = _ := Tryd.underlying138
  have h2 : Tryd.prog.info? 138 = some Tryd.t138 := info_of Tryd.type138
  unfold tyOf; rw [h1, h2]; rfl) (by intro h; cases h)
def ty139 : Ty := { d := .array 20 132, size := 20, bytes := 160, agg := true, zero := [.int .u64 0, .int .u64 0, .int .u64 0, .int .u64 0, .int .u64 0, .int .u64 0, .int .u64 0, .int .u64 0, .int .u64 0, .int .u64 0, .int .u64 0, .int .u64 0, .int .u64 0, .int .u64 0, .int .u64 0, .int .u64 0, .int .u64 0, .int .u64 0, .int .u64 0, .int .u64 0], fs := [], eqOk := false }
theorem ty139_ok : TyOk Tryd.prog 139 ty139 := .of_tyOf (by
  have h1 : Tryd.prog.underlying 139 = _ := Tryd.underlying139
  have h2 : Tryd.prog.info? 139 = some Tryd.t139 := info_of Tryd.type139
  unfold tyOf; rw [h1, h2]; rfl) (by intro h; cases h)
def ty140 : Ty := { d := .int .u32, size := 1, bytes := 4, agg := false, zero := [.int .u32 0], fs := [], eqOk := false }
theorem ty140_ok : TyOk Tryd.prog 140 ty140 := .of_tyOf (by
  have h1 : Tryd.prog.underlying 140 = _ := Tryd.underlying140
  have h2 : Tryd.prog.info? 140 = some Tryd.t140 := info_of Tryd.type140
  unfold tyOf; rw [h1, h2]; rfl) (by intro h; cases h)
def ty141 : Ty := { d := .array 65 5, size := 65, bytes := 65, agg := true, zero := [.int .u8 0, .int .u8 0, .int .u8 0, .int .u8 0, .int .u8 0, .int .u8 0, .int .u8 0, .int .u8 0, .int .u8 0, .int .u8 0, .int .u8 0, .int .u8 0, .int .u8 0, .int .u8 0, .int .u8 0, .int .u8 0, .int .u8 0, .int .u8 0, .int .u8 0, .int .u8 0, .int .u8 0, .int .u8 0, .int .u8 0, .int .u8 0, .int .u8 0, .int .u8 0, .int .u8 0, .int .u8 0, .int .u8 0, .int .u8 0, .int .u8 0, .int .u8 0, .int .u8 0, .int .u8 0, .int .u8 0, .int .u8 0, .int .u8 0, .int .u8 0, .int .u8 0, .int .u8 0, .int .u8 0, .int .u8 0, .int .u8 0, .int .u8 0, .int .u8 0, .int .u8 0, .int .u8 0, .int .u8 0, .int .u8 0, .int .u8 0, .int .u8 0, .int .u8 0, .int .u8 0, .int .u8 0, .int .u8 0, .int .u8 0, .int .u8 0, .int .u8 0, .int .u8 0, .int .u8 0, .int .u8 0, .int .u8 0, .int .u8 0, .int .u8 0, .int .u8 0], fs := [], eqOk := false }
theorem ty141_ok : TyOk Tryd.prog 141 ty141 := .of_tyOf (by
  have h1 : Tryd.prog.underlying 141 = _ := Tryd.underlying141
  have h2 : Tryd.prog.info? 141 = some Tryd.t141 := info_of Tryd.type141
  unfold tyOf; rw [h1, h2]; rfl) (by intro h; cases h)
def ty142 : Ty := { d := .func, size := 1, bytes := 8, agg := false, zero := [.nilfn], fs := [], eqOk := false }
theorem ty142_ok : TyOk Tryd.prog 142 ty142 := .of_tyOf (by
  have h1 : Tryd.prog.underlying 142 = _ := Tryd.underlying142
  have h2 : Tryd.prog.info? 142 = some Tryd.t142 := info_of Tryd.type142
  unfold tyOf; rw [h1, h2]; rfl) (by intro h; cases h)
def ty143 : Ty := { d := .func, size := 1, bytes := 8, agg := false, zero := [.nilfn], fs := [], eqOk := false }
theorem ty143_ok : TyOk Tryd.prog 143 ty143 := .of_tyOf (by
  have h1 : Tryd.prog.underlying 143 = _ := Tryd.underlying143
  have h2 : Tryd.prog.info? 143 = some Tryd.t143 := info_of Tryd.type143
  unfold tyOf; rw [h1, h2]; rfl) (by intro h; cases h)
def ty144 : Ty := { d := .array 32 5, size := 32, bytes := 32, agg := true, zero := [.int .u8 0, .int .u8 0, .int .u8 0, .int .u8 0, .int .u8 0, .int .u8 0, .int .u8 0, .int .u8 0, .int .u8 0, .int .u8 0, .int .u8 0, .int .u8 0, .int .u8 0, .int .u8 0, .int .u8 0, .int .u8 0, .int .u8 0, .int .u8 0, .int .u8 0, .int .u8 0, .int .u8 0, .int .u8 0, .int .u8 0, .int .u8 0, .int .u8 0, .int .u8 0, .int .u8 0, .int .u8 0, .int .u8 0, .int .u8 0, .int .u8 0, .int .u8 0], fs := [], eqOk := false }
theorem ty144_ok : TyOk Tryd.prog 144 ty144 := .of_tyOf (by
  have h1 : Tryd.prog.underlying 144 = _ := Tryd.underlying144
  have h2 : Tryd.prog.info? 144 = some Tryd.t144 := info_of Tryd.type144
  unfold tyOf; rw [h1, h2]; rfl) (by intro h; cases h)
def ty145 : Ty := { d := .array 64 5, size := 64, bytes := 64, agg := true, zero := [.int .u8 0, .int .u8 0, .int .u8 0, .int .u8 0, .int .u8 0, .int .u8 0, .int .u8 0, .int .u8 0, .int .u8 0, .int .u8 0, .int .u8 0, .int .u8 0, .int .u8 0, .int .u8 0, .int .u8 0, .int .u8 0, .int .u8 0, .int .u8 0, .int .u8 0, .int .u8 0, .int .u8 0, .int .u8 0, .int .u8 0, .int .u8 0, .int .u8 0, .int .u8 0, .int .u8 0, .int .u8 0, .int .u8 0, .int .u8 0, .int .u8 0, .int .u8 0, .int .u8 0, .int .u8 0, .int .u8 0, .int .u8 0, .int .u8 0, .int .u8 0, .int .u8 0, .int .u8 0, .int .u8 0, .int .u8 0, .int .u8 0, .int .u8 0, .int .u8 0, .int .u8 0, .int .u8 0, .int .u8 0, .int .u8 0, .int .u8 0, .int .u8 0, .int .u8 0, .int .u8 0, .int .u8 0, .int .u8 0, .int .u8 0, .int .u8 0, .int .u8 0, .int .u8 0, .int .u8 0, .int .u8 0, .int .u8 0, .int .u8 0, .int .u8 0], fs := [], eqOk := false }
theorem ty145_ok : TyOk Tryd.prog 145 ty145 := .of_tyOf (by
  have h1 : Tryd.prog.underlying 145 = _ := Tryd.underlying145
  have h2 : Tryd.prog.info? 145 = some Tryd.t145 := info_of Tryd.type145
  unfold tyOf; rw [h1, h2]; rfl) (by intro h; cases h)
def ty146 : Ty := { d := .struct, size := 4, bytes := 40, agg := true, zero := [.nilptr, .nilptr, .nilptr, .str ⟨#[]⟩], fs := [(17, 0), (17, 1), (17, 2), (9, 3)], eqOk := false }
theorem ty146_ok : TyOk Tryd.prog 146 ty146 := .of_tyOf (by
  have h1 : Tryd.prog.underlying 146 = _ := Tryd.underlying146
  have h2 : Tryd.prog.info? 146 = some Tryd.t146 := info_of Tryd.type146
  unfold tyOf; rw [h1, h2]; rfl) (by intro h; cases h)
def ty147 : Ty := { d := .struct, size := 4, bytes := 40, agg := true, zero := [.nilptr, .nilptr, .nilptr, .str ⟨#[]⟩], fs := [(17, 0), (17, 1), (17, 2), (9, 3)], eqOk := false }
theorem ty147_ok : TyOk Tryd.prog 147 ty147 := .of_tyOf (by
  have h1 : Tryd.prog.underlying 147 = _ := Tryd.underlying147
  have h2 : Tryd.prog.info? 147 = some Tryd.t147 := info_of Tryd.type147
  unfold tyOf; rw [h1, h2]; rfl) (by intro h; cases h)
def ty148 : Ty := { d := .array 0 16, size := 0, bytes := 0, agg := true, zero := [], fs := [], eqOk := false }
theorem ty148_ok : TyOk Tryd.prog 148 ty148 := .of_tyOf (by
  have h1 : Tryd.prog.underlying 148 = _ := Tryd.underlying148
  have h2 : Tryd.prog.info? 148 = some Tryd.t148 := info_of Tryd.type148
  unfold tyOf; rw [h1, h2]; rfl) (by intro h; cases h)
def ty149 : Ty := { d := .struct, size := 0, bytes := 0, agg := true, zero := [], fs := [(148, 0)], eqOk := false }
theorem ty149_ok : TyOk Tryd.prog 149 ty149 := .of_tyOf (by
  have h1 : Tryd.prog.underlying 149 = _ := Tryd.underlying149
  have h2 : Tryd.prog.info? 149 = some Tryd.t149 := info_of Tryd.type149
  unfold tyOf; rw [h1, h2]; rfl) (by intro h; cases h)
def ty150 : Ty := { d := .struct, size := 0, bytes := 0, agg := true, zero := [], fs := [(148, 0)], eqOk := false }
theorem ty150_ok : TyOk Tryd.prog 150 ty150 := .of_tyOf (by
  have h1 : Tryd.prog.underlying 150 = _ := Tryd.underlying150
  have h2 : Tryd.prog.info? 150 = some Tryd.t150 := info_of Tryd.type150
  unfold tyOf; rw [h1, h2]; rfl) (by intro h; cases h)
def ty151 : Ty := { d := .func, size := 1, bytes := 8, agg := false, zero := [.nilfn], fs := [], eqOk := false }
theorem ty151_ok : TyOk Tryd.prog 151 ty151 := .of_tyOf (by
  have h1 : Tryd.prog.underlying 151 = _ := Tryd.underlying151
  have h2 : Tryd.prog.info? 151 = some Tryd.t151 := info_of Tryd.type151
  unfold tyOf; rw [h1, h2]; rfl) (by intro h; cases h)
def ty152 : Ty := { d := .int .u8, size := 1, bytes := 1, agg := false, zero := [.int .u8 0], fs := [], eqOk := false }
theorem ty152_ok : TyOk Tryd.prog 152 ty152 := .of_tyOf (by
  have h1 : Tryd.prog.underlying 152 = _ := Tryd.underlying152
  have h2 : Tryd.prog.info? 152 = some Tryd.t152 := info_of Tryd.type152
  unfold tyOf; rw [h1, h2]; rfl) (by intro h; cases h)
def ty153 : Ty := { d := .int .u8, size := 1, bytes := 1, agg := false, zero := [.int .u8 0], fs := [], eqOk := false }
theorem ty153_ok : TyOk Tryd.prog 153 ty153 := .of_tyOf (by
  have h1 : Tryd.prog.underlying 153 = _ := Tryd.underlying153
  have h2 : Tryd.prog.info? 153 = some Tryd.t153 := info_of Tryd.type153
  unfold tyOf; rw [h1, h2]; rfl) (by intro h; cases h)
def ty154 : Ty := { d := .func, size := 1, bytes := 8, agg := false, zero := [.nilfn], fs := [], eqOk := false }
theorem ty154_ok : TyOk Tryd.prog 154 ty154 := .of_tyOf (by
  have h1 : Tryd.prog.underlying 154 = _ := Tryd.underlying154
  have h2 : Tryd.prog.info? 154 = some Tryd.t154 := info_of Tryd.type154
  unfold tyOf; rw [h1, h2]; rfl) (by intro h; cases h)
def ty155 : Ty := { d := .int .i32, size := 1, bytes := 4, agg := false, zero := [.int .i32 0], fs := [], eqOk := false }
theorem ty155_ok : TyOk Tryd.prog 155 ty155 := .of_tyOf (by
  have h1 : Tryd.prog.underlying 155 = _ := Tryd.underlying155
  have h2 : Tryd.prog.info? 155 = some Tryd.t155 := info_of Tryd.type155
  unfold tyOf; rw [h1, h2]; rfl) (by intro h; cases h)
def ty156 : Ty := { d := .int .i32, size := 1, bytes := 4, agg := false, zero := [.int .i32 0], fs := [], eqOk := false }
theorem ty156_ok : TyOk Tryd.prog 156 ty156 := .of_tyOf (by
  have h1 : Tryd.prog.underlying 156 = _ := Tryd.underlying156
  have h2 : Tryd.prog.info? 156 = some Tryd.t156 := info_of Tryd.type156
  unfold tyOf; rw [h1, h2]; rfl) (by intro h; cases h)
def ty157 : Ty := { d := .struct, size := 11, bytes := 48, agg := true, zero := [.int .u64 0, .int .u64 0, .int .u32 0, .int .u8 0, .int .u8 0, .int .u8 0, .int .u8 0, .nilfn, .nilptr, .int .i32 0, .int .i32 0], fs := [(12, 0), (12, 1), (140, 2), (152, 3), (5, 4), (5, 5), (153, 6), (154, 7), (127, 8), (155, 9), (156, 10)], eqOk := false }
theorem ty157_ok : TyOk Tryd.prog 157 ty157 := .of_tyOf (by
  have h1 : Tryd.prog.underlying 157 = _ := Tryd.underlying157
  have h2 : Tryd.prog.info? 157 = some Tryd.t157 := info_of Tryd.type157
  unfold tyOf; rw [h1, h2]; rfl) (by intro h; cases h)
def ty158 : Ty := { d := .struct, size := 11, bytes := 48, agg := true, zero := [.int .u64 0, .int .u64 0, .int .u32 0, .int .u8 0, .int .u8 0, .int .u8 0, .int .u8 0, .nilfn, .nilptr, .int .i32 0, .int .i32 0], fs := [(12, 0), (12, 1), (140, 2), (152, 3), (5, 4), (5, 5), (153, 6), (154, 7), (127, 8), (155, 9), (156, 10)], eqOk := false }
theorem ty158_ok : TyOk Tryd.prog 158 ty158 := .of_tyOf (by
  have h1 : Tryd.prog.underlying 158 = _ := Tryd.underlying158
  have h2 : Tryd.prog.info? 158 = some Tryd.t158 := info_of Tryd.type158
  unfold tyOf; rw [h1, h2]; rfl) (by intro h; cases h)
def tys : Tree Ty := (.node 80 ty80 (.node 40 ty40 (.node 19 ty19 (.node 10 ty10 (.node 5 ty5 (.node 3 ty3 (.node 2 ty2 (.node 1 ty1 .leaf .leaf) .leaf) (.node 4 ty4 .leaf .leaf)) (.node 8 ty8 (.node 7 ty7 (.node 6 ty6 .leaf .leaf) .leaf) (.node 9 ty9 .leaf .leaf))) (.node 15 ty15 (.node 13 ty13 (.node 12 ty12 (.node 11 ty11 .leaf .leaf) .leaf) (.node 14 ty14 .leaf .leaf)) (.node 17 ty17 (.node 16 ty16 .leaf .leaf) (.node 18 ty18 .leaf .leaf)))) (.node 28 ty28 (.node 24 ty24 (.node 22 ty22 (.node 21 ty21 (.node 20 ty20 .leaf .leaf) .leaf) (.node 23 ty23 .leaf .leaf)) (.node 26 ty26 (.node 25 ty25 .leaf .leaf) (.node 27 ty27 .leaf .leaf))) (.node 35 ty35 (.node 31 ty31 (.node 30 ty30 (.node 29 ty29 .leaf .leaf) .leaf) (.node 33 ty33 .leaf .leaf)) (.node 37 ty37 (.node 36 ty36 .leaf .leaf) (.node 38 ty38 .leaf .leaf))))) (.node 61 ty61 (.node 51 ty51 (.node 46 ty46 (.node 43 ty43 (.node 42 ty42 (.node 41 ty41 .leaf .leaf) .leaf) (.node 45 ty45 .leaf .leaf)) (.node 49 ty49 (.node 48 ty48 (.node 47 ty47 .leaf .leaf) .leaf) (.node 50 ty50 .leaf .leaf))) (.node 57 ty57 (.node 54 ty54 (.node 53 ty53 (.node 52 ty52 .leaf .leaf) .leaf) (.node 56 ty56 .leaf .leaf)) (.node 59 ty59 (.node 58 ty58 .leaf .leaf) (.node 60 ty60 .leaf .leaf)))) (.node 70 ty70 (.node 66 ty66 (.node 64 ty64 (.node 63 ty63 (.node 62 ty62 .leaf .leaf) .leaf) (.node 65 ty65 .leaf .leaf)) (.node 68 ty68 (.node 67 ty67 .leaf .leaf) (.node 69 ty69 .leaf .leaf))) (.node 75 ty75 (.node 73 ty73 (.node 72 ty72 (.node 71 ty71 .leaf .leaf) .leaf) (.node 74 ty74 .leaf .leaf)) (.node 78 ty78 (.node 76 ty76 .leaf .leaf) (.node 79 ty79 .leaf .leaf)))))) (.node 120 ty120 (.node 100 ty100 (.node 90 ty90 (.node 85 ty85 (.node 83 ty83 (.node 82 ty82 (.node 81 ty81 .leaf .leaf) .leaf) (.node 84 ty84 .leaf .leaf)) (.node 88 ty88 (.node 87 ty87 (.node 86 ty86 .leaf .leaf) .leaf) (.node 89 ty89 .leaf .leaf))) (.node 96 ty96 (.node 94 ty94 (.node 93 ty93 (.node 92 ty92 .leaf .leaf) .leaf) (.node 95 ty95 .leaf .leaf)) (.node 98 ty98 (.node 97 ty97 .leaf .leaf) (.node 99 ty99 .leaf .leaf)))) (.node 109 ty109 (.node 105 ty105 (.node 103 ty103 (.node 102 ty102 (.node 101 ty101 .leaf .leaf) .leaf) (.node 104 ty104 .leaf .leaf)) (.node 107 ty107 (.node 106 ty106 .leaf .leaf) (.node 108 ty108 .leaf .leaf))) (.node 116 ty116 (.node 113 ty113 (.node 112 ty112 (.node 111 ty111 .leaf .leaf) .leaf) (.node 115 ty115 .leaf .leaf)) (.node 118 ty118 (.node 117 ty117 .leaf .leaf) (.node 119 ty119 .leaf .leaf))))) (.node 141 ty141 (.node 131 ty131 (.node 126 ty126 (.node 124 ty124 (.node 123 ty123 (.node 121 ty121 .leaf .leaf) .leaf) (.node 125 ty125 .leaf .leaf)) (.node 129 ty129 (.node 127 ty127 .leaf .leaf) (.node 130 ty130 .leaf .leaf))) (.node 137 ty137 (.node 134 ty134 (.node 133 ty133 (.node 132 ty132 .leaf .leaf) .leaf) (.node 136 ty136 .leaf .leaf)) (.node 139 ty139 (.node 138 ty138 .leaf .leaf) (.node 140 ty140 .leaf .leaf)))) (.node 150 ty150 (.node 146 ty146 (.node 144 ty144 (.node 143 ty143 (.node 142 ty142 .leaf .leaf) .leaf) (.node 145 ty145 .leaf .leaf)) (.node 148 ty148 (.node 147 ty147 .leaf .leaf) (.node 149 ty149 .leaf .leaf))) (.node 155 ty155 (.node 153 ty153 (.node 152 ty152 (.node 151 ty151 .leaf .leaf) .leaf) (.node 154 ty154 .leaf .leaf)) (.node 157 ty157 (.node 156 ty156 .leaf .leaf) (.node 158 ty158 .leaf .leaf)))))))
theorem tys_ok : tys.All (TyOk Tryd.prog) := ⟨ty80_ok, ⟨ty40_ok, ⟨ty19_ok, ⟨ty10_ok, ⟨ty5_ok, ⟨ty3_ok, ⟨ty2_ok, ⟨ty1_ok, trivial, trivial⟩, trivial⟩, ⟨ty4_ok, trivial, trivial⟩⟩, ⟨ty8_ok, ⟨ty7_ok, ⟨ty6_ok, trivial, trivial⟩, trivial⟩, ⟨ty9_ok, trivial, trivial⟩⟩⟩, ⟨ty15_ok, ⟨ty13_ok, ⟨ty12_ok, ⟨ty11_ok, trivial, trivial⟩, trivial⟩, ⟨ty14_ok, trivial, trivial⟩⟩, ⟨ty17_ok, ⟨ty16_ok, trivial, trivial⟩, ⟨ty18_ok, trivial, trivial⟩⟩⟩⟩, ⟨ty28_ok, ⟨ty24_ok, ⟨ty22_ok, ⟨ty21_ok, ⟨ty20_ok, trivial, trivial⟩, trivial⟩, ⟨ty23_ok, trivial, trivial⟩⟩, ⟨ty26_ok, ⟨ty25_ok, trivial, trivial⟩, ⟨ty27_ok, trivial, trivial⟩⟩⟩, ⟨ty35_ok, ⟨ty31_ok, ⟨ty30_ok, ⟨ty29_ok, trivial, trivial⟩, trivial⟩, ⟨ty33_ok, trivial, trivial⟩⟩, ⟨ty37_ok, ⟨ty36_ok, trivial, trivial⟩, ⟨ty38_ok, trivial, trivial⟩⟩⟩⟩⟩, ⟨ty61_ok, ⟨ty51_ok, ⟨ty46_ok, ⟨ty43_ok, ⟨ty42_ok, ⟨ty41_ok, trivial, trivial⟩, trivial⟩, ⟨ty45_ok, trivial, trivial⟩⟩, ⟨ty49_ok, ⟨ty48_ok, ⟨ty47_ok, trivial, trivial⟩, trivial⟩, ⟨ty50_ok, trivial, trivial⟩⟩⟩, ⟨ty57_ok, ⟨ty54_ok, ⟨ty53_ok, ⟨ty52_ok, trivial, trivial⟩, trivial⟩, ⟨ty56_ok, trivial, trivial⟩⟩, ⟨ty59_ok, ⟨ty58_ok, trivial, trivial⟩, ⟨ty60_ok, trivial, trivial⟩⟩⟩⟩, ⟨ty70_ok, ⟨ty66_ok, ⟨ty64_ok, ⟨ty63_ok, ⟨ty62_ok, trivial, trivial⟩, trivial⟩, ⟨ty65_ok, trivial, trivial⟩⟩, ⟨ty68_ok, ⟨ty67_ok, trivial, trivial⟩, ⟨ty69_ok, trivial, trivial⟩⟩⟩, ⟨ty75_ok, ⟨ty73_ok, ⟨ty72_ok, ⟨ty71_ok, trivial, trivial⟩, trivial⟩, ⟨ty74_ok, trivial, trivial⟩⟩, ⟨ty78_ok, ⟨ty76_ok, trivial, trivial⟩, ⟨ty79_ok, trivial, trivial⟩⟩⟩⟩⟩⟩, ⟨ty120_ok, ⟨ty100_ok, ⟨ty90_ok, ⟨ty85_ok, ⟨ty83_ok, ⟨ty82_ok, ⟨ty81_ok, trivial, trivial⟩, trivial⟩, ⟨ty84_ok, trivial, trivial⟩⟩, ⟨ty88_ok, ⟨ty87_ok, ⟨ty86_ok, trivial, trivial⟩, trivial⟩, ⟨ty89_ok, trivial, trivial⟩⟩⟩, ⟨ty96_ok, ⟨ty94_ok, ⟨ty93_ok, ⟨ty92_ok, trivial, trivial⟩, trivial⟩, ⟨ty95_ok, trivial, trivial⟩⟩, ⟨ty98_ok, ⟨ty97_ok, trivial, trivial⟩, ⟨ty99_ok, trivial, trivial⟩⟩⟩⟩, ⟨ty109_ok, ⟨ty105_ok, ⟨ty103_ok, ⟨ty102_ok, ⟨ty101_ok, trivial, trivial⟩, trivial⟩, ⟨ty104_ok, trivial, trivial⟩⟩, ⟨ty107_ok, ⟨ty106_ok, trivial, trivial⟩, ⟨ty108_ok, trivial, trivial⟩⟩⟩, ⟨ty116_ok, ⟨ty113_ok, ⟨ty112_ok, ⟨ty111_ok, trivial, trivial⟩, trivial⟩, ⟨ty115_ok, trivial, trivial⟩⟩, ⟨ty118_ok, ⟨ty117_ok, trivial, trivial⟩, ⟨ty119_ok, trivial, trivial⟩⟩⟩⟩⟩, ⟨ty141_ok, ⟨ty131_ok, ⟨ty126_ok, ⟨ty124_ok, ⟨ty123_ok, ⟨ty121_ok, trivial, trivial⟩, trivial⟩, ⟨ty125_ok, trivial, trivial⟩⟩, ⟨ty129_ok, ⟨ty127_ok, trivial, trivial⟩, ⟨ty130_ok, trivial, trivial⟩⟩⟩, ⟨ty137_ok, ⟨ty134_ok, ⟨ty133_ok, ⟨ty132_ok, trivial, trivial⟩, trivial⟩, ⟨ty136_ok, trivial, trivial⟩⟩, ⟨ty139_ok, ⟨ty138_ok, trivial, trivial⟩, ⟨ty140_ok, trivial, trivial⟩⟩⟩⟩, ⟨ty150_ok, ⟨ty146_ok, ⟨ty144_ok, ⟨ty143_ok, ⟨ty142_ok, trivial, trivial⟩, trivial⟩, ⟨ty145_ok, trivial, trivial⟩⟩, ⟨ty148_ok, ⟨ty147_ok, trivial, trivial⟩, ⟨ty149_ok, trivial, trivial⟩⟩⟩, ⟨ty155_ok, ⟨ty153_ok, ⟨ty152_ok, ⟨ty151_ok, trivial, trivial⟩, trivial⟩, ⟨ty154_ok, trivial, trivial⟩⟩, ⟨ty157_ok, ⟨ty156_ok, trivial, trivial⟩, ⟨ty158_ok, trivial, trivial⟩⟩⟩⟩⟩⟩⟩
def dyn : Nat → Nat → List (Nat × Nat) := dynOf [(3, 3, [(1, 2)]),(6, 27, [(3, 5)]),(7, 8, [(4, 0), (4, 6), (8, 0)]),(7, 12, [(4, 0), (4, 6), (8, 0)]),(28, 1, [(3, 6)]),(28, 5, [(7, 1), (7, 3), (7, 9)]),(28, 10, [(11, 1), (11, 3), (11, 5), (11, 7), (11, 14), (15, 1), (15, 3), (15, 5), (15, 7)]),(36, 2, [(8, 1), (8, 2)]),(45, 13, [(6, 2)]),(45, 42, [(6, 2)]),(45, 44, [(6, 2)]),(50, 14, [(2, 4)]),(50, 25, [(6, 1), (6, 3), (6, 9), (6, 11)]),(50, 49, [(11, 1), (11, 3), (11, 5), (11, 7)]),(58, 24, [(6, 2)]),(58, 30, [(2, 5), (2, 7)]),(87, 1, [(4, 8), (4, 9)])]
theorem fn3_ok : FnOk Tryd.prog dyn 3 (fi Tryd.f3) := ⟨⟨Tryd.f3, Tryd.func3, rfl, rfl, rfl, rfl⟩, by kernel_rfl⟩
theorem fn4_ok : FnOk Tryd.prog dyn 4 (fi Tryd.f4) := ⟨⟨Tryd.f4, Tryd.func4, rfl, rfl, rfl, rfl⟩, by kernel_rfl⟩
theorem fn5_ok : FnOk Tryd.prog dyn 5 (fi Tryd.f5) := ⟨⟨Tryd.f5, Tryd.func5, rfl, rfl, rfl, rfl⟩, by kernel_rfl⟩
theorem fn6_ok : FnOk Tryd.prog dyn 6 (fi Tryd.f6) := ⟨⟨Tryd.f6, Tryd.func6, rfl, rfl, rfl, rfl⟩, by kernel_rfl⟩
theorem fn7_ok : FnOk Tryd.prog dyn 7 (fi Tryd.f7) := ⟨⟨Tryd.f7, Tryd.func7, rfl, rfl, rfl, rfl⟩, by kernel_rfl⟩
theorem fn8_ok : FnOk Tryd.prog dyn 8 (fi Tryd.f8) := ⟨⟨Tryd.f8, Tryd.func8, rfl, rfl, rfl, rfl⟩, by kernel_rfl⟩
theorem fn9_ok : FnOk Tryd.prog dyn 9 (fi Tryd.f9) := ⟨⟨Tryd.f9, Tryd.func9, rfl, rfl, rfl, rfl⟩, by kernel_rfl⟩
theorem fn10_ok : FnOk Tryd.prog dyn 10 (fi Tryd.f10) := ⟨⟨Tryd.f10, Tryd.func10, rfl, rfl, rfl, rfl⟩, by kernel_rfl⟩
theorem fn11_ok : FnOk Tryd.prog dyn 11 (fi Tryd.f11) := ⟨⟨Tryd.f11, Tryd.func11, rfl, rfl, rfl, rfl⟩, by kernel_rfl⟩
theorem fn12_ok : FnOk Tryd.prog dyn 12 (fi Tryd.f12) := ⟨⟨Tryd.f12, Tryd.func12, rfl, rfl, rfl, rfl⟩, by kernel_rfl⟩
theorem fn13_ok : FnOk Tryd.prog dyn 13 (fi Tryd.f13) := ⟨⟨Tryd.f13, Tryd.func13, rfl, rfl, rfl, rfl⟩, by kernel_rfl⟩
theorem fn14_ok : FnOk Tryd.prog dyn 14 (fi Tryd.f14) := ⟨⟨Tryd.f14, Tryd.func14, rfl, rfl, rfl, rfl⟩, by kernel_rfl⟩
theorem fn15_ok : FnOk Tryd.prog dyn 15 (fi Tryd.f15) := ⟨⟨Tryd.f15, Tryd.func15, rfl, rfl, rfl, rfl⟩, by kernel_rfl⟩
theorem fn16_ok : FnOk Tryd.prog dyn 16 (fi Tryd.f16) := ⟨⟨Tryd.f16, Tryd.func16, rfl, rfl, rfl, rfl⟩, by kernel_rfl⟩
theorem fn17_ok : FnOk Tryd.prog dyn 17 (fi Tryd.f17) := ⟨⟨Tryd.f17, Tryd.func17, rfl, rfl, rfl, rfl⟩, by kernel_rfl⟩
theorem fn18_ok : FnOk Tryd.prog dyn 18 (fi Tryd.f18) := ⟨⟨Tryd.f18, Tryd.func18, rfl, rfl, rfl, rfl⟩, by kernel_rfl⟩
theorem fn19_ok : FnOk Tryd.prog dyn 19 (fi Tryd.f19) := ⟨⟨Tryd.f19, Tryd.func19, rfl, rfl, rfl, rfl⟩, by kernel_rfl⟩
theorem fn20_ok : FnOk Tryd.prog dyn 20 (fi Tryd.f20) := ⟨⟨Tryd.f20, Tryd.func20, rfl, rfl, rfl, rfl⟩, by kernel_rfl⟩
theorem fn21_ok : FnOk Tryd.prog dyn 21 (fi Tryd.f21) := ⟨⟨Tryd.f21, Tryd.func21, rfl, rfl, rfl, rfl⟩, by kernel_rfl⟩
theorem fn22_ok : FnOk Tryd.prog dyn 22 (fi Tryd.f22) := ⟨⟨Tryd.f22, Tryd.func22, rfl, rfl, rfl, rfl⟩, by kernel_rfl⟩
theorem fn23_ok : FnOk Tryd.prog dyn 23 (fi Tryd.f23) := ⟨⟨Tryd.f23, Tryd.func23, rfl, rfl, rfl, rfl⟩, by kernel_rfl⟩
theorem fn24_ok : FnOk Tryd.prog dyn 24 (fi Tryd.f24) := ⟨⟨Tryd.f24, Tryd.func24, rfl, rfl, rfl, rfl⟩, by kernel_rfl⟩
theorem fn25_ok : FnOk Tryd.prog dyn 25 (fi Tryd.f25) := ⟨⟨Tryd.f25, Tryd.func25, rfl, rfl, rfl, rfl⟩, by kernel_rfl⟩
theorem fn26_ok : FnOk Tryd.prog dyn 26 (fi Tryd.f26) := ⟨⟨Tryd.f26, Tryd.func26, rfl, rfl, rfl, rfl⟩, by kernel_rfl⟩
theorem fn27_ok : FnOk Tryd.prog dyn 27 (fi Tryd.f27) := ⟨⟨Tryd.f27, Tryd.func27, rfl, rfl, rfl, rfl⟩, by kernel_rfl⟩
theorem fn28_ok : FnOk Tryd.prog dyn 28 (fi Tryd.f28) := ⟨⟨Tryd.f28, Tryd.func28, rfl, rfl, rfl, rfl⟩, by kernel_rfl⟩
theorem fn29_ok : FnOk Tryd.prog dyn 29 (fi Tryd.f29) := ⟨⟨Tryd.f29, Tryd.func29, rfl, rfl, rfl, rfl⟩, by kernel_rfl⟩
theorem fn30_ok : FnOk Tryd.prog dyn 30 (fi Tryd.f30) := ⟨⟨Tryd.f30, Tryd.func30, rfl, rfl, rfl, rfl⟩, by kernel_rfl⟩
theorem fn31_ok : FnOk Tryd.prog dyn 31 (fi Tryd.f31) := ⟨⟨Tryd.f31, Tryd.func31, rfl, rfl, rfl, rfl⟩, by kernel_rfl⟩
theorem fn32_ok : FnOk Tryd.prog dyn 32 (fi Tryd.f32) := ⟨⟨Tryd.f32, Tryd.func32, rfl, rfl, rfl, rfl⟩, by kernel_rfl⟩
theorem fn33_ok : FnOk Tryd.prog dyn 33 (fi Tryd.f33) := ⟨⟨Tryd.f33, Tryd.func33, rfl, rfl, rfl, rfl⟩, by kernel_rfl⟩
theorem fn34_ok : FnOk Tryd.prog dyn 34 (fi Tryd.f34) := ⟨⟨Tryd.f34, Tryd.func34, rfl, rfl, rfl, rfl⟩, by kernel_rfl⟩
theorem fn35_ok : FnOk Tryd.prog dyn 35 (fi Tryd.f35) := ⟨⟨Tryd.f35, Tryd.func35, rfl, rfl, rfl, rfl⟩, by kernel_rfl⟩
theorem fn36_ok : FnOk Tryd.prog dyn 36 (fi Tryd.f36) := ⟨⟨Tryd.f36, Tryd.func36, rfl, rfl, rfl, rfl⟩, by kernel_rfl⟩
theorem fn37_ok : FnOk Tryd.prog dyn 37 (fi Tryd.f37) := ⟨⟨Tryd.f37, Tryd.func37, rfl, rfl, rfl, rfl⟩, by kernel_rfl⟩
theorem fn38_ok : FnOk Tryd.prog dyn 38 (fi Tryd.f38) := ⟨⟨Tryd.f38, Tryd.func38, rfl, rfl, rfl, rfl⟩, by kernel_rfl⟩
theorem fn39_ok : FnOk Tryd.prog dyn 39 (fi Tryd.f39) := ⟨⟨Tryd.f39, Tryd.func39, rfl, rfl, rfl, rfl⟩, by kernel_rfl⟩
theorem fn40_ok : FnOk Tryd.prog dyn 40 (fi Tryd.f40) := ⟨⟨Tryd.f40, Tryd.func40, rfl, rfl, rfl, rfl⟩, by kernel_rfl⟩
theorem fn41_ok : FnOk Tryd.prog dyn 41 (fi Tryd.f41) := ⟨⟨Tryd.f41, Tryd.func41, rfl, rfl, rfl, rfl⟩, by kernel_rfl⟩
theorem fn42_ok : FnOk Tryd.prog dyn 42 (fi Tryd.f42) := ⟨⟨Tryd.f42, Tryd.func42, rfl, rfl, rfl, rfl⟩, by kernel_rfl⟩
theorem fn43_ok : FnOk Tryd.prog dyn 43 (fi Tryd.f43) := ⟨⟨Tryd.f43, Tryd.func43, rfl, rfl, rfl, rfl⟩, by kernel_rfl⟩
theorem fn44_ok : FnOk Tryd.prog dyn 44 (fi Tryd.f44) := ⟨⟨Tryd.f44, Tryd.func44, rfl, rfl, rfl, rfl⟩, by kernel_rfl⟩
theorem fn45_ok : FnOk Tryd.prog dyn 45 (fi Tryd.f45) := ⟨⟨Tryd.f45, Tryd.func45, rfl, rfl, rfl, rfl⟩, by kernel_rfl⟩
theorem fn46_ok : FnOk Tryd.prog dyn 46 (fi Tryd.f46) := ⟨⟨Tryd.f46, Tryd.func46, rfl, rfl, rfl, rfl⟩, by kernel_rfl⟩
theorem fn47_ok : FnOk Tryd.prog dyn 47 (fi Tryd.f47) := ⟨⟨Tryd.f47, Tryd.func47, rfl, rfl, rfl, rfl⟩, by kernel_rfl⟩
theorem fn48_ok : FnOk Tryd.prog dyn 48 (fi Tryd.f48) := ⟨⟨Tryd.f48, Tryd.func48, rfl, rfl, rfl, rfl⟩, by kernel_rfl⟩
theorem fn49_ok : FnOk Tryd.prog dyn 49 (fi Tryd.f49) := ⟨⟨Tryd.f49, Tryd.func49, rfl, rfl, rfl, rfl⟩, by kernel_rfl⟩
theorem fn50_ok : FnOk Tryd.prog dyn 50 (fi Tryd.f50) := ⟨⟨Tryd.f50, Tryd.func50, rfl, rfl, rfl, rfl⟩, by kernel_rfl⟩
theorem fn51_ok : FnOk Tryd.prog dyn 51 (fi Tryd.f51) := ⟨⟨Tryd.f51, Tryd.func51, rfl, rfl, rfl, rfl⟩, by kernel_rfl⟩
theorem fn52_ok : FnOk Tryd.prog dyn 52 (fi Tryd.f52) := ⟨⟨Tryd.f52, Tryd.func52, rfl, rfl, rfl, rfl⟩, by kernel_rfl⟩
theorem fn53_ok : FnOk Tryd.prog dyn 53 (fi Tryd.f53) := ⟨⟨Tryd.f53, Tryd.func53, rfl, rfl, rfl, rfl⟩, by kernel_rfl⟩
theorem fn54_ok : FnOk Tryd.prog dyn 54 (fi Tryd.f54) := ⟨⟨Tryd.f54, Tryd.func54, rfl, rfl, rfl, rfl⟩, by kernel_rfl⟩
theorem fn55_ok : FnOk Tryd.prog dyn 55 (fi Tryd.f55) := ⟨⟨Tryd.f55, Tryd.func55, rfl, rfl, rfl, rfl⟩, by kernel_rfl⟩
theorem fn56_ok : FnOk Tryd.prog dyn 56 (fi Tryd.f56) := ⟨⟨Tryd.f56, Tryd.func56, rfl, rfl, rfl, rfl⟩, by kernel_rfl⟩
theorem fn57_ok : FnOk Tryd.prog dyn 57 (fi Tryd.f57) := ⟨⟨Tryd.f57, Tryd.func57, rfl, rfl, rfl, rfl⟩, by kernel_rfl⟩
theorem fn58_ok : FnOk Tryd.prog dyn 58 (fi Tryd.f58) := ⟨⟨Tryd.f58, Tryd.func58, rfl, rfl, rfl, rfl⟩, by kernel_rfl⟩
theorem fn59_ok : FnOk Tryd.prog dyn 59 (fi Tryd.f59) := ⟨⟨Tryd.f59, Tryd.func59, rfl, rfl, rfl, rfl⟩, by kernel_rfl⟩
theorem fn60_ok : FnOk Tryd.prog dyn 60 (fi Tryd.f60) := ⟨⟨Tryd.f60, Tryd.func60, rfl, rfl, rfl, rfl⟩, by kernel_rfl⟩
theorem fn61_ok : FnOk Tryd.prog dyn 61 (fi Tryd.f61) := ⟨⟨Tryd.f61, Tryd.func61, rfl, rfl, rfl, rfl⟩, by kernel_rfl⟩
theorem fn62_ok : FnOk Tryd.prog dyn 62 (fi Tryd.f62) := ⟨⟨Tryd.f62, Tryd.func62, rfl, rfl, rfl, rfl⟩, by kernel_rfl⟩
theorem fn63_ok : FnOk Tryd.prog dyn 63 (fi Tryd.f63) := ⟨⟨Tryd.f63, Tryd.func63, rfl, rfl, rfl, rfl⟩, by kernel_rfl⟩
theorem fn64_ok : FnOk Tryd.prog dyn 64 (fi Tryd.f64) := ⟨⟨Tryd.f64, Tryd.func64, rfl, rfl, rfl, rfl⟩, by kernel_rfl⟩
theorem fn65_ok : FnOk Tryd.prog dyn 65 (fi Tryd.f65) := ⟨⟨Tryd.f65, Tryd.func65, rfl, rfl, rfl, rfl⟩, by kernel_rfl⟩
theorem fn66_ok : FnOk Tryd.prog dyn 66 (fi Tryd.f66) := ⟨⟨Tryd.f66, Tryd.func66, rfl, rfl, rfl, rfl⟩, by kernel_rfl⟩
theorem fn67_ok : FnOk Tryd.prog dyn 67 (fi Tryd.f67) := ⟨⟨Tryd.f67, Tryd.func67, rfl, rfl, rfl, rfl⟩, by kernel_rfl⟩
theorem fn68_ok : FnOk Tryd.prog dyn 68 (fi Tryd.f68) := ⟨⟨Tryd.f68, Tryd.func68, rfl, rfl, rfl, rfl⟩, by kernel_rfl⟩
theorem fn69_ok : FnOk Tryd.prog dyn 69 (fi Tryd.f69) := ⟨⟨Tryd.f69, Tryd.func69, rfl, rfl, rfl, rfl⟩, by kernel_rfl⟩
theorem fn70_ok : FnOk Tryd.prog dyn 70 (fi Tryd.f70) := ⟨⟨Tryd.f70, Tryd.func70, rfl, rfl, rfl, rfl⟩, by kernel_rfl⟩
theorem fn71_ok : FnOk Tryd.prog dyn 71 (fi Tryd.f71) := ⟨⟨Tryd.f71, Tryd.func71, rfl, rfl, rfl, rfl⟩, by kernel_rfl⟩
theorem fn72_ok : FnOk Tryd.prog dyn 72 (fi Tryd.f72) := ⟨⟨Tryd.f72, Tryd.func72, rfl, rfl, rfl, rfl⟩, by kernel_rfl⟩
theorem fn73_ok : FnOk Tryd.prog dyn 73 (fi Tryd.f73) := ⟨⟨Tryd.f73, Tryd.func73, rfl, rfl, rfl, rfl⟩, by kernel_rfl⟩
theorem fn74_ok : FnOk Tryd.prog dyn 74 (fi Tryd.f74) := ⟨⟨Tryd.f74, Tryd.func74, rfl, rfl, rfl, rfl⟩, by kernel_rfl⟩
theorem fn75_ok : FnOk Tryd.prog dyn 75 (fi Tryd.f75) := ⟨⟨Tryd.f75, Tryd.func75, rfl, rfl, rfl, rfl⟩, by kernel_rfl⟩
theorem fn76_ok : FnOk Tryd.prog dyn 76 (fi Tryd.f76) := ⟨⟨Tryd.f76, Tryd.func76, rfl, rfl, rfl, rfl⟩, by kernel_rfl⟩
theorem fn77_ok : FnOk Tryd.prog dyn 77 (fi Tryd.f77) := ⟨⟨Tryd.f77, Tryd.func77, rfl, rfl, rfl, rfl⟩, by kernel_rfl⟩
theorem fn78_ok : FnOk Tryd.prog dyn 78 (fi Tryd.f78) := ⟨⟨Tryd.f78, Tryd.func78, rfl, rfl, rfl, rfl⟩, by kernel_rfl⟩
theorem fn79_ok : FnOk Tryd.prog dyn 79 (fi Tryd.f79) := ⟨⟨Tryd.f79, Tryd.func79, rfl, rfl, rfl, rfl⟩, by kernel_rfl⟩
theorem fn80_ok : FnOk Tryd.prog dyn 80 (fi Tryd.f80) := ⟨⟨Tryd.f80, Tryd.func80, rfl, rfl, rfl, rfl⟩, by kernel_rfl⟩
theorem fn81_ok : FnOk Tryd.prog dyn 81 (fi Tryd.f81) := ⟨⟨Tryd.f81, Tryd.func81, rfl, rfl, rfl, rfl⟩, by kernel_rfl⟩
theorem fn82_ok : FnOk Tryd.prog dyn 82 (fi Tryd.f82) := ⟨⟨Tryd.f82, Tryd.func82, rfl, rfl, rfl, rfl⟩, by kernel_rfl⟩
theorem fn83_ok : FnOk Tryd.prog dyn 83 (fi Tryd.f83) := ⟨⟨Tryd.f83, Tryd.func83, rfl, rfl, rfl, rfl⟩, by kernel_rfl⟩
theorem fn84_ok : FnOk Tryd.prog dyn 84 (fi Tryd.f84) := ⟨⟨Tryd.f84, Tryd.func84, rfl, rfl, rfl, rfl⟩, by kernel_rfl⟩
theorem fn85_ok : FnOk Tryd.prog dyn 85 (fi Tryd.f85) := ⟨⟨Tryd.f85, Tryd.func85, rfl, rfl, rfl, rfl⟩, by kernel_rfl⟩
theorem fn86_ok : FnOk Tryd.prog dyn 86 (fi Tryd.f86) := ⟨⟨Tryd.f86, Tryd.func86, rfl, rfl, rfl, rfl⟩, by kernel_rfl⟩
theorem fn87_ok : FnOk Tryd.prog dyn 87 (fi Tryd.f87) := ⟨⟨Tryd.f87, Tryd.func87, rfl, rfl, rfl, rfl⟩, by kernel_rfl⟩
theorem fn88_ok : FnOk Tryd.prog dyn 88 (fi Tryd.f88) := ⟨⟨Tryd.f88, Tryd.func88, rfl, rfl, rfl, rfl⟩, by kernel_rfl⟩
theorem fn89_ok : FnOk Tryd.prog dyn 89 (fi Tryd.f89) := ⟨⟨Tryd.f89, Tryd.func89, rfl, rfl, rfl, rfl⟩, by kernel_rfl⟩
theorem fn90_ok : FnOk Tryd.prog dyn 90 (fi Tryd.f90) := ⟨⟨Tryd.f90, Tryd.func90, rfl, rfl, rfl, rfl⟩, by kernel_rfl⟩
theorem fn92_ok : FnOk Tryd.prog dyn 92 (fi Tryd.f92) := ⟨⟨Tryd.f92, Tryd.func92, rfl, rfl, rfl, rfl⟩, by kernel_rfl⟩
theorem fn93_ok : FnOk Tryd.prog dyn 93 (fi Tryd.f93) := ⟨⟨Tryd.f93, Tryd.func93, rfl, rfl, rfl, rfl⟩, by kernel_rfl⟩
theorem fn94_ok : FnOk Tryd.prog dyn 94 (fi Tryd.f94) := ⟨⟨Tryd.f94, Tryd.func94, rfl, rfl, rfl, rfl⟩, by kernel_rfl⟩
theorem fn95_ok : FnOk Tryd.prog dyn 95 (fi Tryd.f95) := ⟨⟨Tryd.f95, Tryd.func95, rfl, rfl, rfl, rfl⟩, by kernel_rfl⟩
theorem fn96_ok : FnOk Tryd.prog dyn 96 (fi Tryd.f96) := ⟨⟨Tryd.f96, Tryd.func96, rfl, rfl, rfl, rfl⟩, by kernel_rfl⟩
theorem fn97_ok : FnOk Tryd.prog dyn 97 (fi Tryd.f97) := ⟨⟨Tryd.f97, Tryd.func97, rfl, rfl, rfl, rfl⟩, by kernel_rfl⟩
theorem fn98_ok : FnOk Tryd.prog dyn 98 (fi Tryd.f98) := ⟨⟨Tryd.f98, Tryd.func98, rfl, rfl, rfl, rfl⟩, by kernel_rfl⟩
theorem fn99_ok : FnOk Tryd.prog dyn 99 (fi Tryd.f99) := ⟨⟨Tryd.f99, Tryd.func99, rfl, rfl, rfl, rfl⟩, by kernel_rfl⟩
theorem fn100_ok : FnOk Tryd.prog dyn 100 (fi Tryd.f100) := ⟨⟨Tryd.f100, Tryd.func100, rfl, rfl, rfl, rfl⟩, by kernel_rfl⟩
theorem fn101_ok : FnOk Tryd.prog dyn 101 (fi Tryd.f101) := ⟨⟨Tryd.f101, Tryd.func101, rfl, rfl, rfl, rfl⟩, by kernel_rfl⟩
theorem fn102_ok : FnOk Tryd.prog dyn 102 (fi Tryd.f102) := ⟨⟨Tryd.f102, Tryd.func102, rfl, rfl, rfl, rfl⟩, by kernel_rfl⟩
theorem fn103_ok : FnOk Tryd.prog dyn 103 (fi Tryd.f103) := ⟨⟨Tryd.f103, Tryd.func103, rfl, rfl, rfl, rfl⟩, by kernel_rfl⟩
noncomputable def fns : Tree FnI := (.node 53 (fi Tryd.f53) (.node 28 (fi Tryd.f28) (.node 15 (fi Tryd.f15) (.node 9 (fi Tryd.f9) (.node 6 (fi Tryd.f6) (.node 4 (fi Tryd.f4) (.node 3 (fi Tryd.f3) .leaf .leaf) (.node 5 (fi Tryd.f5) .leaf .leaf)) (.node 8 (fi Tryd.f8) (.node 7 (fi Tryd.f7) .leaf .leaf) .leaf)) (.node 12 (fi Tryd.f12) (.node 11 (fi Tryd.f11) (.node 10 (fi Tryd.f10) .leaf .leaf) .leaf) (.node 14 (fi Tryd.f14) (.node 13 (fi Tryd.f13) .leaf .leaf) .leaf))) (.node 22 (fi Tryd.f22) (.node 19 (fi Tryd.f19) (.node 17 (fi Tryd.f17) (.node 16 (fi Tryd.f16) .leaf .leaf) (.node 18 (fi Tryd.f18) .leaf .leaf)) (.node 21 (fi Tryd.f21) (.node 20 (fi Tryd.f20) .leaf .leaf) .leaf)) (.node 25 (fi Tryd.f25) (.node 24 (fi Tryd.f24) (.node 23 (fi Tryd.f23) .leaf .leaf) .leaf) (.node 27 (fi Tryd.f27) (.node 26 (fi Tryd.f26) .leaf .leaf) .leaf)))) (.node 41 (fi Tryd.f41) (.node 35 (fi Tryd.f35) (.node 32 (fi Tryd.f32) (.node 30 (fi Tryd.f30) (.node 29 (fi Tryd.f29) .leaf .leaf) (.node 31 (fi Tryd.f31) .leaf .leaf)) (.node 34 (fi Tryd.f34) (.node 33 (fi Tryd.f33) .leaf .leaf) .leaf)) (.node 38 (fi Tryd.f38) (.node 37 (fi Tryd.f37) (.node 36 (fi Tryd.f36) .leaf .leaf) .leaf) (.node 40 (fi Tryd.f40) (.node 39 (fi Tryd.f39) .leaf .leaf) .leaf))) (.node 47 (fi Tryd.f47) (.node 44 (fi Tryd.f44) (.node 43 (fi Tryd.f43) (.node 42 (fi Tryd.f42) .leaf .leaf) .leaf) (.node 46 (fi Tryd.f46) (.node 45 (fi Tryd.f45) .leaf .leaf) .leaf)) (.node 50 (fi Tryd.f50) (.node 49 (fi Tryd.f49) (.node 48 (fi Tryd.f48) .leaf .leaf) .leaf) (.node 52 (fi Tryd.f52) (.node 51 (fi Tryd.f51) .leaf .leaf) .leaf))))) (.node 78 (fi Tryd.f78) (.node 66 (fi Tryd.f66) (.node 60 (fi Tryd.f60) (.node 57 (fi Tryd.f57) (.node 55 (fi Tryd.f55) (.node 54 (fi Tryd.f54) .leaf .leaf) (.node 56 (fi Tryd.f56) .leaf .leaf)) (.node 59 (fi Tryd.f59) (.node 58 (fi Tryd.f58) .leaf .leaf) .leaf)) (.node 63 (fi Tryd.f63) (.node 62 (fi Tryd.f62) (.node 61 (fi Tryd.f61) .leaf .leaf) .leaf) (.node 65 (fi Tryd.f65) (.node 64 (fi Tryd.f64) .leaf .leaf) .leaf))) (.node 72 (fi Tryd.f72) (.node 69 (fi Tryd.f69) (.node 68 (fi Tryd.f68) (.node 67 (fi Tryd.f67) .leaf .leaf) .leaf) (.node 71 (fi Tryd.f71) (.node 70 (fi Tryd.f70) .leaf .leaf) .leaf)) (.node 75 (fi Tryd.f75) (.node 74 (fi Tryd.f74) (.node 73 (fi Tryd.f73) .leaf .leaf) .leaf) (.node 77 (fi Tryd.f77) (.node 76 (fi Tryd.f76) .leaf .leaf) .leaf)))) (.node 92 (fi Tryd.f92) (.node 85 (fi Tryd.f85) (.node 82 (fi Tryd.f82) (.node 80 (fi Tryd.f80) (.node 79 (fi Tryd.f79) .leaf .leaf) (.node 81 (fi Tryd.f81) .leaf .leaf)) (.node 84 (fi Tryd.f84) (.node 83 (fi Tryd.f83) .leaf .leaf) .leaf)) (.node 88 (fi Tryd.f88) (.node 87 (fi Tryd.f87) (.node 86 (fi Tryd.f86) .leaf .leaf) .leaf) (.node 90 (fi Tryd.f90) (.node 89 (fi Tryd.f89) .leaf .leaf) .leaf))) (.node 98 (fi Tryd.f98) (.node 95 (fi Tryd.f95) (.node 94 (fi Tryd.f94) (.node 93 (fi Tryd.f93) .leaf .leaf) .leaf) (.node 97 (fi Tryd.f97) (.node 96 (fi Tryd.f96) .leaf .leaf) .leaf)) (.node 101 (fi Tryd.f101) (.node 100 (fi Tryd.f100) (.node 99 (fi Tryd.f99) .leaf .leaf) .leaf) (.node 103 (fi Tryd.f103) (.node 102 (fi Tryd.f102) .leaf .leaf) .leaf))))))
theorem fns_ok : fns.All (FnOk Tryd.prog dyn) := ⟨fn53_ok, ⟨fn28_ok, ⟨fn15_ok, ⟨fn9_ok, ⟨fn6_ok, ⟨fn4_ok, ⟨fn3_ok, trivial, trivial⟩, ⟨fn5_ok, trivial, trivial⟩⟩, ⟨fn8_ok, ⟨fn7_ok, trivial, trivial⟩, trivial⟩⟩, ⟨fn12_ok, ⟨fn11_ok, ⟨fn10_ok, trivial, trivial⟩, trivial⟩, ⟨fn14_ok, ⟨fn13_ok, trivial, trivial⟩, trivial⟩⟩⟩, ⟨fn22_ok, ⟨fn19_ok, ⟨fn17_ok, ⟨fn16_ok, trivial, trivial⟩, ⟨fn18_ok, trivial, trivial⟩⟩, ⟨fn21_ok, ⟨fn20_ok, trivial, trivial⟩, trivial⟩⟩, ⟨fn25_ok, ⟨fn24_ok, ⟨fn23_ok, trivial, trivial⟩, trivial⟩, ⟨fn27_ok, ⟨fn26_ok, trivial, trivial⟩, trivial⟩⟩⟩⟩, ⟨fn41_ok, ⟨fn35_ok, ⟨fn32_ok, ⟨fn30_ok, ⟨fn29_ok, trivial, trivial⟩, ⟨fn31_ok, trivial, trivial⟩⟩, ⟨fn34_ok, ⟨fn33_ok, trivial, trivial⟩, trivial⟩⟩, ⟨fn38_ok, ⟨fn37_ok, ⟨fn36_ok, trivial, trivial⟩, trivial⟩, ⟨fn40_ok, ⟨fn39_ok, trivial, trivial⟩, trivial⟩⟩⟩, ⟨fn47_ok, ⟨fn44_ok, ⟨fn43_ok, ⟨fn42_ok, trivial, trivial⟩, trivial⟩, ⟨fn46_ok, ⟨fn45_ok, trivial, trivial⟩, trivial⟩⟩, ⟨fn50_ok, ⟨fn49_ok, ⟨fn48_ok, trivial, trivial⟩, trivial⟩, ⟨fn52_ok, ⟨fn51_ok, trivial, trivial⟩, trivial⟩⟩⟩⟩⟩, ⟨fn78_ok, ⟨fn66_ok, ⟨fn60_ok, ⟨fn57_ok, ⟨fn55_ok, ⟨fn54_ok, trivial, trivial⟩, ⟨fn56_ok, trivial, trivial⟩⟩, ⟨fn59_ok, ⟨fn58_ok, trivial, trivial⟩, trivial⟩⟩, ⟨fn63_ok, ⟨fn62_ok, ⟨fn61_ok, trivial, trivial⟩, trivial⟩, ⟨fn65_ok, ⟨fn64_ok, trivial, trivial⟩, trivial⟩⟩⟩, ⟨fn72_ok, ⟨fn69_ok, ⟨fn68_ok, ⟨fn67_ok, trivial, trivial⟩, trivial⟩, ⟨fn71_ok, ⟨fn70_ok, trivial, trivial⟩, trivial⟩⟩, ⟨fn75_ok, ⟨fn74_ok, ⟨fn73_ok, trivial, trivial⟩, trivial⟩, ⟨fn77_ok, ⟨fn76_ok, trivial, trivial⟩, trivial⟩⟩⟩⟩, ⟨fn92_ok, ⟨fn85_ok, ⟨fn82_ok, ⟨fn80_ok, ⟨fn79_ok, trivial, trivial⟩, ⟨fn81_ok, trivial, trivial⟩⟩, ⟨fn84_ok, ⟨fn83_ok, trivial, trivial⟩, trivial⟩⟩, ⟨fn88_ok, ⟨fn87_ok, ⟨fn86_ok, trivial, trivial⟩, trivial⟩, ⟨fn90_ok, ⟨fn89_ok, trivial, trivial⟩, trivial⟩⟩⟩, ⟨fn98_ok, ⟨fn95_ok, ⟨fn94_ok, ⟨fn93_ok, trivial, trivial⟩, trivial⟩, ⟨fn97_ok, ⟨fn96_ok, trivial, trivial⟩, trivial⟩⟩, ⟨fn101_ok, ⟨fn100_ok, ⟨fn99_ok, trivial, trivial⟩, trivial⟩, ⟨fn103_ok, ⟨fn102_ok, trivial, trivial⟩, trivial⟩⟩⟩⟩⟩⟩
theorem mixed : Tryd.prog.follows .mixedOrders = true := by rfl
end Go.RtlEnv
