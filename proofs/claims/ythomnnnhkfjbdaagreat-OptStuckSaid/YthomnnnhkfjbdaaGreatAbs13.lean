/- Own text of this claim: part 13 of an interpreter that is proved sound against the model, and of what it shows of the law. -/
import Derived.Test.YthomnnnhkfjbdaaGreatRows
import Derived.WalkKit
import Derived.ProofKit
import Derived.OpenShut
import Derived.ShutString
import Derived.ChangeOld
import Derived.Below
import Derived.SizedLaws
import Derived.Carry
import Derived.Handed
import Derived.Lay
import Derived.MakeChecks
import Derived.Test.YthomnnnhkfjbdaaGreatAbs12
import Derived.Test.YthomnnnhkfjbdaaGreatAbs9
/- Closed calls of awake, level 1. -/
namespace Go.OptEnv
open Go Go.Proofs Go.Abs Go.RowKit
set_option maxRecDepth 100000
def ra17_0 : List AV := [.agg [.vs 1 .any [.str ⟨#[97]⟩], .vs 3 .any [.agg [.str ⟨#[112]⟩, .int .u8 0, .int .i64 6]], .vs 2 .any [.agg [.int .i64 2, .int .i64 4]], .vs 2 .any [.agg [.str ⟨#[111]⟩, .int .i64 4]]]]
def rr17_0 : AV := .tup [.agg [.vs 1 .any [.str ⟨#[97]⟩], .vs 3 .any [.agg [.str ⟨#[112]⟩, .int .u8 0, .int .i64 6]], .vs 2 .any [.agg [.int .i64 2, .int .i64 4]], .vs 2 .any [.agg [.str ⟨#[111]⟩, .int .i64 4]]], .int .i64 0]
theorem rk17_0 : runIs (En ap1) 10000 17 ra17_0 rr17_0 = true := by kernel_rfl
def ra17_1 : List AV := [.agg [.vs 1 .any [.str ⟨#[]⟩], .nilsl, .nilsl, .nilsl]]
def rr17_1 : AV := .tup [.agg [.nilsl, .nilsl, .nilsl, .nilsl], .int .i64 2]
theorem rk17_1 : runIs (En ap1) 10000 17 ra17_1 rr17_1 = true := by kernel_rfl
def ra17_2 : List AV := [.agg [.vs 1 .any [.str ⟨#[97]⟩], .vs 3 .any [.agg [.str ⟨#[112]⟩, .int .u8 0, .int .i64 2], .agg [.str ⟨#[113]⟩, .int .u8 0, .int .i64 2]], .vs 2 .any [.agg [.int .i64 4, .int .i64 6]], .vs 2 .any [.agg [.str ⟨#[111]⟩, .int .i64 8]]]]
def rr17_2 : AV := .tup [.agg [.vs 1 .any [.str ⟨#[97]⟩], .vs 3 .any [.agg [.str ⟨#[112]⟩, .int .u8 0, .int .i64 2], .agg [.str ⟨#[113]⟩, .int .u8 0, .int .i64 2]], .vs 2 .any [.agg [.int .i64 4, .int .i64 6]], .vs 2 .any [.agg [.str ⟨#[111]⟩, .int .i64 8]]], .int .i64 0]
theorem rk17_2 : runIs (En ap1) 10000 17 ra17_2 rr17_2 = true := by kernel_rfl
def ra17_3 : List AV := [.agg [.vs 1 .any [.str ⟨#[97]⟩], .vs 3 .any [.agg [.str ⟨#[112]⟩, .int .u8 0, .int .i64 2]], .nilsl, .vs 2 .any [.agg [.str ⟨#[111]⟩, .int .i64 4]]]]
def rr17_3 : AV := .tup [.agg [.vs 1 .any [.str ⟨#[97]⟩], .vs 3 .any [.agg [.str ⟨#[112]⟩, .int .u8 0, .int .i64 2]], .nilsl, .vs 2 .any [.agg [.str ⟨#[111]⟩, .int .i64 4]]], .int .i64 0]
theorem rk17_3 : runIs (En ap1) 10000 17 ra17_3 rr17_3 = true := by kernel_rfl
def tab17 : List (List AV × AV) := [(ra17_0, rr17_0), (ra17_1, rr17_1), (ra17_2, rr17_2), (ra17_3, rr17_3)]
theorem tabok17 : TabOk (En ap1) 17 tab17 := (.cons 10000 rk17_0 (.cons 10000 rk17_1 (.cons 10000 rk17_2 (.cons 10000 rk17_3 .nil))))
def ap2 : Prims := (addP ap1 17 (tabPrim tab17))
theorem good2 : Good ap2 := (Good.addT good1 (tabok17.does (En_ok _) good1.ok (hent Tryz.func17)))
end Go.OptEnv

/- Closed calls of awake, level 2. -/
namespace Go.OptEnv
open Go Go.Proofs Go.Abs Go.RowKit
set_option maxRecDepth 100000
def ra29_0 : List AV := [.agg [.vs 1 .any [.str ⟨#[97]⟩], .vs 3 .any [.agg [.str ⟨#[112]⟩, .int .u8 0, .int .i64 2], .agg [.str ⟨#[113]⟩, .int .u8 0, .int .i64 2]], .vs 2 .any [.agg [.int .i64 4, .int .i64 6]], .vs 2 .any [.agg [.str ⟨#[111]⟩, .int .i64 8]]]]
def rr29_0 : AV := .tup [.agg [.vs 1 .any [.str ⟨#[97]⟩], .vs 3 .any [.agg [.str ⟨#[112]⟩, .int .u8 0, .int .i64 2]], .nilsl, .vs 2 .any [.agg [.str ⟨#[111]⟩, .int .i64 4]]], .int .i64 0]
theorem rk29_0 : runIs (En ap2) 10000 29 ra29_0 rr29_0 = true := by kernel_rfl
def ra29_1 : List AV := [.agg [.vs 1 .any [.str ⟨#[97]⟩], .vs 3 .any [.agg [.str ⟨#[112]⟩, .int .u8 0, .int .i64 2]], .nilsl, .vs 2 .any [.agg [.str ⟨#[111]⟩, .int .i64 4]]]]
def rr29_1 : AV := .tup [.agg [.vs 1 .any [.str ⟨#[97]⟩], .vs 3 .any [.agg [.str ⟨#[112]⟩, .int .u8 0, .int .i64 2]], .nilsl, .vs 2 .any [.agg [.str ⟨#[111]⟩, .int .i64 4]]], .int .i64 0]
theorem rk29_1 : runIs (En ap2) 10000 29 ra29_1 rr29_1 = true := by kernel_rfl
def tab29 : List (List AV × AV) := [(ra29_0, rr29_0), (ra29_1, rr29_1)]
theorem tabok29 : TabOk (En ap2) 29 tab29 := (.cons 10000 rk29_0 (.cons 10000 rk29_1 .nil))
def ra24_0 : List AV := [.agg [.vs 1 .any [.str ⟨#[97]⟩], .vs 3 .any [.agg [.str ⟨#[112]⟩, .int .u8 0, .int .i64 6]], .vs 2 .any [.agg [.int .i64 2, .int .i64 4]], .vs 2 .any [.agg [.str ⟨#[111]⟩, .int .i64 4]]]]
def rr24_0 : AV := .tup [.agg [.vs 1 .any [.str ⟨#[97]⟩], .nilsl, .nilsl, .vs 2 .any [.agg [.str ⟨#[111]⟩, .int .i64 0]]], .int .i64 0]
theorem rk24_0 : runIs (En ap2) 10000 24 ra24_0 rr24_0 = true := by kernel_rfl
def ra24_1 : List AV := [.agg [.vs 1 .any [.str ⟨#[97]⟩], .vs 3 .any [.agg [.str ⟨#[112]⟩, .int .u8 0, .int .i64 2], .agg [.str ⟨#[113]⟩, .int .u8 0, .int .i64 2]], .vs 2 .any [.agg [.int .i64 4, .int .i64 6]], .vs 2 .any [.agg [.str ⟨#[111]⟩, .int .i64 8]]]]
def rr24_1 : AV := .tup [.agg [.vs 1 .any [.str ⟨#[97]⟩], .vs 3 .any [.agg [.str ⟨#[112]⟩, .int .u8 0, .int .i64 2], .agg [.str ⟨#[113]⟩, .int .u8 0, .int .i64 2]], .vs 2 .any [.agg [.int .i64 4, .int .i64 6]], .vs 2 .any [.agg [.str ⟨#[111]⟩, .int .i64 8]]], .int .i64 0]
theorem rk24_1 : runIs (En ap2) 10000 24 ra24_1 rr24_1 = true := by kernel_rfl
def ra24_2 : List AV := [.agg [.vs 1 .any [.str ⟨#[97]⟩], .vs 3 .any [.agg [.str ⟨#[112]⟩, .int .u8 0, .int .i64 2]], .nilsl, .vs 2 .any [.agg [.str ⟨#[111]⟩, .int .i64 4]]]]
def rr24_2 : AV := .tup [.agg [.vs 1 .any [.str ⟨#[97]⟩], .vs 3 .any [.agg [.str ⟨#[112]⟩, .int .u8 0, .int .i64 2]], .nilsl, .vs 2 .any [.agg [.str ⟨#[111]⟩, .int .i64 4]]], .int .i64 0]
theorem rk24_2 : runIs (En ap2) 10000 24 ra24_2 rr24_2 = true := by kernel_rfl
def tab24 : List (List AV × AV) := [(ra24_0, rr24_0), (ra24_1, rr24_1), (ra24_2, rr24_2)]
theorem tabok24 : TabOk (En ap2) 24 tab24 := (.cons 10000 rk24_0 (.cons 10000 rk24_1 (.cons 10000 rk24_2 .nil)))
def ra19_0 : List AV := [.agg [.vs 1 .any [.str ⟨#[97]⟩], .vs 3 .any [.agg [.str ⟨#[112]⟩, .int .u8 0, .int .i64 2], .agg [.str ⟨#[113]⟩, .int .u8 0, .int .i64 2]], .vs 2 .any [.agg [.int .i64 4, .int .i64 6]], .vs 2 .any [.agg [.str ⟨#[111]⟩, .int .i64 8]]]]
def rr19_0 : AV := .tup [.agg [.vs 1 .any [.str ⟨#[97]⟩], .vs 3 .any [.agg [.str ⟨#[112]⟩, .int .u8 0, .int .i64 2], .agg [.str ⟨#[113]⟩, .int .u8 0, .int .i64 2]], .vs 2 .any [.agg [.int .i64 4, .int .i64 6]], .vs 2 .any [.agg [.str ⟨#[111]⟩, .int .i64 8]]], .int .i64 0]
theorem rk19_0 : runIs (En ap2) 10000 19 ra19_0 rr19_0 = true := by kernel_rfl
def ra19_1 : List AV := [.agg [.vs 1 .any [.str ⟨#[97]⟩], .vs 3 .any [.agg [.str ⟨#[112]⟩, .int .u8 0, .int .i64 2]], .nilsl, .vs 2 .any [.agg [.str ⟨#[111]⟩, .int .i64 4]]]]
def rr19_1 : AV := .tup [.agg [.vs 1 .any [.str ⟨#[97]⟩], .vs 3 .any [.agg [.str ⟨#[112]⟩, .int .u8 0, .int .i64 2]], .nilsl, .vs 2 .any [.agg [.str ⟨#[111]⟩, .int .i64 4]]], .int .i64 0]
theorem rk19_1 : runIs (En ap2) 10000 19 ra19_1 rr19_1 = true := by kernel_rfl
def tab19 : List (List AV × AV) := [(ra19_0, rr19_0), (ra19_1, rr19_1)]
theorem tabok19 : TabOk (En ap2) 19 tab19 := (.cons 10000 rk19_0 (.cons 10000 rk19_1 .nil))
def ra38_0 : List AV := [.agg [.vs 1 .any [.str ⟨#[97]⟩], .vs 3 .any [.agg [.str ⟨#[112]⟩, .int .u8 0, .int .i64 2], .agg [.str ⟨#[113]⟩, .int .u8 0, .int .i64 2]], .vs 2 .any [.agg [.int .i64 4, .int .i64 6]], .vs 2 .any [.agg [.str ⟨#[111]⟩, .int .i64 8]]]]
def rr38_0 : AV := .tup [.agg [.vs 1 .any [.str ⟨#[97]⟩], .vs 3 .any [.agg [.str ⟨#[112]⟩, .int .u8 0, .int .i64 2], .agg [.str ⟨#[113]⟩, .int .u8 0, .int .i64 2]], .vs 2 .any [.agg [.int .i64 4, .int .i64 6]], .vs 2 .any [.agg [.str ⟨#[111]⟩, .int .i64 8]]], .int .i64 0]
theorem rk38_0 : runIs (En ap2) 10000 38 ra38_0 rr38_0 = true := by kernel_rfl
def ra38_1 : List AV := [.agg [.vs 1 .any [.str ⟨#[97]⟩], .vs 3 .any [.agg [.str ⟨#[112]⟩, .int .u8 0, .int .i64 2]], .nilsl, .vs 2 .any [.agg [.str ⟨#[111]⟩, .int .i64 4]]]]
def rr38_1 : AV := .tup [.agg [.vs 1 .any [.str ⟨#[97]⟩], .vs 3 .any [.agg [.str ⟨#[112]⟩, .int .u8 0, .int .i64 2]], .nilsl, .vs 2 .any [.agg [.str ⟨#[111]⟩, .int .i64 4]]], .int .i64 0]
theorem rk38_1 : runIs (En ap2) 10000 38 ra38_1 rr38_1 = true := by kernel_rfl
def tab38 : List (List AV × AV) := [(ra38_0, rr38_0), (ra38_1, rr38_1)]
theorem tabok38 : TabOk (En ap2) 38 tab38 := (.cons 10000 rk38_0 (.cons 10000 rk38_1 .nil))
def ra39_0 : List AV := [.agg [.vs 1 .any [.str ⟨#[97]⟩], .vs 3 .any [.agg [.str ⟨#[112]⟩, .int .u8 0, .int .i64 2], .agg [.str ⟨#[113]⟩, .int .u8 0, .int .i64 2]], .vs 2 .any [.agg [.int .i64 4, .int .i64 6]], .vs 2 .any [.agg [.str ⟨#[111]⟩, .int .i64 8]]]]
def rr39_0 : AV := .tup [.agg [.vs 1 .any [.str ⟨#[97]⟩], .vs 3 .any [.agg [.str ⟨#[112]⟩, .int .u8 0, .int .i64 2], .agg [.str ⟨#[113]⟩, .int .u8 0, .int .i64 2]], .vs 2 .any [.agg [.int .i64 4, .int .i64 6]], .vs 2 .any [.agg [.str ⟨#[111]⟩, .int .i64 8]]], .int .i64 0]
theorem rk39_0 : runIs (En ap2) 10000 39 ra39_0 rr39_0 = true := by kernel_rfl
def tab39 : List (List AV × AV) := [(ra39_0, rr39_0)]
theorem tabok39 : TabOk (En ap2) 39 tab39 := (.cons 10000 rk39_0 .nil)
def ra40_0 : List AV := [.agg [.vs 1 .any [.str ⟨#[97]⟩], .vs 3 .any [.agg [.str ⟨#[112]⟩, .int .u8 0, .int .i64 2], .agg [.str ⟨#[113]⟩, .int .u8 0, .int .i64 2]], .vs 2 .any [.agg [.int .i64 4, .int .i64 6]], .vs 2 .any [.agg [.str ⟨#[111]⟩, .int .i64 8]]]]
def rr40_0 : AV := .tup [.agg [.vs 1 .any [.str ⟨#[97]⟩], .vs 3 .any [.agg [.str ⟨#[112]⟩, .int .u8 0, .int .i64 2], .agg [.str ⟨#[113]⟩, .int .u8 0, .int .i64 2]], .vs 2 .any [.agg [.int .i64 4, .int .i64 6]], .vs 2 .any [.agg [.str ⟨#[111]⟩, .int .i64 8]]], .int .i64 0]
theorem rk40_0 : runIs (En ap2) 10000 40 ra40_0 rr40_0 = true := by kernel_rfl
def ra40_1 : List AV := [.agg [.vs 1 .any [.str ⟨#[97]⟩], .vs 3 .any [.agg [.str ⟨#[112]⟩, .int .u8 0, .int .i64 2]], .nilsl, .vs 2 .any [.agg [.str ⟨#[111]⟩, .int .i64 4]]]]
def rr40_1 : AV := .tup [.agg [.vs 1 .any [.str ⟨#[97]⟩], .vs 3 .any [.agg [.str ⟨#[112]⟩, .int .u8 0, .int .i64 2]], .nilsl, .vs 2 .any [.agg [.str ⟨#[111]⟩, .int .i64 4]]], .int .i64 0]
theorem rk40_1 : runIs (En ap2) 10000 40 ra40_1 rr40_1 = true := by kernel_rfl
def tab40 : List (List AV × AV) := [(ra40_0, rr40_0), (ra40_1, rr40_1)]
theorem tabok40 : TabOk (En ap2) 40 tab40 := (.cons 10000 rk40_0 (.cons 10000 rk40_1 .nil))
def ap3 : Prims := (addP (addP (addP (addP (addP (addP ap2 29 (tabPrim tab29)) 24 (tabPrim tab24)) 19 (tabPrim tab19)) 38 (tabPrim tab38)) 39 (tabPrim tab39)) 40 (tabPrim tab40))
theorem good3 : Good ap3 := (Good.addT (Good.addT (Good.addT (Good.addT (Good.addT (Good.addT good2 (tabok29.does (En_ok _) good2.ok (hent Tryz.func29))) (tabok24.does (En_ok _) good2.ok (hent Tryz.func24))) (tabok19.does (En_ok _) good2.ok (hent Tryz.func19))) (tabok38.does (En_ok _) good2.ok (hent Tryz.func38))) (tabok39.does (En_ok _) good2.ok (hent Tryz.func39))) (tabok40.does (En_ok _) good2.ok (hent Tryz.func40)))
end Go.OptEnv

/- Closed calls of awake, level 3. -/
namespace Go.OptEnv
open Go Go.Proofs Go.Abs Go.RowKit
set_option maxRecDepth 100000
def ra45_0 : List AV := [.agg [.vs 1 .any [.str ⟨#[97]⟩], .vs 3 .any [.agg [.str ⟨#[112]⟩, .int .u8 0, .int .i64 2], .agg [.str ⟨#[113]⟩, .int .u8 0, .int .i64 2]], .vs 2 .any [.agg [.int .i64 4, .int .i64 6]], .vs 2 .any [.agg [.str ⟨#[111]⟩, .int .i64 8]]]]
def rr45_0 : AV := .tup [.agg [.vs 1 .any [.str ⟨#[97]⟩], .vs 3 .any [.agg [.str ⟨#[112]⟩, .int .u8 0, .int .i64 2]], .nilsl, .vs 2 .any [.agg [.str ⟨#[111]⟩, .int .i64 4]]], .int .i64 0]
theorem rk45_0 : runIs (En ap3) 10000 45 ra45_0 rr45_0 = true := by kernel_rfl
def tab45 : List (List AV × AV) := [(ra45_0, rr45_0)]
theorem tabok45 : TabOk (En ap3) 45 tab45 := (.cons 10000 rk45_0 .nil)
def ap4 : Prims := (addP ap3 45 (tabPrim tab45))
theorem good4 : Good ap4 := (Good.addT good3 (tabok45.does (En_ok _) good3.ok (hent Tryz.func45)))
end Go.OptEnv

/- awake(), a closed run: opt's functions at the chapter's examples. -/
namespace Go.OptEnv
open Go Go.Proofs Go.Abs Go.RowKit
set_option maxRecDepth 100000
theorem awake_run : isT (callF (En ap4) 10000 16 [] St.empty) = true := by kernel_rfl
/-- awake() says true, and leaves what was there. -/
theorem awake_calls (w : World) : Calls Tryz.prog 16 #[] w fun e w' => e = .returned (.bool true) ∧ Below w.heap.size w w' := by
  obtain ⟨st, h⟩ := isT_spec awake_run
  refine (closed_calls (En_ok _) good4.ok h w).mono ?_
  rintro e w' ⟨v, Γ, rfl, hb, hr⟩
  simp only [R] at hr
  subst hr
  exact ⟨rfl, hb⟩
end Go.OptEnv

/- All the contracts together; the law OptStuck. -/
namespace Go.OptEnv
open Go Go.Proofs Go.Abs Go.RowKit Go.NetM
set_option maxRecDepth 10000
theorem con16 : Con2 (En ap4) 16 Rel16 := ⟨by rintro a x ⟨rfl, rfl⟩; rfl, by
  rintro a x ⟨rfl, rfl⟩
  obtain ⟨st, h⟩ := isT_spec awake_run
  exact ⟨10000, .bool true, st, h, .bool true, st, rfl, rfl, rfl⟩⟩
noncomputable def cp0 : Prims := addP ap0 16 (primOf Rel16)
theorem cg0 : Good cp0 := good0.addT fun B w0 => con16.does (En_ok ap4) good4.ok (hent Tryz.func16) B w0
noncomputable def cp1 : Prims := addP cp0 124 (tabPrim tab124)
theorem cg1 : Good cp1 := cg0.addT fun B w0 => tabok124.does (En_ok ap0) good0.ok (hent Tryz.func124) B w0
noncomputable def cp2 : Prims := addP cp1 123 (tabPrim tab123)
theorem cg2 : Good cp2 := cg1.addT fun B w0 => tabok123.does (En_ok ap0) good0.ok (hent Tryz.func123) B w0
noncomputable def cp3 : Prims := addP cp2 133 (tabPrim tab133)
theorem cg3 : Good cp3 := cg2.addT fun B w0 => tabok133.does (En_ok ap0) good0.ok (hent Tryz.func133) B w0
noncomputable def cp4 : Prims := addP cp3 132 (tabPrim tab132)
theorem cg4 : Good cp4 := cg3.addT fun B w0 => tabok132.does (En_ok ap0) good0.ok (hent Tryz.func132) B w0
noncomputable def cp5 : Prims := addP cp4 58 (tabPrim tab58)
theorem cg5 : Good cp5 := cg4.addT fun B w0 => tabok58.does (En_ok ap0) good0.ok (hent Tryz.func58) B w0
theorem cc70 : Con2 (En cp5) 70 Rel70 := con70 rfl
noncomputable def cp6 : Prims := addP cp5 70 (primOf Rel70)
theorem cg6 : Good cp6 := cg5.add cc70 (hent Tryz.func70)
theorem cc72 : Con2 (En cp6) 72 Rel72 := con72 rfl
noncomputable def cp7 : Prims := addP cp6 72 (primOf Rel72)
theorem cg7 : Good cp7 := cg6.add cc72 (hent Tryz.func72)
theorem cc73 : Con2 (En cp7) 73 Rel73 := con73 rfl
noncomputable def cp8 : Prims := addP cp7 73 (primOf Rel73)
theorem cg8 : Good cp8 := cg7.add cc73 (hent Tryz.func73)
theorem cc103 : Con2 (En cp8) 103 Rel103 := con103 rfl
noncomputable def cp9 : Prims := addP cp8 103 (primOf Rel103)
theorem cg9 : Good cp9 := cg8.add cc103 (hent Tryz.func103)
theorem cc105 : Con2 (En cp9) 105 Rel105 := con105 rfl
noncomputable def cp10 : Prims := addP cp9 105 (primOf Rel105)
theorem cg10 : Good cp10 := cg9.add cc105 (hent Tryz.func105)
theorem cc107 : Con2 (En cp10) 107 Rel107 := con107 rfl
noncomputable def cp11 : Prims := addP cp10 107 (primOf Rel107)
theorem cg11 : Good cp11 := cg10.add cc107 (hent Tryz.func107)
theorem cc114 : Con2 (En cp11) 114 Rel114 := con114 rfl
noncomputable def cp12 : Prims := addP cp11 114 (primOf Rel114)
theorem cg12 : Good cp12 := cg11.add cc114 (hent Tryz.func114)
theorem cc128 : Con2 (En cp12) 128 Rel128 := con128 rfl
noncomputable def cp13 : Prims := addP cp12 128 (primOf Rel128)
theorem cg13 : Good cp13 := cg12.add cc128 (hent Tryz.func128)
theorem cc102 : Con2 (En cp13) 102 Rel102 := con102 rfl (Has.of cc103 rfl) (Has.of cc128 rfl)
noncomputable def cp14 : Prims := addP cp13 102 (primOf Rel102)
theorem cg14 : Good cp14 := cg13.add cc102 (hent Tryz.func102)
theorem cc104 : Con2 (En cp14) 104 Rel104 := con104 rfl (Has.of cc105 rfl) (Has.of cc128 rfl)
noncomputable def cp15 : Prims := addP cp14 104 (primOf Rel104)
theorem cg15 : Good cp15 := cg14.add cc104 (hent Tryz.func104)
theorem cc106 : Con2 (En cp15) 106 Rel106 := con106 rfl (Has.of cc107 rfl) (Has.of cc128 rfl)
noncomputable def cp16 : Prims := addP cp15 106 (primOf Rel106)
theorem cg16 : Good cp16 := cg15.add cc106 (hent Tryz.func106)
theorem cc71 : Con2 (En cp16) 71 Rel71 := con71 rfl (Has.of cc114 rfl)
noncomputable def cp17 : Prims := addP cp16 71 (primOf Rel71)
theorem cg17 : Good cp17 := cg16.add cc71 (hent Tryz.func71)
theorem cc122 : Con2 (En cp17) 122 Rel122 := con122 rfl (Has.of cc70 rfl)
noncomputable def cp18 : Prims := addP cp17 122 (primOf Rel122)
theorem cg18 : Good cp18 := cg17.add cc122 (hent Tryz.func122)
theorem cc92 : Con2 (En cp18) 92 Rel92 := con92 rfl rfl
noncomputable def cp19 : Prims := addP cp18 92 (primOf Rel92)
theorem cg19 : Good cp19 := cg18.add cc92 (hent Tryz.func92)
theorem cc31 : Con2 (En cp19) 31 Rel31 := con31 rfl (Has.of cc70 rfl) (Has.of cc71 rfl) (Has.of cc72 rfl) (Has.of cc73 rfl)
noncomputable def cp20 : Prims := addP cp19 31 (primOf Rel31)
theorem cg20 : Good cp20 := cg19.add cc31 (hent Tryz.func31)
theorem cc90 : Con2 (En cp20) 90 Rel90 := con90 rfl (Has.of cc31 rfl) (Has.of cc122 rfl) (Has.of cc92 rfl) rfl
noncomputable def cp21 : Prims := addP cp20 90 (primOf Rel90)
theorem cg21 : Good cp21 := cg20.add cc90 (hent Tryz.func90)
theorem cc48 : Con2 (En cp21) 48 Rel48 := con48 rfl (Has.of cc90 rfl) (Has.of cc92 rfl)
noncomputable def cp22 : Prims := addP cp21 48 (primOf Rel48)
theorem cg22 : Good cp22 := cg21.add cc48 (hent Tryz.func48)
theorem cc57 : Con2 (En cp22) 57 Rel57 := con57 rfl (Has.of cc102 rfl) (Has.of cc104 rfl) (Has.of cc106 rfl)
noncomputable def cp23 : Prims := addP cp22 57 (primOf Rel57)
theorem cg23 : Good cp23 := cg22.add cc57 (hent Tryz.func57)
theorem cc151 : Con2 (En cp23) 151 Rel151 := con151 rfl
noncomputable def cp24 : Prims := addP cp23 151 (primOf Rel151)
theorem cg24 : Good cp24 := cg23.add cc151 (hent Tryz.func151)
theorem cc150 : Con2 (En cp24) 150 Rel150 := con150 rfl rfl (Has.of cc151 rfl)
noncomputable def cp25 : Prims := addP cp24 150 (primOf Rel150)
theorem cg25 : Good cp25 := cg24.add cc150 (hent Tryz.func150)
theorem cc131 : Con2 (En cp25) 131 Rel131 := con131 rfl (Has.of cc150 rfl)
noncomputable def cp26 : Prims := addP cp25 131 (primOf Rel131)
theorem cg26 : Good cp26 := cg25.add cc131 (hent Tryz.func131)
theorem cc110 : Con2 (En cp26) 110 Rel110 := con110 rfl rfl
noncomputable def cp27 : Prims := addP cp26 110 (primOf Rel110)
theorem cg27 : Good cp27 := cg26.add cc110 (hent Tryz.func110)
theorem cc22 : Con2 (En cp27) 22 Rel22 := con22 rfl rfl rfl rfl (Has.of cc57 rfl) (Has.of cc131 rfl) (Has.of cc110 rfl) rfl
noncomputable def cp28 : Prims := addP cp27 22 (primOf Rel22)
theorem cg28 : Good cp28 := cg27.add cc22 (hent Tryz.func22)
theorem cc33 : Con2 (En cp28) 33 Rel33 := con33 rfl rfl
noncomputable def cp29 : Prims := addP cp28 33 (primOf Rel33)
theorem cg29 : Good cp29 := cg28.add cc33 (hent Tryz.func33)
theorem cc47 : Con2 (En cp29) 47 Rel47 := con47 rfl
noncomputable def cp30 : Prims := addP cp29 47 (primOf Rel47)
theorem cg30 : Good cp30 := cg29.add cc47 (hent Tryz.func47)
theorem cc32 : Con2 (En cp30) 32 Rel32 := con32 rfl
noncomputable def cp31 : Prims := addP cp30 32 (primOf Rel32)
theorem cg31 : Good cp31 := cg30.add cc32 (hent Tryz.func32)
theorem cc15 : Con2 (En cp31) 15 Rel15 := con15 rfl
noncomputable def cp32 : Prims := addP cp31 15 (primOf Rel15)
theorem cg32 : Good cp32 := cg31.add cc15 (hent Tryz.func15)
theorem stuck_calls (w : World) (n : GNet) (hn : FitsN n) (l0 l1 : GSl UInt8) (hl0 : l0.xs.length ≤ 140737488355328) (hl1 : l1.xs.length ≤ 140737488355328) (many : UInt8) (v0 v1 v2 : Value) (h0 : R (Ghost.all w) (netAV n) v0) (h1 : R (Ghost.all w) (twoAV l0 l1) v1) (h2 : R (Ghost.all w) (.int .u8 (many.toNat : Int)) v2) :
    Calls Tryz.prog 11 #[v0, v1, v2] w fun e w' => e = .returned (.bool true) ∧ Below w.heap.size w w' := by
  obtain ⟨n', x, st', h, hx⟩ := run11 (pr := cp32) rfl (Has.of cc15 rfl) (Has.of con16 rfl) (Has.of cc22 rfl) (Has.of cc31 rfl) (Has.of cc32 rfl) (Has.of cc33 rfl) (Has.of cc47 rfl) (Has.of cc48 rfl) n hn l0 l1 hl0 hl1 many St.empty
  refine ((callF_sound (En_ok cp32) (cg32.ok w.heap.size w) n' 11 _ St.empty x st' h).2 (Ghost.all w) w #[v0, v1, v2] (Inv.all w) (RL.cons h0 (RL.cons h1 (RL.cons h2 (RL.nil _))))).mono ?_
  rintro e w' ⟨u, Γ, rfl, out, hu⟩
  subst hx
  simp only [R] at hu
  subst hu
  exact ⟨rfl, out.inv.below⟩
end Go.OptEnv

/- A net, two rows of bits and a byte, read. -/
namespace Go.OptEnv
open Go Go.Proofs Go.Abs Go.RowKit
set_option maxRecDepth 10000
theorem reach_le : reachBytes ≤ 140737488355328 := by decide
theorem fit_wf {k : Int} (h : (Lit.int .i64 k).wf = true) : Fit64 k := by
  simp [Lit.wf, IntKind.min, IntKind.max, IntKind.signed, IntKind.bits] at h
  exact ⟨by omega, by omega⟩
section
variable {H : Type} {enc : TypeId × Value → H} {w : World} {base : Nat} {spare : Nat → Bool} {held : Bool} {fuel n : Nat} {cs : List Value} {x : DataW H × List MemPlace}
theorem array_read {t e : TypeId} {k : Nat} (ht : Tryz.prog.underlying t = some (.array k e)) (h : DataW.trod enc Tryz.prog w base spare held fuel t cs = some x) :
    ∃ (xs : List (DataW H × List MemPlace)) (m : Nat), fuel = m + 1 ∧ x = (.agg (xs.map (·.1)), xs.flatMap (·.2)) ∧ cs.length = Tryz.prog.cellsOf t ∧ xs.length = k ∧
      ∀ (i : Nat), i < k → DataW.trod enc Tryz.prog w base spare held m e ((cs.drop (i * Tryz.prog.cellsOf e)).take (Tryz.prog.cellsOf e)) = xs[i]? := by
  cases fuel with
  | zero => simp [DataW.trod] at h
  | succ m =>
    unfold DataW.trod at h
    rw [ht] at h
    split at h <;> simp_all
    obtain ⟨hl, xs, hp, hd⟩ := h
    exact ⟨xs, hd.symm, by simpa using mapM_some_length hp, fun i hi => mapM_some_get hp i i (by simp [hi])⟩
theorem int_read (h : DataW.trod enc Tryz.prog w base spare held n 3 cs = some x) : ∃ k : Int, cs = [.int .i64 k] ∧ Fit64 k := by
  obtain ⟨k, rfl, _, hw⟩ := DataW.trod_int Tryz.underlying3 h
  exact ⟨k, rfl, fit_wf hw⟩
theorem u8_wf {k : Int} (hw : (Lit.int .u8 k).wf = true) : ∃ b : UInt8, k = b.toNat := by
  have hb : 0 ≤ k ∧ k < 256 := by
    simp [Lit.wf, IntKind.min, IntKind.max, IntKind.signed, IntKind.bits] at hw
    omega
  refine ⟨UInt8.ofNat k.toNat, ?_⟩
  have : (UInt8.ofNat k.toNat).toNat = k.toNat := by
    rw [UInt8.toNat_ofNat']
    omega
  rw [this, Int.toNat_of_nonneg hb.1]
theorem bit_read (h : DataW.trod enc Tryz.prog w base spare held n 63 cs = some x) : ∃ b : UInt8, cs = [.int .u8 b.toNat] := by
  obtain ⟨k, rfl, _, hw⟩ := DataW.trod_int Tryz.underlying63 h
  obtain ⟨b, rfl⟩ := u8_wf hw
  exact ⟨b, rfl⟩
theorem byte_read (h : DataW.trod enc Tryz.prog w base spare held n 5 cs = some x) : ∃ b : UInt8, cs = [.int .u8 b.toNat] := by
  obtain ⟨k, rfl, _, hw⟩ := DataW.trod_int Tryz.underlying5 h
  obtain ⟨b, rfl⟩ := u8_wf hw
  exact ⟨b, rfl⟩
theorem c9 : Tryz.prog.cellsOf 9 = 1 := by kernel_rfl
theorem c3 : Tryz.prog.cellsOf 3 = 1 := by kernel_rfl
theorem c63 : Tryz.prog.cellsOf 63 = 1 := by kernel_rfl
theorem c22 : Tryz.prog.cellsOf 22 = 1 := by kernel_rfl
theorem c23 : Tryz.prog.cellsOf 23 = 1 := by kernel_rfl
theorem c24 : Tryz.prog.cellsOf 24 = 1 := by kernel_rfl
theorem c25 : Tryz.prog.cellsOf 25 = 1 := by kernel_rfl
theorem c41 : Tryz.prog.cellsOf 41 = 1 := by kernel_rfl
theorem c42 : Tryz.prog.cellsOf 42 = 2 := by kernel_rfl
theorem c68 : Tryz.prog.cellsOf 68 = 3 := by kernel_rfl
theorem c55 : Tryz.prog.cellsOf 55 = 2 := by kernel_rfl
theorem c53 : Tryz.prog.cellsOf 53 = 2 := by kernel_rfl
theorem c27 : Tryz.prog.cellsOf 27 = 4 := by kernel_rfl
theorem fldW {fs : Array Field} {m : Nat} {xs : List (DataW H × List MemPlace)} (hf : ∀ (i : Nat) (f : Field), fs[i]? = some f → DataW.trod enc Tryz.prog w base spare held m f.type ((cs.drop f.offset).take (Tryz.prog.cellsOf f.type)) = xs[i]?) (hx : xs.length = fs.size)
    (i : Nat) {f : Field} (hi : fs[i]? = some f) {k off : Nat} {t : TypeId} {l : List Value} (ht : f.type = t) (ho : f.offset = off) (hk : Tryz.prog.cellsOf t = k) (hl : (cs.drop off).take k = l) : ∃ y, DataW.trod enc Tryz.prog w base spare held m t l = some y ∧ xs[i]? = some y := by
  have h := hf i f hi
  subst ht; subst ho; subst hk; subst hl
  have hlt : i < xs.length := by rw [hx]; exact (Array.getElem?_eq_some_iff.1 hi).1
  rw [List.getElem?_eq_getElem hlt] at h ⊢
  exact ⟨_, h, rfl⟩
theorem elmW {e : TypeId} {k m : Nat} {xs : List (DataW H × List MemPlace)} (hf : ∀ (i : Nat), i < k → DataW.trod enc Tryz.prog w base spare held m e ((cs.drop (i * Tryz.prog.cellsOf e)).take (Tryz.prog.cellsOf e)) = xs[i]?) (hx : xs.length = k)
    (i : Nat) (hi : i < k) {c : Nat} {l : List Value} (hk : Tryz.prog.cellsOf e = c) (hl : (cs.drop (i * c)).take c = l) : ∃ y, DataW.trod enc Tryz.prog w base spare held m e l = some y ∧ xs[i]? = some y := by
  have h := hf i hi
  subst hk; subst hl
  have hlt : i < xs.length := by omega
  rw [List.getElem?_eq_getElem hlt] at h ⊢
  exact ⟨_, h, rfl⟩
theorem weigh_elem {t e : TypeId} {k : Nat} {xs : List (DataW H × List MemPlace)} (ht : Tryz.prog.underlying t = some (.array k e)) (hw : ∀ m ∈ (DataW.agg (xs.map (·.1))).weights Tryz.prog t, m ≤ reachBytes) {i : Nat} {y : DataW H × List MemPlace} (hy : xs[i]? = some y) : ∀ m ∈ y.1.weights Tryz.prog e, m ≤ reachBytes := by
  intro m hm
  refine hw m ?_
  simp only [DataW.weights, ht]
  have : y ∈ xs := List.mem_of_getElem? hy
  exact weights_all (List.mem_map_of_mem (f := fun q : DataW H × List MemPlace => q.1) this) m hm
theorem str_read (h : DataW.trod enc Tryz.prog w base spare held n 9 cs = some x) (hw : ∀ m ∈ x.1.weights Tryz.prog 9, m ≤ reachBytes) : ∃ s : ByteArray, cs = [.string s] ∧ s.size ≤ 140737488355328 := by
  obtain ⟨s, rfl, e, hs⟩ := DataW.trod_string Tryz.underlying9 h
  have := weigh_string (t := 9) (P := Tryz.prog) (d := x.1) (by rw [e]) hw
  have hk := reach_le
  exact ⟨s, rfl, by omega⟩
theorem bytes_read (h : DataW.trod enc Tryz.prog w base spare held n 41 cs = some x) (hw : ∀ m ∈ x.1.weights Tryz.prog 41, m ≤ reachBytes) : ∃ s : GSl UInt8, (∃ v, cs = [v] ∧ R (Ghost.all w) (s.av 1 bitAV) v) ∧ s.xs.length ≤ 140737488355328 := by
  obtain ⟨s, h1, _, h3⟩ := slice_readV bitAV 1 (fun _ => True) (by decide) Tryz.underlying41 (by kernel_rfl) (of_decide_eq_true (by kernel_rfl)) hw (fun n cs y hy _ => by
    obtain ⟨b, rfl⟩ := byte_read hy
    exact ⟨b, trivial, rfl, .int .u8 b.toNat, rfl, by simp only [bitAV, R]⟩) h
  have hk := reach_le
  exact ⟨s, h1, by omega⟩
theorem two_read (h : DataW.trod enc Tryz.prog w base spare held n 42 cs = some x) (hw : ∀ m ∈ x.1.weights Tryz.prog 42, m ≤ reachBytes) : ∃ a b : GSl UInt8, (a.xs.length ≤ 140737488355328 ∧ b.xs.length ≤ 140737488355328) ∧ R (Ghost.all w) (twoAV a b) (.agg cs.toArray) := by
  obtain ⟨xs, m, rfl, rfl, hl, hx, hf⟩ := array_read Tryz.underlying42 h
  rw [c42] at hl
  rcases cs with _ | ⟨a, _ | ⟨b, _ | ⟨c, l⟩⟩⟩ <;> simp at hl
  obtain ⟨y0, f0, z0⟩ := elmW hf hx 0 (by omega) c41 (l := [a]) rfl
  obtain ⟨y1, f1, z1⟩ := elmW hf hx 1 (by omega) c41 (l := [b]) rfl
  obtain ⟨q0, ⟨v0, e0, r0⟩, n0⟩ := bytes_read f0 (weigh_elem Tryz.underlying42 hw z0)
  obtain ⟨q1, ⟨v1, e1, r1⟩, n1⟩ := bytes_read f1 (weigh_elem Tryz.underlying42 hw z1)
  simp only [List.cons.injEq, and_true] at e0 e1
  subst e0; subst e1
  refine ⟨q0, q1, ⟨n0, n1⟩, ?_⟩
  simp only [twoAV, R]
  exact ⟨_, rfl, RL.cons r0 (RL.cons r1 (RL.nil _))⟩
theorem reg_read (h : DataW.trod enc Tryz.prog w base spare held n 68 cs = some x) (hw : ∀ m ∈ x.1.weights Tryz.prog 68, m ≤ reachBytes) : ∃ l : GReg, (l.name.size ≤ 140737488355328 ∧ Fit64 l.next) ∧ ∃ v : Value, v.cells.toList = cs ∧ R (Ghost.all w) (regAV l) v := by
  obtain ⟨xs, m, rfl, rfl, hl, hx, hf⟩ := DataW.trod_struct Tryz.underlying68 h
  rw [c68] at hl
  rcases cs with _ | ⟨a, _ | ⟨b, _ | ⟨c, _ | ⟨d, l⟩⟩⟩⟩ <;> simp at hl
  obtain ⟨y0, f0, z0⟩ := fldW hf hx 0 rfl rfl rfl c9 (l := [a]) rfl
  obtain ⟨y1, f1, z1⟩ := fldW hf hx 1 rfl rfl rfl c63 (l := [b]) rfl
  obtain ⟨y2, f2, z2⟩ := fldW hf hx 2 rfl rfl rfl c3 (l := [c]) rfl
  obtain ⟨s, e0, hs⟩ := str_read f0 (weigh_field Tryz.underlying68 hw (i := 0) rfl z0)
  obtain ⟨q, e1⟩ := bit_read f1
  obtain ⟨k2, e2, hk2⟩ := int_read f2
  simp only [List.cons.injEq, and_true] at e0 e1 e2
  subst e0; subst e1; subst e2
  refine ⟨⟨s, q, k2⟩, ⟨hs, hk2⟩, .agg #[.string s, .int .u8 q.toNat, .int .i64 k2], rfl, ?_⟩
  simp only [regAV, R]
  exact ⟨_, rfl, RL.cons (by simp only [R]) (RL.cons (by simp only [bitAV, R]) (RL.cons (by simp only [R]) (RL.nil _)))⟩
theorem pin_read (h : DataW.trod enc Tryz.prog w base spare held n 55 cs = some x) (hw : ∀ m ∈ x.1.weights Tryz.prog 55, m ≤ reachBytes) : ∃ l : GPin, (l.name.size ≤ 140737488355328 ∧ Fit64 l.lit) ∧ ∃ v : Value, v.cells.toList = cs ∧ R (Ghost.all w) (pinAV l) v := by
  obtain ⟨xs, m, rfl, rfl, hl, hx, hf⟩ := DataW.trod_struct Tryz.underlying55 h
  rw [c55] at hl
  rcases cs with _ | ⟨a, _ | ⟨b, _ | ⟨c, l⟩⟩⟩ <;> simp at hl
  obtain ⟨y0, f0, z0⟩ := fldW hf hx 0 rfl rfl rfl c9 (l := [a]) rfl
  obtain ⟨y1, f1, z1⟩ := fldW hf hx 1 rfl rfl rfl c3 (l := [b]) rfl
  obtain ⟨s, e0, hs⟩ := str_read f0 (weigh_field Tryz.underlying55 hw (i := 0) rfl z0)
  obtain ⟨k1, e1, hk1⟩ := int_read f1
  simp only [List.cons.injEq, and_true] at e0 e1
  subst e0; subst e1
  refine ⟨⟨s, k1⟩, ⟨hs, hk1⟩, .agg #[.string s, .int .i64 k1], rfl, ?_⟩
  simp only [pinAV, R]
  exact ⟨_, rfl, RL.cons (by simp only [R]) (RL.cons (by simp only [R]) (RL.nil _))⟩
theorem gate_read (h : DataW.trod enc Tryz.prog w base spare held n 53 cs = some x) : ∃ g : Int × Int, (Fit64 g.1 ∧ Fit64 g.2) ∧ ∃ v : Value, v.cells.toList = cs ∧ R (Ghost.all w) (gateAV g) v := by
  obtain ⟨xs, m, rfl, rfl, hl, hx, hf⟩ := array_read Tryz.underlying53 h
  rw [c53] at hl
  rcases cs with _ | ⟨a, _ | ⟨b, _ | ⟨c, l⟩⟩⟩ <;> simp at hl
  obtain ⟨y0, f0, _⟩ := elmW hf hx 0 (by omega) c3 (l := [a]) rfl
  obtain ⟨y1, f1, _⟩ := elmW hf hx 1 (by omega) c3 (l := [b]) rfl
  obtain ⟨k0, e0, hk0⟩ := int_read f0
  obtain ⟨k1, e1, hk1⟩ := int_read f1
  simp only [List.cons.injEq, and_true] at e0 e1
  subst e0; subst e1
  refine ⟨(k0, k1), ⟨hk0, hk1⟩, .agg #[.int .i64 k0, .int .i64 k1], rfl, ?_⟩
  simp only [gateAV, R]
  exact ⟨_, rfl, RL.cons (by simp only [R]) (RL.cons (by simp only [R]) (RL.nil _))⟩
theorem strs_read (h : DataW.trod enc Tryz.prog w base spare held n 22 cs = some x) (hw : ∀ m ∈ x.1.weights Tryz.prog 22, m ≤ reachBytes) : ∃ s : GSl ByteArray, (∃ v, cs = [v] ∧ R (Ghost.all w) (s.av 1 strAV) v) ∧ (∀ a ∈ s.xs, a.size ≤ 140737488355328) ∧ s.xs.length ≤ reachBytes :=
  slice_readV strAV 1 (fun a => a.size ≤ 140737488355328) (by decide) Tryz.underlying22 c9 (of_decide_eq_true (by kernel_rfl)) hw (fun n cs y hy hwy => by
    obtain ⟨s, rfl, hs⟩ := str_read hy hwy
    exact ⟨s, hs, rfl, .string s, rfl, by simp only [strAV, R]⟩) h
theorem regs_read (h : DataW.trod enc Tryz.prog w base spare held n 23 cs = some x) (hw : ∀ m ∈ x.1.weights Tryz.prog 23, m ≤ reachBytes) : ∃ s : GSl GReg, (∃ v, cs = [v] ∧ R (Ghost.all w) (s.av 3 regAV) v) ∧ (∀ a ∈ s.xs, a.name.size ≤ 140737488355328 ∧ Fit64 a.next) ∧ s.xs.length ≤ reachBytes :=
  slice_readV regAV 3 (fun a => a.name.size ≤ 140737488355328 ∧ Fit64 a.next) (by decide) Tryz.underlying23 c68 (of_decide_eq_true (by kernel_rfl)) hw (fun n cs y hy hwy => by
    obtain ⟨l, h1, h2⟩ := reg_read hy hwy
    exact ⟨l, h1, rfl, h2⟩) h
theorem gates_read (h : DataW.trod enc Tryz.prog w base spare held n 24 cs = some x) (hw : ∀ m ∈ x.1.weights Tryz.prog 24, m ≤ reachBytes) : ∃ s : GSl (Int × Int), (∃ v, cs = [v] ∧ R (Ghost.all w) (s.av 2 gateAV) v) ∧ (∀ a ∈ s.xs, Fit64 a.1 ∧ Fit64 a.2) ∧ s.xs.length ≤ reachBytes :=
  slice_readV gateAV 2 (fun a => Fit64 a.1 ∧ Fit64 a.2) (by decide) Tryz.underlying24 c53 (of_decide_eq_true (by kernel_rfl)) hw (fun n cs y hy hwy => by
    obtain ⟨l, h1, h2⟩ := gate_read hy
    exact ⟨l, h1, rfl, h2⟩) h
theorem pins_read (h : DataW.trod enc Tryz.prog w base spare held n 25 cs = some x) (hw : ∀ m ∈ x.1.weights Tryz.prog 25, m ≤ reachBytes) : ∃ s : GSl GPin, (∃ v, cs = [v] ∧ R (Ghost.all w) (s.av 2 pinAV) v) ∧ (∀ a ∈ s.xs, a.name.size ≤ 140737488355328 ∧ Fit64 a.lit) ∧ s.xs.length ≤ reachBytes :=
  slice_readV pinAV 2 (fun a => a.name.size ≤ 140737488355328 ∧ Fit64 a.lit) (by decide) Tryz.underlying25 c55 (of_decide_eq_true (by kernel_rfl)) hw (fun n cs y hy hwy => by
    obtain ⟨l, h1, h2⟩ := pin_read hy hwy
    exact ⟨l, h1, rfl, h2⟩) h
theorem net_read (h : DataW.trod enc Tryz.prog w base spare held n 27 cs = some x) (hw : ∀ m ∈ x.1.weights Tryz.prog 27, m ≤ reachBytes) : ∃ r : GNet, FitsN r ∧ R (Ghost.all w) (netAV r) (.agg cs.toArray) := by
  obtain ⟨xs, m, rfl, rfl, hl, hx, hf⟩ := DataW.trod_struct Tryz.underlying27 h
  rw [c27] at hl
  rcases cs with _ | ⟨a, _ | ⟨b, _ | ⟨c, _ | ⟨d, _ | ⟨e, l⟩⟩⟩⟩⟩ <;> simp at hl
  obtain ⟨y0, f0, z0⟩ := fldW hf hx 0 rfl rfl rfl c22 (l := [a]) rfl
  obtain ⟨y1, f1, z1⟩ := fldW hf hx 1 rfl rfl rfl c23 (l := [b]) rfl
  obtain ⟨y2, f2, z2⟩ := fldW hf hx 2 rfl rfl rfl c24 (l := [c]) rfl
  obtain ⟨y3, f3, z3⟩ := fldW hf hx 3 rfl rfl rfl c25 (l := [d]) rfl
  obtain ⟨q0, ⟨v0, e0, r0⟩, g0, n0⟩ := strs_read f0 (weigh_field Tryz.underlying27 hw (i := 0) rfl z0)
  obtain ⟨q1, ⟨v1, e1, r1⟩, g1, n1⟩ := regs_read f1 (weigh_field Tryz.underlying27 hw (i := 1) rfl z1)
  obtain ⟨q2, ⟨v2, e2, r2⟩, g2, n2⟩ := gates_read f2 (weigh_field Tryz.underlying27 hw (i := 2) rfl z2)
  obtain ⟨q3, ⟨v3, e3, r3⟩, g3, n3⟩ := pins_read f3 (weigh_field Tryz.underlying27 hw (i := 3) rfl z3)
  simp only [List.cons.injEq, and_true] at e0 e1 e2 e3
  subst e0; subst e1; subst e2; subst e3
  have hk := reach_le
  refine ⟨⟨q0, q1, q2, q3⟩, ⟨Nat.le_trans n0 hk, Nat.le_trans n1 hk, Nat.le_trans n2 hk, Nat.le_trans n3 hk, g0, fun x hx => (g1 x hx).1, fun x hx => (g3 x hx).1, g2, fun x hx => (g1 x hx).2, fun x hx => (g3 x hx).2⟩, ?_⟩
  simp only [netAV, R]
  exact ⟨_, rfl, RL.cons r0 (RL.cons r1 (RL.cons r2 (RL.cons r3 (RL.nil _))))⟩
end
end Go.OptEnv

/- The row of OptStuck. -/
namespace Go.Proofs.YthomnnnhkfjbdaaGreat.optStuck
open Go.ChangeShapes Go.WideShapes Go.ChangeAt Go.RowKit
open Go.OptEnv Go.Abs
theorem own : ownKnob Tryz.prog.godebug = none := by kernel_rfl
theorem laidOut : laidOutB Tryz.prog = true := by kernel_rfl
theorem cells_one1 {v1 v : Value} (hv : v1.cells.toList = [v]) (hk : ∀ cs, v1 ≠ .agg cs) : v1 = v := by
  cases v1 <;> simp_all [Value.cells]
set_option maxRecDepth 100000 in
theorem not_agg5 {w : World} {r : Reach} {base : Nat} {cs : Array Value} (h : Value.okWide Tryz.prog w r base 5 (.agg cs)) : False := by
  simp [Value.okWide, Tryz.underlying5, Cell.okWide, Cell.ok] at h
set_option maxRecDepth 100000 in
theorem lifted0 (os : Os) (started : os.Started) (H : Type) (enc : TypeId × Value → H) :
    ReturnsInHanded {} Tryz.checked os 11 .any (fun w args => (Rows.optStuckSpec.pre enc Tryz.prog Tryz.f11 Rows.optStuckRow.domain false w args ∧ True) ∧ sizedMet enc Tryz.prog Tryz.f11 (OpenSpec.ofChange Rows.optStuckSpec) false w args)
      (Rows.optStuckSpec.post enc Tryz.prog Tryz.f11 false true false false) := by
  refine returnsInHanded_of_change_and (C := Tryz.checked) (X := fun _ _ => True) (fun _ _ _ _ h => h) own started (by kernel_rfl) Tryz.func11
    (ChangeSpec.witness_at (enc := enc) (C := Tryz.checked) (os := os) (X := fun _ _ => True) false (World.laidAll Tryz.prog os []) #[.agg #[.slice none 0 0, .slice none 0 0, .slice none 0 0, .slice none 0 0], .agg #[.slice none 0 0, .slice none 0 0], .int .u8 0] 8 (World.laidAll_os _ _ _)
      (by kernel_rfl) (by kernel_rfl) (by kernel_rfl) (by kernel_rfl) (by kernel_rfl) trivial) ?_
  intro W base args ds gs before hval0 hW hcnd hsz0 _ _
  have hval : ∀ (j : Nat) t v, Tryz.f11.params[j]? = some t → args[j]? = some v → Value.okWide Tryz.prog W .any base t v := hval0
  have hW' := hW
  obtain ⟨p, q, hA0, hV, rfl, hfz, hnd⟩ := hW
  have hA : DataW.TrodAll enc Tryz.prog W 0 (fun _ => true) true Tryz.f11.params.toList args.toList ds p := hA0
  rw [Tryz.params11] at hA hval
  obtain ⟨v0, vs0, d0, ds0, p0, q0, hargs, rfl, rfl, h0, r0⟩ := trodAll_cons hA
  obtain ⟨v1, vs1, d1, ds1, p1, q1, hargs1, rfl, rfl, h1, r1⟩ := trodAll_cons r0
  obtain ⟨v2, vs2, d2, ds2, p2, q2, hargs2, rfl, rfl, h2, r2⟩ := trodAll_cons r1
  obtain ⟨rfl, rfl, rfl⟩ := trodAll_nil r2
  subst hargs2
  subst hargs1
  obtain rfl : args = #[v0, v1, v2] := by cases args; simp_all
  obtain ⟨rfl, rfl⟩ := trodVars_none hV
  have hv0 := hval 0 27 v0 rfl rfl
  have hv1 := hval 1 42 v1 rfl rfl
  have lt0 : ∀ x ∈ p0, x.block < W.heap.size := by obtain ⟨m, hm⟩ := h0; exact DataW.trod_lt m _ _ _ hm
  have lt1 : ∀ x ∈ p1, x.block < W.heap.size := by obtain ⟨m, hm⟩ := h1; exact DataW.trod_lt m _ _ _ hm
  have lt2 : ∀ x ∈ p2, x.block < W.heap.size := by obtain ⟨m, hm⟩ := h2; exact DataW.trod_lt m _ _ _ hm
  obtain ⟨cs, rfl⟩ : ∃ cs, v0 = .agg cs := by
    unfold Value.okWide at hv0
    rw [Tryz.underlying27] at hv0
    obtain ⟨cs, rfl, _⟩ := hv0
    exact ⟨cs, rfl⟩
  obtain ⟨cs1, rfl⟩ : ∃ cs, v1 = .agg cs := by
    unfold Value.okWide at hv1
    rw [Tryz.underlying42] at hv1
    obtain ⟨cs, rfl, _⟩ := hv1
    exact ⟨cs, rfl⟩
  have k0 := h0
  have k1 := h1
  have k2 := h2
  obtain ⟨r, hr, hR⟩ : ∃ r : GNet, FitsN r ∧ R (Ghost.all W) (netAV r) (.agg cs) := by
    obtain ⟨fuel, hf⟩ := h0
    obtain ⟨r, hr, hR⟩ := net_read hf (weigh_arg hsz0 (j := 0) rfl rfl)
    exact ⟨r, hr, by simpa [Value.cells] using hR⟩
  obtain ⟨l0, l1, hl, hRl⟩ : ∃ a b : GSl UInt8, (a.xs.length ≤ 140737488355328 ∧ b.xs.length ≤ 140737488355328) ∧ R (Ghost.all W) (twoAV a b) (.agg cs1) := by
    obtain ⟨fuel, hf⟩ := h1
    obtain ⟨a, b, hr, hR⟩ := two_read hf (weigh_arg hsz0 (j := 1) rfl rfl)
    exact ⟨a, b, hr, by simpa [Value.cells] using hR⟩
  obtain ⟨many, hRm⟩ : ∃ b : UInt8, R (Ghost.all W) (.int .u8 (b.toNat : Int)) v2 := by
    obtain ⟨fuel, hf⟩ := h2
    obtain ⟨b, hb⟩ := byte_read hf
    have e := cells_one1 hb (fun cs hc => by subst hc; exact not_agg5 (hval 2 5 _ rfl rfl))
    subst e
    exact ⟨b, by simp only [R]⟩
  clear hA0 hval0 hsz0
  refine (stuck_calls W r hr l0 l1 hl.1 hl.2 many _ _ _ hR hRl hRm).mono fun e W' ⟨he, bel⟩ => ?_
  subst he
  exact ⟨_, rfl, _, _, _, [], _, [], hW', trodAll_mk1 (shut_bool Tryz.underlying4 _), (trodAll_cons_mk (Below.trod laidOut (by kernel_rfl) (of_decide_eq_true (by kernel_rfl)) k0 bel lt0) (trodAll_cons_mk (Below.trod laidOut (by kernel_rfl) (of_decide_eq_true (by kernel_rfl)) k1 bel lt1) (trodAll_cons_mk (Below.trod laidOut (by kernel_rfl) (of_decide_eq_true (by kernel_rfl)) k2 bel lt2) trodAll_mk0))), rfl, bel.frame _, fun h => by cases h⟩
theorem lifted (os : Os) (started : os.Started) (H : Type) (enc : TypeId × Value → H) :
    ReturnsInHanded {} Tryz.checked os 11 .any (fun w args => Rows.optStuckSpec.pre enc Tryz.prog Tryz.f11 Rows.optStuckRow.domain false w args ∧ sizedMet enc Tryz.prog Tryz.f11 (OpenSpec.ofChange Rows.optStuckSpec) false w args)
      (Rows.optStuckSpec.post enc Tryz.prog Tryz.f11 false true false false) := by
  have h := lifted0 os started H enc
  simp only [and_true] at h
  exact h
theorem over : Rows.optStuckRow.holds Tryz.pinned (OpenSpec.ofChange Rows.optStuckSpec) :=
  OpenClaim.holds_of_wide 11 Tryz.f11 rfl rfl rfl rfl rfl rfl rfl ⟨rfl, rfl, rfl, rfl, rfl⟩ rfl rfl rfl rfl rfl (by kernel_rfl) Tryz.func11 (by kernel_rfl)
    (of_decide_eq_true (by kernel_rfl)) (by unfold Func.isWrapper; first | (rw [if_pos (by decide +kernel)]; kernel_rfl) | (rw [if_neg (by decide +kernel)]; exact ⟨rfl, rfl⟩))
    (fun os started H enc _ => lifted os started H enc)
theorem proved : Rows.OptStuckSaid := over
end Go.Proofs.YthomnnnhkfjbdaaGreat.optStuck
namespace Go.Proofs.YthomnnnhkfjbdaaGreat
theorem optStuck_holds : Rows.OptStuckSaid := optStuck.proved
end Go.Proofs.YthomnnnhkfjbdaaGreat
