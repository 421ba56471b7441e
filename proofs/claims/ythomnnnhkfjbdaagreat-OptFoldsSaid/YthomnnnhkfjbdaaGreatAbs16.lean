/- Own text of this claim: part 16 of an interpreter that is proved sound against the model, and of what it shows of the law. -/
import Derived.Test.YthomnnnhkfjbdaaGreatRows
import Derived.WalkKit
import Derived.ProofKit
import Derived.OpenShut
import Derived.ShutString
import Derived.ChangeOld
import Derived.Below
import Derived.SizedLaws
import Derived.Carry
import Derived.Handed
import Derived.Lay
import Derived.MakeChecks
import Derived.Test.YthomnnnhkfjbdaaGreatAbs15
import Derived.Test.YthomnnnhkfjbdaaGreatAbs10
import Derived.Test.YthomnnnhkfjbdaaGreatAbs8
/- The law OptFolds, at the model. -/
namespace Go.OptEnv
open Go Go.Proofs Go.Abs Go.RowKit Go.NetM
set_option maxRecDepth 10000
theorem con16 : Con2 (En ap4) 16 Rel16 := ⟨by rintro a x ⟨rfl, rfl⟩; rfl, by
  rintro a x ⟨rfl, rfl⟩
  obtain ⟨st, h⟩ := isT_spec awake_run
  exact ⟨10000, .bool true, st, h, .bool true, st, rfl, rfl, rfl⟩⟩
noncomputable def cp0 : Prims := addP ap0 16 (primOf Rel16)
theorem cg0 : Good cp0 := good0.addT fun B w0 => con16.does (En_ok ap4) good4.ok (hent Tryz.func16) B w0
theorem cc70 : Con2 (En cp0) 70 Rel70 := con70 rfl
noncomputable def cp1 : Prims := addP cp0 70 (primOf Rel70)
theorem cg1 : Good cp1 := cg0.add cc70 (hent Tryz.func70)
theorem cc72 : Con2 (En cp1) 72 Rel72 := con72 rfl
noncomputable def cp2 : Prims := addP cp1 72 (primOf Rel72)
theorem cg2 : Good cp2 := cg1.add cc72 (hent Tryz.func72)
theorem cc73 : Con2 (En cp2) 73 Rel73 := con73 rfl
noncomputable def cp3 : Prims := addP cp2 73 (primOf Rel73)
theorem cg3 : Good cp3 := cg2.add cc73 (hent Tryz.func73)
theorem cc103 : Con2 (En cp3) 103 Rel103 := con103 rfl
noncomputable def cp4 : Prims := addP cp3 103 (primOf Rel103)
theorem cg4 : Good cp4 := cg3.add cc103 (hent Tryz.func103)
theorem cc105 : Con2 (En cp4) 105 Rel105 := con105 rfl
noncomputable def cp5 : Prims := addP cp4 105 (primOf Rel105)
theorem cg5 : Good cp5 := cg4.add cc105 (hent Tryz.func105)
theorem cc107 : Con2 (En cp5) 107 Rel107 := con107 rfl
noncomputable def cp6 : Prims := addP cp5 107 (primOf Rel107)
theorem cg6 : Good cp6 := cg5.add cc107 (hent Tryz.func107)
theorem cc114 : Con2 (En cp6) 114 Rel114 := con114 rfl
noncomputable def cp7 : Prims := addP cp6 114 (primOf Rel114)
theorem cg7 : Good cp7 := cg6.add cc114 (hent Tryz.func114)
theorem cc128 : Con2 (En cp7) 128 Rel128 := con128 rfl
noncomputable def cp8 : Prims := addP cp7 128 (primOf Rel128)
theorem cg8 : Good cp8 := cg7.add cc128 (hent Tryz.func128)
theorem cc102 : Con2 (En cp8) 102 Rel102 := con102 rfl (Has.of cc103 rfl) (Has.of cc128 rfl)
noncomputable def cp9 : Prims := addP cp8 102 (primOf Rel102)
theorem cg9 : Good cp9 := cg8.add cc102 (hent Tryz.func102)
theorem cc104 : Con2 (En cp9) 104 Rel104 := con104 rfl (Has.of cc105 rfl) (Has.of cc128 rfl)
noncomputable def cp10 : Prims := addP cp9 104 (primOf Rel104)
theorem cg10 : Good cp10 := cg9.add cc104 (hent Tryz.func104)
theorem cc106 : Con2 (En cp10) 106 Rel106 := con106 rfl (Has.of cc107 rfl) (Has.of cc128 rfl)
noncomputable def cp11 : Prims := addP cp10 106 (primOf Rel106)
theorem cg11 : Good cp11 := cg10.add cc106 (hent Tryz.func106)
theorem cc71 : Con2 (En cp11) 71 Rel71 := con71 rfl (Has.of cc114 rfl)
noncomputable def cp12 : Prims := addP cp11 71 (primOf Rel71)
theorem cg12 : Good cp12 := cg11.add cc71 (hent Tryz.func71)
theorem cc31 : Con2 (En cp12) 31 Rel31 := con31 rfl (Has.of cc70 rfl) (Has.of cc71 rfl) (Has.of cc72 rfl) (Has.of cc73 rfl)
noncomputable def cp13 : Prims := addP cp12 31 (primOf Rel31)
theorem cg13 : Good cp13 := cg12.add cc31 (hent Tryz.func31)
theorem cc57 : Con2 (En cp13) 57 Rel57 := con57 rfl (Has.of cc102 rfl) (Has.of cc104 rfl) (Has.of cc106 rfl)
noncomputable def cp14 : Prims := addP cp13 57 (primOf Rel57)
theorem cg14 : Good cp14 := cg13.add cc57 (hent Tryz.func57)
theorem cc112 : Con2 (En cp14) 112 Rel112 := con112 rfl
noncomputable def cp15 : Prims := addP cp14 112 (primOf Rel112)
theorem cg15 : Good cp15 := cg14.add cc112 (hent Tryz.func112)
theorem cc138 : Con2 (En cp15) 138 Rel138 := con138 rfl
noncomputable def cp16 : Prims := addP cp15 138 (primOf Rel138)
theorem cg16 : Good cp16 := cg15.add cc138 (hent Tryz.func138)
theorem cc127 : Con2 (En cp16) 127 Rel127 := con127 rfl
noncomputable def cp17 : Prims := addP cp16 127 (primOf Rel127)
theorem cg17 : Good cp17 := cg16.add cc127 (hent Tryz.func127)
theorem cc99 : Con2 (En cp17) 99 Rel99 := con99 rfl (Has.of cc127 rfl)
noncomputable def cp18 : Prims := addP cp17 99 (primOf Rel99)
theorem cg18 : Good cp18 := cg17.add cc99 (hent Tryz.func99)
theorem cc97 : Con2 (En cp18) 97 Rel97 := con97 rfl
noncomputable def cp19 : Prims := addP cp18 97 (primOf Rel97)
theorem cg19 : Good cp19 := cg18.add cc97 (hent Tryz.func97)
theorem cc50 : Con2 (En cp19) 50 Rel50 := con50 rfl rfl rfl rfl rfl rfl rfl rfl rfl rfl (Has.of cc112 rfl) rfl (Has.of cc138 rfl) rfl (Has.of cc57 rfl)
noncomputable def cp20 : Prims := addP cp19 50 (primOf Rel50)
theorem cg20 : Good cp20 := cg19.add cc50 (hent Tryz.func50)
theorem cc51 : Con2 (En cp20) 51 Rel51 := con51 rfl (Has.of cc97 rfl) rfl rfl rfl rfl rfl rfl rfl rfl (Has.of cc112 rfl) rfl (Has.of cc138 rfl) rfl (Has.of cc57 rfl)
noncomputable def cp21 : Prims := addP cp20 51 (primOf Rel51)
theorem cg21 : Good cp21 := cg20.add cc51 (hent Tryz.func51)
theorem cc17 : Con2 (En cp21) 17 Rel17 := con17 rfl (Has.of cc50 rfl) (Has.of cc51 rfl)
noncomputable def cp22 : Prims := addP cp21 17 (primOf Rel17)
theorem cg22 : Good cp22 := cg21.add cc17 (hent Tryz.func17)
theorem cc100 : Con2 (En cp22) 100 Rel100 := con100 rfl (Has.of cc73 rfl)
noncomputable def cp23 : Prims := addP cp22 100 (primOf Rel100)
theorem cg23 : Good cp23 := cg22.add cc100 (hent Tryz.func100)
theorem cc52 : Con2 (En cp23) 52 Rel52 := con52 rfl (Has.of cc31 rfl) rfl (Has.of cc99 rfl) rfl rfl (Has.of cc72 rfl) (Has.of cc73 rfl)
noncomputable def cp24 : Prims := addP cp23 52 (primOf Rel52)
theorem cg24 : Good cp24 := cg23.add cc52 (hent Tryz.func52)
theorem cc53 : Con2 (En cp24) 53 Rel53 := con53 rfl (Has.of cc31 rfl) rfl (Has.of cc99 rfl) (Has.of cc100 rfl) (Has.of cc73 rfl)
noncomputable def cp25 : Prims := addP cp24 53 (primOf Rel53)
theorem cg25 : Good cp25 := cg24.add cc53 (hent Tryz.func53)
theorem cc18 : Con2 (En cp25) 18 Rel18 := con18 rfl (Has.of cc52 rfl) (Has.of cc53 rfl)
noncomputable def cp26 : Prims := addP cp25 18 (primF (primOf Rel18))
theorem cg26 : Good cp26 := cg25.addF cc18 (hent Tryz.func18)
theorem cc19 : Con2 (En cp26) 19 Rel19 := con19 rfl (Has.of cc17 rfl) rfl rfl
noncomputable def cp27 : Prims := addP cp26 19 (primOf Rel19)
theorem cg27 : Good cp27 := cg26.add cc19 (hent Tryz.func19)
theorem cc21 : Con2 (En cp27) 21 Rel21 := con21 rfl
noncomputable def cp28 : Prims := addP cp27 21 (primOf Rel21)
theorem cg28 : Good cp28 := cg27.add cc21 (hent Tryz.func21)
theorem cc56 : Con2 (En cp28) 56 Rel56 := con56 rfl
noncomputable def cp29 : Prims := addP cp28 56 (primOf Rel56)
theorem cg29 : Good cp29 := cg28.add cc56 (hent Tryz.func56)
theorem cc55 : Con2 (En cp29) 55 Rel55 := con55 rfl (Has.of cc99 rfl) (HasF.of cc18 rfl)
noncomputable def cp30 : Prims := addP cp29 55 (primOf Rel55)
theorem cg30 : Good cp30 := cg29.add cc55 (hent Tryz.func55)
theorem cc20 : Con2 (En cp30) 20 Rel20 := con20 rfl (HasF.of cc18 rfl) (Has.of cc56 rfl) (Has.of cc55 rfl)
noncomputable def cp31 : Prims := addP cp30 20 (primOf Rel20)
theorem cg31 : Good cp31 := cg30.add cc20 (hent Tryz.func20)
theorem cc15 : Con2 (En cp31) 15 Rel15 := con15 rfl
noncomputable def cp32 : Prims := addP cp31 15 (primOf Rel15)
theorem cg32 : Good cp32 := cg31.add cc15 (hent Tryz.func15)
theorem folds_calls (w : World) (n : GNet) (hn : FitsN n) (v0 : Value) (h0 : R (Ghost.all w) (netAV n) v0) :
    Calls Tryz.prog 3 #[v0] w fun e w' => e = .returned (.bool true) ∧ Below w.heap.size w w' := by
  obtain ⟨n', x, st', h, hx⟩ := run3 (pr := cp32) rfl (Has.of cc15 rfl) (Has.of con16 rfl) (Has.of cc17 rfl) (HasF.of cc18 rfl) (Has.of cc19 rfl) (Has.of cc20 rfl) (Has.of cc21 rfl) n hn St.empty
  refine ((callF_sound (En_ok cp32) (cg32.ok w.heap.size w) n' 3 _ St.empty x st' h).2 (Ghost.all w) w #[v0] (Inv.all w) (RL.cons h0 (RL.nil _))).mono ?_
  rintro e w' ⟨u, Γ, rfl, out, hu⟩
  subst hx
  simp only [R] at hu
  subst hu
  exact ⟨rfl, out.inv.below⟩
end Go.OptEnv

/- A net, two rows of bits and a byte, read. -/
namespace Go.OptEnv
open Go Go.Proofs Go.Abs Go.RowKit
set_option maxRecDepth 10000
theorem reach_le : reachBytes ≤ 140737488355328 := by decide
theorem fit_wf {k : Int} (h : (Lit.int .i64 k).wf = true) : Fit64 k := by
  simp [Lit.wf, IntKind.min, IntKind.max, IntKind.signed, IntKind.bits] at h
  exact ⟨by omega, by omega⟩
section
variable {H : Type} {enc : TypeId × Value → H} {w : World} {base : Nat} {spare : Nat → Bool} {held : Bool} {fuel n : Nat} {cs : List Value} {x : DataW H × List MemPlace}
theorem array_read {t e : TypeId} {k : Nat} (ht : Tryz.prog.underlying t = some (.array k e)) (h : DataW.trod enc Tryz.prog w base spare held fuel t cs = some x) :
    ∃ (xs : List (DataW H × List MemPlace)) (m : Nat), fuel = m + 1 ∧ x = (.agg (xs.map (·.1)), xs.flatMap (·.2)) ∧ cs.length = Tryz.prog.cellsOf t ∧ xs.length = k ∧
      ∀ (i : Nat), i < k → DataW.trod enc Tryz.prog w base spare held m e ((cs.drop (i * Tryz.prog.cellsOf e)).take (Tryz.prog.cellsOf e)) = xs[i]? := by
  cases fuel with
  | zero => simp [DataW.trod] at h
  | succ m =>
    unfold DataW.trod at h
    rw [ht] at h
    split at h <;> simp_all
    obtain ⟨hl, xs, hp, hd⟩ := h
    exact ⟨xs, hd.symm, by simpa using mapM_some_length hp, fun i hi => mapM_some_get hp i i (by simp [hi])⟩
theorem int_read (h : DataW.trod enc Tryz.prog w base spare held n 3 cs = some x) : ∃ k : Int, cs = [.int .i64 k] ∧ Fit64 k := by
  obtain ⟨k, rfl, _, hw⟩ := DataW.trod_int Tryz.underlying3 h
  exact ⟨k, rfl, fit_wf hw⟩
theorem u8_wf {k : Int} (hw : (Lit.int .u8 k).wf = true) : ∃ b : UInt8, k = b.toNat := by
  have hb : 0 ≤ k ∧ k < 256 := by
    simp [Lit.wf, IntKind.min, IntKind.max, IntKind.signed, IntKind.bits] at hw
    omega
  refine ⟨UInt8.ofNat k.toNat, ?_⟩
  have : (UInt8.ofNat k.toNat).toNat = k.toNat := by
    rw [UInt8.toNat_ofNat']
    omega
  rw [this, Int.toNat_of_nonneg hb.1]
theorem bit_read (h : DataW.trod enc Tryz.prog w base spare held n 63 cs = some x) : ∃ b : UInt8, cs = [.int .u8 b.toNat] := by
  obtain ⟨k, rfl, _, hw⟩ := DataW.trod_int Tryz.underlying63 h
  obtain ⟨b, rfl⟩ := u8_wf hw
  exact ⟨b, rfl⟩
theorem c9 : Tryz.prog.cellsOf 9 = 1 := by kernel_rfl
theorem c3 : Tryz.prog.cellsOf 3 = 1 := by kernel_rfl
theorem c63 : Tryz.prog.cellsOf 63 = 1 := by kernel_rfl
theorem c22 : Tryz.prog.cellsOf 22 = 1 := by kernel_rfl
theorem c23 : Tryz.prog.cellsOf 23 = 1 := by kernel_rfl
theorem c24 : Tryz.prog.cellsOf 24 = 1 := by kernel_rfl
theorem c25 : Tryz.prog.cellsOf 25 = 1 := by kernel_rfl
theorem c68 : Tryz.prog.cellsOf 68 = 3 := by kernel_rfl
theorem c55 : Tryz.prog.cellsOf 55 = 2 := by kernel_rfl
theorem c53 : Tryz.prog.cellsOf 53 = 2 := by kernel_rfl
theorem c27 : Tryz.prog.cellsOf 27 = 4 := by kernel_rfl
theorem fldW {fs : Array Field} {m : Nat} {xs : List (DataW H × List MemPlace)} (hf : ∀ (i : Nat) (f : Field), fs[i]? = some f → DataW.trod enc Tryz.prog w base spare held m f.type ((cs.drop f.offset).take (Tryz.prog.cellsOf f.type)) = xs[i]?) (hx : xs.length = fs.size)
    (i : Nat) {f : Field} (hi : fs[i]? = some f) {k off : Nat} {t : TypeId} {l : List Value} (ht : f.type = t) (ho : f.offset = off) (hk : Tryz.prog.cellsOf t = k) (hl : (cs.drop off).take k = l) : ∃ y, DataW.trod enc Tryz.prog w base spare held m t l = some y ∧ xs[i]? = some y := by
  have h := hf i f hi
  subst ht; subst ho; subst hk; subst hl
  have hlt : i < xs.length := by rw [hx]; exact (Array.getElem?_eq_some_iff.1 hi).1
  rw [List.getElem?_eq_getElem hlt] at h ⊢
  exact ⟨_, h, rfl⟩
theorem elmW {e : TypeId} {k m : Nat} {xs : List (DataW H × List MemPlace)} (hf : ∀ (i : Nat), i < k → DataW.trod enc Tryz.prog w base spare held m e ((cs.drop (i * Tryz.prog.cellsOf e)).take (Tryz.prog.cellsOf e)) = xs[i]?) (hx : xs.length = k)
    (i : Nat) (hi : i < k) {c : Nat} {l : List Value} (hk : Tryz.prog.cellsOf e = c) (hl : (cs.drop (i * c)).take c = l) : ∃ y, DataW.trod enc Tryz.prog w base spare held m e l = some y ∧ xs[i]? = some y := by
  have h := hf i hi
  subst hk; subst hl
  have hlt : i < xs.length := by omega
  rw [List.getElem?_eq_getElem hlt] at h ⊢
  exact ⟨_, h, rfl⟩
theorem str_read (h : DataW.trod enc Tryz.prog w base spare held n 9 cs = some x) (hw : ∀ m ∈ x.1.weights Tryz.prog 9, m ≤ reachBytes) : ∃ s : ByteArray, cs = [.string s] ∧ s.size ≤ 140737488355328 := by
  obtain ⟨s, rfl, e, hs⟩ := DataW.trod_string Tryz.underlying9 h
  have := weigh_string (t := 9) (P := Tryz.prog) (d := x.1) (by rw [e]) hw
  have hk := reach_le
  exact ⟨s, rfl, by omega⟩
theorem reg_read (h : DataW.trod enc Tryz.prog w base spare held n 68 cs = some x) (hw : ∀ m ∈ x.1.weights Tryz.prog 68, m ≤ reachBytes) : ∃ l : GReg, (l.name.size ≤ 140737488355328 ∧ Fit64 l.next) ∧ ∃ v : Value, v.cells.toList = cs ∧ R (Ghost.all w) (regAV l) v := by
  obtain ⟨xs, m, rfl, rfl, hl, hx, hf⟩ := DataW.trod_struct Tryz.underlying68 h
  rw [c68] at hl
  rcases cs with _ | ⟨a, _ | ⟨b, _ | ⟨c, _ | ⟨d, l⟩⟩⟩⟩ <;> simp at hl
  obtain ⟨y0, f0, z0⟩ := fldW hf hx 0 rfl rfl rfl c9 (l := [a]) rfl
  obtain ⟨y1, f1, z1⟩ := fldW hf hx 1 rfl rfl rfl c63 (l := [b]) rfl
  obtain ⟨y2, f2, z2⟩ := fldW hf hx 2 rfl rfl rfl c3 (l := [c]) rfl
  obtain ⟨s, e0, hs⟩ := str_read f0 (weigh_field Tryz.underlying68 hw (i := 0) rfl z0)
  obtain ⟨q, e1⟩ := bit_read f1
  obtain ⟨k2, e2, hk2⟩ := int_read f2
  simp only [List.cons.injEq, and_true] at e0 e1 e2
  subst e0; subst e1; subst e2
  refine ⟨⟨s, q, k2⟩, ⟨hs, hk2⟩, .agg #[.string s, .int .u8 q.toNat, .int .i64 k2], rfl, ?_⟩
  simp only [regAV, R]
  exact ⟨_, rfl, RL.cons (by simp only [R]) (RL.cons (by simp only [bitAV, R]) (RL.cons (by simp only [R]) (RL.nil _)))⟩
theorem pin_read (h : DataW.trod enc Tryz.prog w base spare held n 55 cs = some x) (hw : ∀ m ∈ x.1.weights Tryz.prog 55, m ≤ reachBytes) : ∃ l : GPin, (l.name.size ≤ 140737488355328 ∧ Fit64 l.lit) ∧ ∃ v : Value, v.cells.toList = cs ∧ R (Ghost.all w) (pinAV l) v := by
  obtain ⟨xs, m, rfl, rfl, hl, hx, hf⟩ := DataW.trod_struct Tryz.underlying55 h
  rw [c55] at hl
  rcases cs with _ | ⟨a, _ | ⟨b, _ | ⟨c, l⟩⟩⟩ <;> simp at hl
  obtain ⟨y0, f0, z0⟩ := fldW hf hx 0 rfl rfl rfl c9 (l := [a]) rfl
  obtain ⟨y1, f1, z1⟩ := fldW hf hx 1 rfl rfl rfl c3 (l := [b]) rfl
  obtain ⟨s, e0, hs⟩ := str_read f0 (weigh_field Tryz.underlying55 hw (i := 0) rfl z0)
  obtain ⟨k1, e1, hk1⟩ := int_read f1
  simp only [List.cons.injEq, and_true] at e0 e1
  subst e0; subst e1
  refine ⟨⟨s, k1⟩, ⟨hs, hk1⟩, .agg #[.string s, .int .i64 k1], rfl, ?_⟩
  simp only [pinAV, R]
  exact ⟨_, rfl, RL.cons (by simp only [R]) (RL.cons (by simp only [R]) (RL.nil _))⟩
theorem gate_read (h : DataW.trod enc Tryz.prog w base spare held n 53 cs = some x) : ∃ g : Int × Int, (Fit64 g.1 ∧ Fit64 g.2) ∧ ∃ v : Value, v.cells.toList = cs ∧ R (Ghost.all w) (gateAV g) v := by
  obtain ⟨xs, m, rfl, rfl, hl, hx, hf⟩ := array_read Tryz.underlying53 h
  rw [c53] at hl
  rcases cs with _ | ⟨a, _ | ⟨b, _ | ⟨c, l⟩⟩⟩ <;> simp at hl
  obtain ⟨y0, f0, _⟩ := elmW hf hx 0 (by omega) c3 (l := [a]) rfl
  obtain ⟨y1, f1, _⟩ := elmW hf hx 1 (by omega) c3 (l := [b]) rfl
  obtain ⟨k0, e0, hk0⟩ := int_read f0
  obtain ⟨k1, e1, hk1⟩ := int_read f1
  simp only [List.cons.injEq, and_true] at e0 e1
  subst e0; subst e1
  refine ⟨(k0, k1), ⟨hk0, hk1⟩, .agg #[.int .i64 k0, .int .i64 k1], rfl, ?_⟩
  simp only [gateAV, R]
  exact ⟨_, rfl, RL.cons (by simp only [R]) (RL.cons (by simp only [R]) (RL.nil _))⟩
theorem strs_read (h : DataW.trod enc Tryz.prog w base spare held n 22 cs = some x) (hw : ∀ m ∈ x.1.weights Tryz.prog 22, m ≤ reachBytes) : ∃ s : GSl ByteArray, (∃ v, cs = [v] ∧ R (Ghost.all w) (s.av 1 strAV) v) ∧ (∀ a ∈ s.xs, a.size ≤ 140737488355328) ∧ s.xs.length ≤ reachBytes :=
  slice_readV strAV 1 (fun a => a.size ≤ 140737488355328) (by decide) Tryz.underlying22 c9 (of_decide_eq_true (by kernel_rfl)) hw (fun n cs y hy hwy => by
    obtain ⟨s, rfl, hs⟩ := str_read hy hwy
    exact ⟨s, hs, rfl, .string s, rfl, by simp only [strAV, R]⟩) h
theorem regs_read (h : DataW.trod enc Tryz.prog w base spare held n 23 cs = some x) (hw : ∀ m ∈ x.1.weights Tryz.prog 23, m ≤ reachBytes) : ∃ s : GSl GReg, (∃ v, cs = [v] ∧ R (Ghost.all w) (s.av 3 regAV) v) ∧ (∀ a ∈ s.xs, a.name.size ≤ 140737488355328 ∧ Fit64 a.next) ∧ s.xs.length ≤ reachBytes :=
  slice_readV regAV 3 (fun a => a.name.size ≤ 140737488355328 ∧ Fit64 a.next) (by decide) Tryz.underlying23 c68 (of_decide_eq_true (by kernel_rfl)) hw (fun n cs y hy hwy => by
    obtain ⟨l, h1, h2⟩ := reg_read hy hwy
    exact ⟨l, h1, rfl, h2⟩) h
theorem gates_read (h : DataW.trod enc Tryz.prog w base spare held n 24 cs = some x) (hw : ∀ m ∈ x.1.weights Tryz.prog 24, m ≤ reachBytes) : ∃ s : GSl (Int × Int), (∃ v, cs = [v] ∧ R (Ghost.all w) (s.av 2 gateAV) v) ∧ (∀ a ∈ s.xs, Fit64 a.1 ∧ Fit64 a.2) ∧ s.xs.length ≤ reachBytes :=
  slice_readV gateAV 2 (fun a => Fit64 a.1 ∧ Fit64 a.2) (by decide) Tryz.underlying24 c53 (of_decide_eq_true (by kernel_rfl)) hw (fun n cs y hy hwy => by
    obtain ⟨l, h1, h2⟩ := gate_read hy
    exact ⟨l, h1, rfl, h2⟩) h
theorem pins_read (h : DataW.trod enc Tryz.prog w base spare held n 25 cs = some x) (hw : ∀ m ∈ x.1.weights Tryz.prog 25, m ≤ reachBytes) : ∃ s : GSl GPin, (∃ v, cs = [v] ∧ R (Ghost.all w) (s.av 2 pinAV) v) ∧ (∀ a ∈ s.xs, a.name.size ≤ 140737488355328 ∧ Fit64 a.lit) ∧ s.xs.length ≤ reachBytes :=
  slice_readV pinAV 2 (fun a => a.name.size ≤ 140737488355328 ∧ Fit64 a.lit) (by decide) Tryz.underlying25 c55 (of_decide_eq_true (by kernel_rfl)) hw (fun n cs y hy hwy => by
    obtain ⟨l, h1, h2⟩ := pin_read hy hwy
    exact ⟨l, h1, rfl, h2⟩) h
theorem net_read (h : DataW.trod enc Tryz.prog w base spare held n 27 cs = some x) (hw : ∀ m ∈ x.1.weights Tryz.prog 27, m ≤ reachBytes) : ∃ r : GNet, FitsN r ∧ R (Ghost.all w) (netAV r) (.agg cs.toArray) := by
  obtain ⟨xs, m, rfl, rfl, hl, hx, hf⟩ := DataW.trod_struct Tryz.underlying27 h
  rw [c27] at hl
  rcases cs with _ | ⟨a, _ | ⟨b, _ | ⟨c, _ | ⟨d, _ | ⟨e, l⟩⟩⟩⟩⟩ <;> simp at hl
  obtain ⟨y0, f0, z0⟩ := fldW hf hx 0 rfl rfl rfl c22 (l := [a]) rfl
  obtain ⟨y1, f1, z1⟩ := fldW hf hx 1 rfl rfl rfl c23 (l := [b]) rfl
  obtain ⟨y2, f2, z2⟩ := fldW hf hx 2 rfl rfl rfl c24 (l := [c]) rfl
  obtain ⟨y3, f3, z3⟩ := fldW hf hx 3 rfl rfl rfl c25 (l := [d]) rfl
  obtain ⟨q0, ⟨v0, e0, r0⟩, g0, n0⟩ := strs_read f0 (weigh_field Tryz.underlying27 hw (i := 0) rfl z0)
  obtain ⟨q1, ⟨v1, e1, r1⟩, g1, n1⟩ := regs_read f1 (weigh_field Tryz.underlying27 hw (i := 1) rfl z1)
  obtain ⟨q2, ⟨v2, e2, r2⟩, g2, n2⟩ := gates_read f2 (weigh_field Tryz.underlying27 hw (i := 2) rfl z2)
  obtain ⟨q3, ⟨v3, e3, r3⟩, g3, n3⟩ := pins_read f3 (weigh_field Tryz.underlying27 hw (i := 3) rfl z3)
  simp only [List.cons.injEq, and_true] at e0 e1 e2 e3
  subst e0; subst e1; subst e2; subst e3
  have hk := reach_le
  refine ⟨⟨q0, q1, q2, q3⟩, ⟨Nat.le_trans n0 hk, Nat.le_trans n1 hk, Nat.le_trans n2 hk, Nat.le_trans n3 hk, g0, fun x hx => (g1 x hx).1, fun x hx => (g3 x hx).1, g2, fun x hx => (g1 x hx).2, fun x hx => (g3 x hx).2⟩, ?_⟩
  simp only [netAV, R]
  exact ⟨_, rfl, RL.cons r0 (RL.cons r1 (RL.cons r2 (RL.cons r3 (RL.nil _))))⟩
end
end Go.OptEnv

/- The row of OptFolds. -/
namespace Go.Proofs.YthomnnnhkfjbdaaGreat.optFolds
open Go.ChangeShapes Go.WideShapes Go.ChangeAt Go.RowKit
open Go.OptEnv Go.Abs
theorem own : ownKnob Tryz.prog.godebug = none := by kernel_rfl
theorem laidOut : laidOutB Tryz.prog = true := by kernel_rfl
set_option maxRecDepth 100000 in
theorem lifted0 (os : Os) (started : os.Started) (H : Type) (enc : TypeId × Value → H) :
    ReturnsInHanded {} Tryz.checked os 3 .any (fun w args => (Rows.optFoldsSpec.pre enc Tryz.prog Tryz.f3 Rows.optFoldsRow.domain false w args ∧ True) ∧ sizedMet enc Tryz.prog Tryz.f3 (OpenSpec.ofChange Rows.optFoldsSpec) false w args)
      (Rows.optFoldsSpec.post enc Tryz.prog Tryz.f3 false true false false) := by
  refine returnsInHanded_of_change_and (C := Tryz.checked) (X := fun _ _ => True) (fun _ _ _ _ h => h) own started (by kernel_rfl) Tryz.func3
    (ChangeSpec.witness_at (enc := enc) (C := Tryz.checked) (os := os) (X := fun _ _ => True) false (World.laidAll Tryz.prog os []) #[.agg #[.slice none 0 0, .slice none 0 0, .slice none 0 0, .slice none 0 0]] 8 (World.laidAll_os _ _ _)
      (by kernel_rfl) (by kernel_rfl) (by kernel_rfl) (by kernel_rfl) (by kernel_rfl) trivial) ?_
  intro W base args ds gs before hval0 hW hcnd hsz0 _ _
  have hval : ∀ (j : Nat) t v, Tryz.f3.params[j]? = some t → args[j]? = some v → Value.okWide Tryz.prog W .any base t v := hval0
  have hW' := hW
  obtain ⟨p, q, hA0, hV, rfl, hfz, hnd⟩ := hW
  have hA : DataW.TrodAll enc Tryz.prog W 0 (fun _ => true) true Tryz.f3.params.toList args.toList ds p := hA0
  rw [Tryz.params3] at hA hval
  obtain ⟨v0, vs0, d0, ds0, p0, q0, hargs, rfl, rfl, h0, r0⟩ := trodAll_cons hA
  obtain ⟨rfl, rfl, rfl⟩ := trodAll_nil r0
  obtain rfl : args = #[v0] := by cases args; simp_all
  obtain ⟨rfl, rfl⟩ := trodVars_none hV
  have hv0 := hval 0 27 v0 rfl rfl
  have lt0 : ∀ x ∈ p0, x.block < W.heap.size := by obtain ⟨m, hm⟩ := h0; exact DataW.trod_lt m _ _ _ hm
  obtain ⟨cs, rfl⟩ : ∃ cs, v0 = .agg cs := by
    unfold Value.okWide at hv0
    rw [Tryz.underlying27] at hv0
    obtain ⟨cs, rfl, _⟩ := hv0
    exact ⟨cs, rfl⟩
  have k0 := h0
  obtain ⟨r, hr, hR⟩ : ∃ r : GNet, FitsN r ∧ R (Ghost.all W) (netAV r) (.agg cs) := by
    obtain ⟨fuel, hf⟩ := h0
    obtain ⟨r, hr, hR⟩ := net_read hf (weigh_arg hsz0 (j := 0) rfl rfl)
    exact ⟨r, hr, by simpa [Value.cells] using hR⟩
  clear hA0 hval0 hsz0
  refine (folds_calls W r hr _ hR).mono fun e W' ⟨he, bel⟩ => ?_
  subst he
  exact ⟨_, rfl, _, _, _, [], _, [], hW', trodAll_mk1 (shut_bool Tryz.underlying4 _), (trodAll_cons_mk (Below.trod laidOut (by kernel_rfl) (of_decide_eq_true (by kernel_rfl)) k0 bel lt0) trodAll_mk0), rfl, bel.frame _, fun h => by cases h⟩
theorem lifted (os : Os) (started : os.Started) (H : Type) (enc : TypeId × Value → H) :
    ReturnsInHanded {} Tryz.checked os 3 .any (fun w args => Rows.optFoldsSpec.pre enc Tryz.prog Tryz.f3 Rows.optFoldsRow.domain false w args ∧ sizedMet enc Tryz.prog Tryz.f3 (OpenSpec.ofChange Rows.optFoldsSpec) false w args)
      (Rows.optFoldsSpec.post enc Tryz.prog Tryz.f3 false true false false) := by
  have h := lifted0 os started H enc
  simp only [and_true] at h
  exact h
theorem over : Rows.optFoldsRow.holds Tryz.pinned (OpenSpec.ofChange Rows.optFoldsSpec) :=
  OpenClaim.holds_of_wide 3 Tryz.f3 rfl rfl rfl rfl rfl rfl rfl ⟨rfl, rfl, rfl, rfl, rfl⟩ rfl rfl rfl rfl rfl (by kernel_rfl) Tryz.func3 (by kernel_rfl)
    (of_decide_eq_true (by kernel_rfl)) (by unfold Func.isWrapper; first | (rw [if_pos (by decide +kernel)]; kernel_rfl) | (rw [if_neg (by decide +kernel)]; exact ⟨rfl, rfl⟩))
    (fun os started H enc _ => lifted os started H enc)
theorem proved : Rows.OptFoldsSaid := over
end Go.Proofs.YthomnnnhkfjbdaaGreat.optFolds
namespace Go.Proofs.YthomnnnhkfjbdaaGreat
theorem optFolds_holds : Rows.OptFoldsSaid := optFolds.proved
end Go.Proofs.YthomnnnhkfjbdaaGreat
