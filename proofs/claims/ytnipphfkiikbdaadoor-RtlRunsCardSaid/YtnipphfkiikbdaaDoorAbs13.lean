/- Own text of this claim: part 13 of an interpreter that is proved sound against the model, and of what it shows of the law. -/
import Derived.Test.YtnipphfkiikbdaaDoorAbs9
import Derived.Test.YtnipphfkiikbdaaDoorAbs10
import Derived.Test.YtnipphfkiikbdaaDoorAbs11
import Derived.Test.YtnipphfkiikbdaaDoorAbs12
import Derived.Test.YtnipphfkiikbdaaDoorAbs6
/- Contracts. -/
namespace Go.RtlEnv
open Go Go.Proofs Go.Abs Go.RowKit
theorem lane_plain (l : GLane) : AV.plain (laneAV l) = laneAV l := rfl
theorem lane_free (l : GLane) : AV.free (laneAV l) = true := rfl
theorem hold_plain (h : GHold) : AV.plain (holdAV h) = holdAV h := by simp [holdAV, AV.plain, AV.plainL, plain_av bit_plain]
theorem hold_free (h : GHold) : AV.free (holdAV h) = true := by simp [holdAV, AV.free, AV.freeL, free_av bit_free]
theorem word_plain (h : GWord) : AV.plain (wordAV h) = wordAV h := by simp [wordAV, AV.plain, AV.plainL, plain_av bit_plain, plain_av int_plain]
theorem word_free (h : GWord) : AV.free (wordAV h) = true := by simp [wordAV, AV.free, AV.freeL, free_av bit_free, free_av int_free]
theorem rtl_plain (r : GRtl) : AV.plain (rtlAV r) = rtlAV r := by simp [rtlAV, AV.plain, AV.plainL, plain_av lane_plain, plain_av hold_plain, plain_av word_plain]
theorem rtl_free (r : GRtl) : AV.free (rtlAV r) = true := by simp [rtlAV, AV.free, AV.freeL, free_av lane_free, free_av hold_free, free_av word_free]
theorem str_plain (s : ByteArray) : AV.plain (strAV s) = strAV s := rfl
theorem str_free (s : ByteArray) : AV.free (strAV s) = true := rfl
theorem boolQ {E : Env} {f : FuncId} {a : List AV} {st : St} {b : Bool} (h : CW E f a st fun r _ => r = .bool b) : CW E f a st fun x _ => AV.plain x = .bool b ∧ AV.free x = true :=
  h.mono fun x _ e => by subst e; exact ⟨rfl, rfl⟩
abbrev Rel := List AV → AV → Prop
def Rel9 : Rel := fun a x => a = [] ∧ x = .bool true
def Rel37 : Rel := fun a x => ∃ n : Int, a = [.int .i64 n] ∧ x = .bool (decide (1 ≤ n ∧ n ≤ 4096))
def Rel38 : Rel := fun a x => ∃ (s : GSl UInt8) (m : UInt8), s.xs.length < 9223372036854775808 ∧ a = [s.av 1 bitAV, .int .u8 m.toNat] ∧ x = .bool (upto m.toNat s.xs)
def Rel35 : Rel := fun a x => ∃ b : UInt8, a = [bitAV b] ∧ x = .bool (decide (2 < b.toNat))
def Rel53 : Rel := fun a x => ∃ b : UInt8, a = [bitAV b] ∧ x = .bool (decide (1 < b.toNat))
def Rel34 : Rel := fun a x => ∃ (s : GSl UInt8) (cf m : Nat), ((cf = 35 ∧ m = 2) ∨ (cf = 53 ∧ m = 1)) ∧ s.xs.length < 9223372036854775808 ∧ a = [s.av 1 bitAV, .fn cf [] []] ∧ x = .bool (!(upto m s.xs))
def Rel31 : Rel := fun a x => ∃ l : GLane, a = [laneAV l] ∧ x = .str l.name
def Rel33 : Rel := fun a x => ∃ l : GHold, a = [holdAV l] ∧ x = .str l.name
def Rel52 : Rel := fun a x => ∃ op n : Int, a = [.int .i64 op, .int .i64 n] ∧ x = .int .i64 (kids52 op n)
def Rel57 : Rel := fun a x => ∃ op : Int, a = [.int .i64 op] ∧ x = .tup [.int .i64 (kids57 op).1, .int .i64 (kids57 op).2]
def Rel56 : Rel := fun a x => ∃ s : ByteArray, a = [.str s] ∧ x = .bool (nameOk s)
def Rel39 : Rel := fun a x => ∃ l : GSl ByteArray, a = [l.av 1 strAV] ∧ x = .bool (namesM l.xs)
def Rel30 : Rel := fun a x => ∃ l : GSl GLane, l.xs.length < 9223372036854775808 ∧ (∀ x ∈ l.xs, x.name.size < 9223372036854775808) ∧ a = [l.av 3 laneAV, .fn 31 [] []] ∧ x = .bool (namesM (l.xs.map (·.name)))
def Rel32 : Rel := fun a x => ∃ l : GSl GHold, l.xs.length < 9223372036854775808 ∧ (∀ x ∈ l.xs, x.name.size < 9223372036854775808) ∧ a = [l.av 3 holdAV, .fn 33 [] []] ∧ x = .bool (namesM (l.xs.map (·.name)))
def RelW : Rel := fun a x => ∃ (r : GRtl) (k : Nat), Fits r ∧ k < r.words.xs.length ∧ a = [rtlAV r, .int .i64 k] ∧ x = .bool (wordM r k)
def RelV : Rel := fun a x => ∃ r : GRtl, Fits r ∧ a = [rtlAV r] ∧ x = .bool (validM r)
/-- An environment whose prims do what they say. -/
structure Good (pr : Prims) : Prop where
  ok : ∀ B w0, PrimOk Tryd.prog (En pr) B w0
def add (pr : Prims) (f : FuncId) (g : List AV → St → Option (AV × St)) : Prims := fun x => bif Nat.beq x f then some g else pr x
theorem Good.add {pr : Prims} (h : Good pr) {f : FuncId} {R : Rel} (hc : Con (En pr) f R) (hent : ∀ (w : World) (vargs : Array Value), (callFunc f vargs).run Tryd.prog w = .ok (.enter f vargs) w) : Good (add pr f (primOf R)) :=
  ⟨fun B w0 => (h.ok B w0).addPrim (hc.does (En_ok pr) h.ok hent B w0)⟩
section
variable {pr : Prims}
theorem con37 (h : pr 37 = none) : Con (En pr) 37 Rel37 := ⟨by rintro a x ⟨n, rfl, rfl⟩; rfl, by rintro a x ⟨n, rfl, rfl⟩; exact boolQ (run37 h n _)⟩
theorem con38 (h : pr 38 = none) : Con (En pr) 38 Rel38 := ⟨by rintro a x ⟨s, m, hs, rfl, rfl⟩; simp [AV.freeL, free_av bit_free, AV.free], by rintro a x ⟨s, m, hs, rfl, rfl⟩; exact boolQ (run38 h s m hs _)⟩
theorem con35 (h : pr 35 = none) : Con (En pr) 35 Rel35 := ⟨by rintro a x ⟨n, rfl, rfl⟩; rfl, by rintro a x ⟨n, rfl, rfl⟩; exact boolQ (run35 h n _)⟩
theorem con53 (h : pr 53 = none) : Con (En pr) 53 Rel53 := ⟨by rintro a x ⟨n, rfl, rfl⟩; rfl, by rintro a x ⟨n, rfl, rfl⟩; exact boolQ (run53 h n _)⟩
theorem use35 {pr : Prims} (h : Con (En pr) 35 Rel35) (b : UInt8) (st : St) : primOf Rel35 [bitAV b] st = some (.bool (decide (2 < b.toNat)), st) := h.use ⟨b, rfl, rfl⟩ st
theorem use53 {pr : Prims} (h : Con (En pr) 53 Rel53) (b : UInt8) (st : St) : primOf Rel53 [bitAV b] st = some (.bool (decide (1 < b.toNat)), st) := h.use ⟨b, rfl, rfl⟩ st
theorem con34 {pr' pr'' : Prims} (h : pr 34 = none) (h51 : pr 51 = none) (h35 : pr 35 = some (primOf Rel35)) (h53 : pr 53 = some (primOf Rel53)) (c35 : Con (En pr') 35 Rel35) (c53 : Con (En pr'') 53 Rel53) : Con (En pr) 34 Rel34 :=
  ⟨by rintro a x ⟨s, cf, m, _, hs, rfl, rfl⟩; simp [AV.freeL, free_av bit_free, AV.free], by
    rintro a x ⟨s, cf, m, ⟨rfl, rfl⟩ | ⟨rfl, rfl⟩, hs, rfl, rfl⟩
    · exact boolQ (run34 h h51 h35 (use35 c35) s hs _)
    · exact boolQ (run34 h h51 h53 (use53 c53) s hs _)⟩
theorem con31 (h : pr 31 = none) : Con (En pr) 31 Rel31 := ⟨by rintro a x ⟨n, rfl, rfl⟩; rfl, by rintro a x ⟨n, rfl, rfl⟩; exact (run31 h n _).mono fun _ _ e => by subst e; exact ⟨rfl, rfl⟩⟩
theorem con33 (h : pr 33 = none) : Con (En pr) 33 Rel33 := ⟨by rintro a x ⟨n, rfl, rfl⟩; simp [AV.freeL, hold_free], by rintro a x ⟨n, rfl, rfl⟩; exact (run33 h n _).mono fun _ _ e => by subst e; exact ⟨rfl, rfl⟩⟩
theorem con52 (h : pr 52 = none) : Con (En pr) 52 Rel52 := ⟨by rintro a x ⟨op, n, rfl, rfl⟩; rfl, by rintro a x ⟨op, n, rfl, rfl⟩; exact (run52 h op n _).mono fun _ _ e => by subst e; exact ⟨rfl, rfl⟩⟩
theorem con57 (h : pr 57 = none) : Con (En pr) 57 Rel57 := ⟨by rintro a x ⟨op, rfl, rfl⟩; rfl, by rintro a x ⟨op, rfl, rfl⟩; exact (run57 h op _).mono fun _ _ e => by subst e; exact ⟨rfl, rfl⟩⟩
theorem con56 (h : pr 56 = none) : Con (En pr) 56 Rel56 := ⟨by rintro a x ⟨s, rfl, rfl⟩; rfl, by rintro a x ⟨s, rfl, rfl⟩; exact boolQ (run56 h s _)⟩
theorem con39 {pr' : Prims} (h : pr 39 = none) (h56 : pr 56 = some (primOf Rel56)) (c56 : Con (En pr') 56 Rel56) : Con (En pr) 39 Rel39 :=
  ⟨by rintro a x ⟨s, rfl, rfl⟩; simp [AV.freeL, free_av str_free], by rintro a x ⟨s, rfl, rfl⟩; exact boolQ (run39 h h56 (fun s st => c56.use ⟨s, rfl, rfl⟩ st) s _)⟩
theorem con30 {pr' : Prims} (h : pr 30 = none) (h31 : pr 31 = some (primOf Rel31)) (c31 : Con (En pr') 31 Rel31) : Con (En pr) 30 Rel30 :=
  ⟨by rintro a x ⟨s, _, _, rfl, rfl⟩; simp [AV.freeL, free_av lane_free, AV.free], by rintro a x ⟨s, h1, h2, rfl, rfl⟩; exact boolQ (run30 h h31 (fun s st => c31.use ⟨s, rfl, rfl⟩ st) s h1 h2 _)⟩
theorem con32 {pr' : Prims} (h : pr 32 = none) (h33 : pr 33 = some (primOf Rel33)) (c33 : Con (En pr') 33 Rel33) : Con (En pr) 32 Rel32 :=
  ⟨by rintro a x ⟨s, _, _, rfl, rfl⟩; simp [AV.freeL, free_av hold_free, AV.free], by rintro a x ⟨s, h1, h2, rfl, rfl⟩; exact boolQ (run32 h h33 (fun s st => c33.use ⟨s, by simp [AV.plainL, hold_plain], rfl⟩ st) s h1 h2 _)⟩
theorem con36 {p1 p2 : Prims} (h : pr 36 = none) (h54 : pr 54 = none) (h71 : pr 71 = none) (h55 : pr 55 = none) (h52 : pr 52 = some (primOf Rel52)) (c52 : Con (En p1) 52 Rel52) (h34 : pr 34 = some (primOf Rel34)) (c34 : Con (En p2) 34 Rel34) : Con (En pr) 36 RelW :=
  ⟨by rintro a x ⟨r, k, _, _, rfl, rfl⟩; simp [AV.freeL, rtl_free, AV.free], by
    rintro a x ⟨r, k, hf, hk, rfl, rfl⟩
    refine boolQ (run36 h h54 h71 h55 h52 (fun op n st => c52.use ⟨op, n, rfl, rfl⟩ st) h34 r k _ (List.getElem?_eq_getElem hk) (fun st => c34.use ⟨_, 53, 1, .inr ⟨rfl, rfl⟩, hf.bits _ (List.getElem_mem hk), ?_, rfl⟩ st) _)
    simp [AV.plainL, plain_av bit_plain, AV.plain]⟩
theorem con40 {p1 p2 p3 : Prims} (h : pr 40 = none) (h57 : pr 57 = some (primOf Rel57)) (c57 : Con (En p1) 57 Rel57) (h37 : pr 37 = some (primOf Rel37)) (c37 : Con (En p2) 37 Rel37) (h38 : pr 38 = some (primOf Rel38)) (c38 : Con (En p3) 38 Rel38) : Con (En pr) 40 RelW :=
  ⟨by rintro a x ⟨r, k, _, _, rfl, rfl⟩; simp [AV.freeL, rtl_free, AV.free], by
    rintro a x ⟨r, k, hf, hk, rfl, rfl⟩
    refine boolQ (run40 h h57 (fun op st => c57.use ⟨op, rfl, rfl⟩ st) h37 (fun n st => c37.use ⟨n, rfl, rfl⟩ st) h38 r k _ (List.getElem?_eq_getElem hk) (fun st => c38.use ⟨_, 1, hf.bits _ (List.getElem_mem hk), ?_, rfl⟩ st) _)
    simp [AV.plainL, plain_av bit_plain, AV.plain]⟩
theorem con10 {p1 p2 p3 p4 : Prims} (h : pr 10 = none) (h30 : pr 30 = some (primOf Rel30)) (c30 : Con (En p1) 30 Rel30) (h32 : pr 32 = some (primOf Rel32)) (c32 : Con (En p2) 32 Rel32) (h34 : pr 34 = some (primOf Rel34)) (c34 : Con (En p3) 34 Rel34) (h36 : pr 36 = some (primOf RelW)) (c36 : Con (En p4) 36 RelW) : Con (En pr) 10 RelV :=
  ⟨by rintro a x ⟨r, _, rfl, rfl⟩; simp [AV.freeL, rtl_free], by
    rintro a x ⟨r, hf, rfl, rfl⟩
    exact boolQ (run10 h r hf h30 h32 h34 h36 (fun st => c30.use ⟨_, hf.ins, hf.insN, by simp [AV.plainL, plain_av lane_plain, AV.plain], rfl⟩ st) (fun st => c30.use ⟨_, hf.outs, hf.outsN, by simp [AV.plainL, plain_av lane_plain, AV.plain], rfl⟩ st)
      (fun st => c32.use ⟨_, hf.regs, hf.regsN, by simp [AV.plainL, plain_av hold_plain, AV.plain], rfl⟩ st) (fun s st hs => c34.use ⟨s, 35, 2, .inl ⟨rfl, rfl⟩, hs, by simp [AV.plainL, plain_av bit_plain, AV.plain], rfl⟩ st)
      (fun k st hk => c36.use ⟨r, k, hf, hk, by simp [AV.plainL, rtl_plain, AV.plain], rfl⟩ st) _)⟩
theorem con11 {p1 p2 p3 p4 : Prims} (h : pr 11 = none) (h37 : pr 37 = some (primOf Rel37)) (c37 : Con (En p1) 37 Rel37) (h38 : pr 38 = some (primOf Rel38)) (c38 : Con (En p2) 38 Rel38) (h39 : pr 39 = some (primOf Rel39)) (c39 : Con (En p3) 39 Rel39) (h40 : pr 40 = some (primOf RelW)) (c40 : Con (En p4) 40 RelW) : Con (En pr) 11 RelV :=
  ⟨by rintro a x ⟨r, _, rfl, rfl⟩; simp [AV.freeL, rtl_free], by
    rintro a x ⟨r, hf, rfl, rfl⟩
    exact boolQ (run11 h r hf h37 h38 h39 h40 (fun n st => c37.use ⟨n, rfl, rfl⟩ st) (fun s st hs => c38.use ⟨s, 2, hs, by simp [AV.plainL, plain_av bit_plain, AV.plain], rfl⟩ st)
      (fun t l st => c39.use ⟨GSl.of l, by simp [AV.plainL, plain_acc str_plain], rfl⟩ st)
      (fun k st hk => c40.use ⟨r, k, hf, hk, by simp [AV.plainL, rtl_plain, AV.plain], rfl⟩ st) _)⟩
end
end Go.RtlEnv

/- few, and the law itself. -/
namespace Go.RtlEnv
open Go Go.Proofs Go.Abs Go.RowKit
set_option maxRecDepth 10000
theorem sfa_drop {p : Nat × AObj} {L : List (Nat × AObj)} {K : List (Nat × Bool)} {st : St} (h : SFa (p :: L) K st) : SFa L K st :=
  ⟨fun k b o hk => h.obj (k + 1) b o (by simpa using hk), fun k k' b o o' h1 h2 => by have := h.uniq (k + 1) (k' + 1) b o o' (by simpa using h1) (by simpa using h2); omega, h.tok, h.uniqT⟩
attribute [local irreducible] WS QS OS OD Abs.Sub SubO SubK CW GSl.av accA
section
variable {pr : Prims} {L : List (Nat × AObj)} {K : List (Nat × Bool)}
set_option maxHeartbeats 4000000 in
theorem run8 (h1 : pr 8 = none) (r : GRtl) (hr : Fits r) {st : St} (hS : SFa L K st) : CW (En pr) 8 [rtlAV r] st fun x st' => (∃ b, x = .bool b) ∧ SFa L K st' := by
  obtain ⟨f1, f2, f3, f4, _, _, _, _, _, _⟩ := hr
  refine CW.startS (N := 65) h1 rfl rfl hS ?_
  repeat' (first | (refine OS.do rfl ?_; first | refine OD.box rfl rfl rfl rfl (rtl_ok _) rfl (fun b1 => ?_) | refine OD.loadP 0 rfl rfl rfl rfl rfl rfl ?_ | refine OD.auto rfl rfl ?_ | refine OD.len rfl rfl (fun _ => lenTy_av rfl rfl) ?_) | refine OS.nil ?_ | refine WS.seq ?_ | refine QS.seqN ?_ | refine WS.region ?_ | refine WS.block ?_)
  refine WS.loop (D := Nat × Int) (fun d => [(3, .int .i64 d.2), (1, .ptr b1 0 0), (9, r.words.av 5 wordAV), (10, .int .i64 r.words.xs.length), (11, .int .i64 d.1)]) (fun _ => (b1, .row 4 [rtlAV r]) :: L) (fun _ => K)
    (fun d => d.1 ≤ r.words.xs.length) (fun d => r.words.xs.length + 1 - d.1) (0, 0) (by omega) ?_ (.refl _) (.refl _) ?_
  · repeat' (first | exact Sub.nil _ | refine Sub.cons (congrArg (fun z => some (AV.int .i64 z)) (wrap_succ (by omega))) ?_ | refine Sub.cons rfl ?_)
  rintro ⟨i, s⟩ hi
  dsimp only at hi ⊢
  repeat' (first | (refine OS.do rfl ?_; first | refine OD.loadP 0 rfl rfl rfl rfl rfl rfl ?_ | refine OD.auto rfl rfl ?_ | refine OD.len rfl rfl (fun _ => lenTy_av rfl rfl) ?_ | refine OD.indexAddr rfl rfl rfl (indexAddrA_nat rfl rfl rfl rfl (by first | assumption | exact List.getElem?_eq_getElem (by omega))) ?_ | refine OD.max rfl rfl rfl ?_ | refine OD.min rfl rfl rfl ?_ | refine OD.alloc rfl rfl rfl rfl (fun _ => ?_) | refine OD.storeW 0 rfl rfl rfl rfl (by first | rfl | exact hold_ok _ | exact word_ok _ | exact rtl_ok _) rfl rfl rfl ?_) | refine OS.nil ?_ | refine WS.seq ?_ | refine QS.seqN ?_ | refine WS.region ?_ | refine WS.condD rfl (fun _ => ?_) (fun _ => ?_) | refine WS.skip ?_ | refine WS.block ?_ | refine QS.blockN ?_ | refine WS.exit ?_ | refine QS.seqE ?_ | refine QS.blockH ?_ | refine QS.loopE ?_)
  all_goals try (have hlt : i < r.words.xs.length := by omega
                 refine QS.loopN (i + 1, IntKind.i64.wrap (s + IntKind.i64.wrap (IntKind.i64.wrap ((if 5000 < (if 0 > (r.words.xs[i]).len then 0 else (r.words.xs[i]).len) then 5000 else (if 0 > (r.words.xs[i]).len then 0 else (r.words.xs[i]).len)) + ((r.words.xs[i]).bits.xs.length : Int)) + ((r.words.xs[i]).kids.xs.length : Int)))) ?_ ?_ ?_ ?_ ?_
                 · dsimp only; omega
                 · dsimp only; omega
                 · refine Sub.cons rfl ?_
                   repeat' (first | exact Sub.nil _ | refine Sub.cons (congrArg (fun z => some (AV.int .i64 z)) (wrap_succ (by omega))) ?_ | refine Sub.cons rfl ?_)
                 · exact .drop (.refl _)
                 · exact .refl _)
  refine WS.loop (D := Nat × Int) (fun d => [(3, .int .i64 d.2), (1, .ptr b1 0 0), (31, r.regs.av 3 holdAV), (32, .int .i64 r.regs.xs.length), (33, .int .i64 d.1)]) (fun _ => (b1, .row 4 [rtlAV r]) :: L) (fun _ => K)
    (fun d => d.1 ≤ r.regs.xs.length) (fun d => r.regs.xs.length + 1 - d.1) (0, s) (by omega) ?_ (.refl _) (.refl _) ?_
  · repeat' (first | exact Sub.nil _ | refine Sub.cons (congrArg (fun z => some (AV.int .i64 z)) (wrap_succ (by omega))) ?_ | refine Sub.cons rfl ?_)
  rintro ⟨i, s⟩ hi
  dsimp only at hi ⊢
  repeat' (first | (refine OS.do rfl ?_; first | refine OD.loadP 0 rfl rfl rfl rfl rfl rfl ?_ | refine OD.auto rfl rfl ?_ | refine OD.len rfl rfl (fun _ => lenTy_av rfl rfl) ?_ | refine OD.indexAddr rfl rfl rfl (indexAddrA_nat rfl rfl rfl rfl (by first | assumption | exact List.getElem?_eq_getElem (by omega))) ?_ | refine OD.alloc rfl rfl rfl rfl (fun _ => ?_) | refine OD.storeW 0 rfl rfl rfl rfl (by first | rfl | exact hold_ok _ | exact word_ok _ | exact rtl_ok _) rfl rfl rfl ?_) | refine OS.nil ?_ | refine OS.skip rfl rfl rfl ?_ | refine WS.seq ?_ | refine QS.seqN ?_ | refine WS.region ?_ | refine WS.condD rfl (fun _ => ?_) (fun _ => ?_) | refine WS.skip ?_ | refine WS.block ?_ | refine WS.ret ?_ | refine QS.blockN ?_ | refine WS.exit ?_ | refine QS.seqE ?_ | refine QS.blockH ?_ | refine QS.loopE ?_ | ((fail_if_success (refine OS.do rfl ?_)); first | refine OS.splitD rfl rfl rfl (fun _ => ?_) (fun _ => ?_)))
  all_goals try (have hlt : i < r.regs.xs.length := by omega
                 refine QS.loopN (i + 1, IntKind.i64.wrap (s + ((r.regs.xs[i]).init.xs.length : Int))) ?_ ?_ ?_ ?_ ?_
                 · dsimp only; omega
                 · dsimp only; omega
                 · refine Sub.cons rfl ?_
                   repeat' (first | exact Sub.nil _ | refine Sub.cons (congrArg (fun z => some (AV.int .i64 z)) (wrap_succ (by omega))) ?_ | refine Sub.cons rfl ?_)
                 · exact .drop (.refl _)
                 · exact .refl _)
  all_goals (refine QS.retRS (by rfl) fun st hS => ⟨⟨_, rfl⟩, sfa_drop hS⟩)
theorem run3 (h1 : pr 3 = none) (h8 : pr 8 = none) {p9 p10 p11 : List AV → St → Option (AV × St)} (h9 : pr 9 = some p9) (u9 : ∀ st, p9 [] st = some (.bool true, st)) (r : GRtl) (hr : Fits r)
    (h10 : pr 10 = some p10) (u10 : ∀ st, p10 [rtlAV r] st = some (.bool (validM r), st)) (h11 : pr 11 = some p11) (u11 : ∀ st, p11 [rtlAV r] st = some (.bool (validM r), st)) (st : St) :
    CW (En pr) 3 [rtlAV r] st fun x _ => x = .bool true := by
  refine CW.start (N := 15) h1 rfl rfl ?_
  repeat' (first | (refine OS.do rfl ?_; first | refine OD.box rfl rfl rfl rfl (rtl_ok _) rfl (fun b1 => ?_) | refine OD.loadP 0 rfl rfl rfl rfl rfl rfl ?_ | refine OD.auto rfl rfl ?_ | refine OD.call rfl rfl rfl h9 u9 (fun _ => rfl) ?_ | refine OD.call rfl rfl rfl h10 u10 (fun _ => rfl) ?_ | refine OD.call rfl rfl rfl h11 u11 (fun _ => rfl) ?_ | (refine OD.callP (fun x => ∃ b, x = .bool b) rfl rfl rfl (fun st hS => run8 h8 r hr hS) (by rintro v st ⟨b, rfl⟩; rfl) ?_; rintro v ⟨b, rfl⟩)) | refine OS.nil ?_ | refine OS.skip rfl rfl rfl ?_ | refine WS.seq ?_ | refine QS.seqN ?_ | refine WS.region ?_ | refine WS.skip ?_ | refine WS.ret ?_ | refine QS.seqR ?_ | refine WS.drawC rfl rfl rfl ?_ | refine WS.condN rfl (fun _ => ?_) (fun _ => ?_) | ((fail_if_success (refine OS.do rfl ?_)); first | refine OS.splitD rfl rfl rfl (fun _ => ?_) (fun _ => ?_)))
  all_goals first
    | (refine QS.retR (by rfl) fun _ => ?_; rfl)
    | exact absurd rfl (by assumption)
end
end Go.RtlEnv

/- All the contracts together; the law RtlValid. -/
namespace Go.RtlEnv
open Go Go.Proofs Go.Abs Go.RowKit
theorem con9 : Con (En prims) 9 Rel9 := ⟨by rintro a x ⟨rfl, rfl⟩; rfl, by
  rintro a x ⟨rfl, rfl⟩
  obtain ⟨st, h⟩ := isT_spec awake_run
  exact ⟨400, .bool true, st, h, rfl, rfl⟩⟩
noncomputable def pr1 : Prims := add prims 9 (primOf Rel9)
noncomputable def pr2 : Prims := add pr1 37 (primOf Rel37)
noncomputable def pr3 : Prims := add pr2 38 (primOf Rel38)
noncomputable def pr4 : Prims := add pr3 35 (primOf Rel35)
noncomputable def pr5 : Prims := add pr4 53 (primOf Rel53)
noncomputable def pr6 : Prims := add pr5 34 (primOf Rel34)
noncomputable def pr7 : Prims := add pr6 31 (primOf Rel31)
noncomputable def pr8 : Prims := add pr7 33 (primOf Rel33)
noncomputable def pr9 : Prims := add pr8 52 (primOf Rel52)
noncomputable def pr10 : Prims := add pr9 57 (primOf Rel57)
noncomputable def pr11 : Prims := add pr10 56 (primOf Rel56)
noncomputable def pr12 : Prims := add pr11 39 (primOf Rel39)
noncomputable def pr13 : Prims := add pr12 30 (primOf Rel30)
noncomputable def pr14 : Prims := add pr13 32 (primOf Rel32)
noncomputable def pr15 : Prims := add pr14 36 (primOf RelW)
noncomputable def pr16 : Prims := add pr15 40 (primOf RelW)
noncomputable def pr17 : Prims := add pr16 10 (primOf RelV)
noncomputable def pr18 : Prims := add pr17 11 (primOf RelV)
theorem good0 : Good prims := ⟨E1_prims⟩
theorem good1 : Good pr1 := good0.add con9 fun w v => Tryd.call9 v w
theorem c37 : Con (En pr1) 37 Rel37 := con37 rfl
theorem good2 : Good pr2 := good1.add c37 fun w v => Tryd.call37 v w
theorem c38 : Con (En pr2) 38 Rel38 := con38 rfl
theorem good3 : Good pr3 := good2.add c38 fun w v => Tryd.call38 v w
theorem c35 : Con (En pr3) 35 Rel35 := con35 rfl
theorem good4 : Good pr4 := good3.add c35 fun w v => Tryd.call35 v w
theorem c53 : Con (En pr4) 53 Rel53 := con53 rfl
theorem good5 : Good pr5 := good4.add c53 fun w v => Tryd.call53 v w
theorem c34 : Con (En pr5) 34 Rel34 := con34 rfl rfl rfl rfl c35 c53
theorem good6 : Good pr6 := good5.add c34 fun w v => Tryd.call34 v w
theorem c31 : Con (En pr6) 31 Rel31 := con31 rfl
theorem good7 : Good pr7 := good6.add c31 fun w v => Tryd.call31 v w
theorem c33 : Con (En pr7) 33 Rel33 := con33 rfl
theorem good8 : Good pr8 := good7.add c33 fun w v => Tryd.call33 v w
theorem c52 : Con (En pr8) 52 Rel52 := con52 rfl
theorem good9 : Good pr9 := good8.add c52 fun w v => Tryd.call52 v w
theorem c57 : Con (En pr9) 57 Rel57 := con57 rfl
theorem good10 : Good pr10 := good9.add c57 fun w v => Tryd.call57 v w
theorem c56 : Con (En pr10) 56 Rel56 := con56 rfl
theorem good11 : Good pr11 := good10.add c56 fun w v => Tryd.call56 v w
theorem c39 : Con (En pr11) 39 Rel39 := con39 rfl rfl c56
theorem good12 : Good pr12 := good11.add c39 fun w v => Tryd.call39 v w
theorem c30 : Con (En pr12) 30 Rel30 := con30 rfl rfl c31
theorem good13 : Good pr13 := good12.add c30 fun w v => Tryd.call30 v w
theorem c32 : Con (En pr13) 32 Rel32 := con32 rfl rfl c33
theorem good14 : Good pr14 := good13.add c32 fun w v => Tryd.call32 v w
theorem c36 : Con (En pr14) 36 RelW := con36 rfl rfl rfl rfl rfl c52 rfl c34
theorem good15 : Good pr15 := good14.add c36 fun w v => Tryd.call36 v w
theorem c40 : Con (En pr15) 40 RelW := con40 rfl rfl c57 rfl c37 rfl c38
theorem good16 : Good pr16 := good15.add c40 fun w v => Tryd.call40 v w
theorem c10 : Con (En pr16) 10 RelV := con10 rfl rfl c30 rfl c32 rfl c34 rfl c36
theorem good17 : Good pr17 := good16.add c10 fun w v => Tryd.call10 v w
theorem c11 : Con (En pr17) 11 RelV := con11 rfl rfl c37 rfl c38 rfl c39 rfl c40
theorem good18 : Good pr18 := good17.add c11 fun w v => Tryd.call11 v w
theorem valid_calls (w : World) (r : GRtl) (hr : Fits r) (v : Value) (hv : R (Ghost.all w) (rtlAV r) v) : Calls Tryd.prog 3 #[v] w fun e w' => e = .returned (.bool true) ∧ Below w.heap.size w w' := by
  obtain ⟨n, x, st', h, hx⟩ := run3 (pr := pr18) rfl rfl rfl (fun st => con9.use ⟨rfl, rfl⟩ st) r hr rfl (fun st => c10.use ⟨r, hr, by simp [AV.plainL, rtl_plain], rfl⟩ st) rfl (fun st => c11.use ⟨r, hr, by simp [AV.plainL, rtl_plain], rfl⟩ st) St.empty
  refine ((callF_sound (En_ok pr18) (good18.ok w.heap.size w) n 3 [rtlAV r] St.empty x st' h).2 (Ghost.all w) w #[v] (Inv.all w) (RL.cons hv (RL.nil _))).mono ?_
  rintro e w' ⟨u, Γ, rfl, out, hu⟩
  subst hx
  simp only [R] at hu
  subst hu
  exact ⟨rfl, out.inv.below⟩
end Go.RtlEnv

/- An Rtl, read. -/
namespace Go.RtlEnv
open Go Go.Proofs Go.Abs Go.RowKit
section
variable {H : Type} {enc : TypeId × Value → H} {w : World} {base : Nat} {spare : Nat → Bool} {held : Bool} {fuel n : Nat} {cs : List Value} {x : DataW H × List MemPlace}
theorem maxLen_lt : maxLen < 9223372036854775808 := by decide
theorem int_read (h : DataW.trod enc Tryd.prog w base spare held n 3 cs = some x) : ∃ k : Int, cs = [.int .i64 k] := by
  obtain ⟨k, rfl, _⟩ := DataW.trod_int Tryd.underlying3 h
  exact ⟨k, rfl⟩
theorem op_read (h : DataW.trod enc Tryd.prog w base spare held n 49 cs = some x) : ∃ k : Int, cs = [.int .i64 k] := by
  obtain ⟨k, rfl, _⟩ := DataW.trod_int Tryd.underlying49 h
  exact ⟨k, rfl⟩
theorem str_read (h : DataW.trod enc Tryd.prog w base spare held n 9 cs = some x) : ∃ s : ByteArray, cs = [.string s] ∧ s.size ≤ maxLen := by
  obtain ⟨s, rfl, _, hs⟩ := DataW.trod_string Tryd.underlying9 h
  exact ⟨s, rfl, hs⟩
theorem bit_read (h : DataW.trod enc Tryd.prog w base spare held n 60 cs = some x) : ∃ b : UInt8, cs = [.int .u8 b.toNat] := by
  obtain ⟨k, rfl, _, hw⟩ := DataW.trod_int Tryd.underlying60 h
  have hb : 0 ≤ k ∧ k < 256 := by
    simp [Lit.wf, IntKind.min, IntKind.max, IntKind.signed, IntKind.bits] at hw
    omega
  refine ⟨UInt8.ofNat k.toNat, ?_⟩
  have : (UInt8.ofNat k.toNat).toNat = k.toNat := by
    rw [UInt8.toNat_ofNat']
    omega
  rw [this, Int.toNat_of_nonneg hb.1]
theorem bits_read (h : DataW.trod enc Tryd.prog w base spare held n 51 cs = some x) : ∃ s : GSl UInt8, (∃ v, cs = [v] ∧ R (Ghost.all w) (s.av 1 bitAV) v) ∧ s.xs.length ≤ maxLen := by
  obtain ⟨s, h1, _, h3⟩ := slice_read bitAV 1 (fun _ => True) (by decide) Tryd.underlying51 (by kernel_rfl) (fun n cs y hy => by
    obtain ⟨b, rfl⟩ := bit_read hy
    exact ⟨b, trivial, rfl, .int .u8 b.toNat, rfl, by simp only [bitAV, R]⟩) h
  exact ⟨s, h1, h3⟩
theorem ints_read (h : DataW.trod enc Tryd.prog w base spare held n 50 cs = some x) : ∃ s : GSl Int, (∃ v, cs = [v] ∧ R (Ghost.all w) (s.av 1 intAV) v) ∧ s.xs.length ≤ maxLen := by
  obtain ⟨s, h1, _, h3⟩ := slice_read intAV 1 (fun _ => True) (by decide) Tryd.underlying50 (by kernel_rfl) (fun n cs y hy => by
    obtain ⟨b, rfl⟩ := int_read hy
    exact ⟨b, trivial, rfl, .int .i64 b, rfl, by simp only [intAV, R]⟩) h
  exact ⟨s, h1, h3⟩
theorem c9 : Tryd.prog.cellsOf 9 = 1 := by kernel_rfl
theorem c3 : Tryd.prog.cellsOf 3 = 1 := by kernel_rfl
theorem c49 : Tryd.prog.cellsOf 49 = 1 := by kernel_rfl
theorem c50 : Tryd.prog.cellsOf 50 = 1 := by kernel_rfl
theorem c51 : Tryd.prog.cellsOf 51 = 1 := by kernel_rfl
theorem c22 : Tryd.prog.cellsOf 22 = 1 := by kernel_rfl
theorem c23 : Tryd.prog.cellsOf 23 = 1 := by kernel_rfl
theorem c24 : Tryd.prog.cellsOf 24 = 1 := by kernel_rfl
theorem c66 : Tryd.prog.cellsOf 66 = 3 := by kernel_rfl
theorem c62 : Tryd.prog.cellsOf 62 = 3 := by kernel_rfl
theorem c53' : Tryd.prog.cellsOf 53 = 5 := by kernel_rfl
theorem c26 : Tryd.prog.cellsOf 26 = 4 := by kernel_rfl
theorem fld {fs : Array Field} {m : Nat} {xs : List (DataW H × List MemPlace)} (hf : ∀ (i : Nat) (f : Field), fs[i]? = some f → DataW.trod enc Tryd.prog w base spare held m f.type ((cs.drop f.offset).take (Tryd.prog.cellsOf f.type)) = xs[i]?) (hx : xs.length = fs.size)
    (i : Nat) {f : Field} (hi : fs[i]? = some f) {k off : Nat} {t : TypeId} {l : List Value} (ht : f.type = t) (ho : f.offset = off) (hk : Tryd.prog.cellsOf t = k) (hl : (cs.drop off).take k = l) : ∃ y, DataW.trod enc Tryd.prog w base spare held m t l = some y := by
  have h := hf i f hi
  subst ht; subst ho; subst hk; subst hl
  have hlt : i < xs.length := by rw [hx]; exact (Array.getElem?_eq_some_iff.1 hi).1
  rw [List.getElem?_eq_getElem hlt] at h
  exact ⟨_, h⟩
theorem lane_read (h : DataW.trod enc Tryd.prog w base spare held n 66 cs = some x) : ∃ l : GLane, l.name.size ≤ maxLen ∧ ∃ v : Value, v.cells.toList = cs ∧ R (Ghost.all w) (laneAV l) v := by
  obtain ⟨xs, m, rfl, _, hl, hx, hf⟩ := DataW.trod_struct Tryd.underlying66 h
  rw [c66] at hl
  rcases cs with _ | ⟨a, _ | ⟨b, _ | ⟨c, _ | ⟨d, l⟩⟩⟩⟩ <;> simp at hl
  obtain ⟨y0, f0⟩ := fld hf hx 0 rfl rfl rfl c9 (l := [a]) rfl
  obtain ⟨y1, f1⟩ := fld hf hx 1 rfl rfl rfl c3 (l := [b]) rfl
  obtain ⟨y2, f2⟩ := fld hf hx 2 rfl rfl rfl c3 (l := [c]) rfl
  obtain ⟨s, e0, hs⟩ := str_read f0
  obtain ⟨k1, e1⟩ := int_read f1
  obtain ⟨k2, e2⟩ := int_read f2
  simp only [List.cons.injEq, and_true] at e0 e1 e2
  subst e0; subst e1; subst e2
  refine ⟨⟨s, k1, k2⟩, hs, .agg #[.string s, .int .i64 k1, .int .i64 k2], rfl, ?_⟩
  simp only [laneAV, R]
  exact ⟨_, rfl, RL.cons (by simp only [R]) (RL.cons (by simp only [R]) (RL.cons (by simp only [R]) (RL.nil _)))⟩
theorem hold_read (h : DataW.trod enc Tryd.prog w base spare held n 62 cs = some x) : ∃ l : GHold, (l.name.size ≤ maxLen ∧ l.init.xs.length ≤ maxLen) ∧ ∃ v : Value, v.cells.toList = cs ∧ R (Ghost.all w) (holdAV l) v := by
  obtain ⟨xs, m, rfl, _, hl, hx, hf⟩ := DataW.trod_struct Tryd.underlying62 h
  rw [c62] at hl
  rcases cs with _ | ⟨a, _ | ⟨b, _ | ⟨c, _ | ⟨d, l⟩⟩⟩⟩ <;> simp at hl
  obtain ⟨y0, f0⟩ := fld hf hx 0 rfl rfl rfl c9 (l := [a]) rfl
  obtain ⟨y1, f1⟩ := fld hf hx 1 rfl rfl rfl c51 (l := [b]) rfl
  obtain ⟨y2, f2⟩ := fld hf hx 2 rfl rfl rfl c3 (l := [c]) rfl
  obtain ⟨s, e0, hs⟩ := str_read f0
  obtain ⟨q, ⟨v1, e1, r1⟩, hq⟩ := bits_read f1
  obtain ⟨k2, e2⟩ := int_read f2
  simp only [List.cons.injEq, and_true] at e0 e1 e2
  subst e0; subst e1; subst e2
  refine ⟨⟨s, q, k2⟩, ⟨hs, hq⟩, .agg #[.string s, b, .int .i64 k2], rfl, ?_⟩
  simp only [holdAV, R]
  exact ⟨_, rfl, RL.cons (by simp only [R]) (RL.cons r1 (RL.cons (by simp only [R]) (RL.nil _)))⟩
theorem word_read (h : DataW.trod enc Tryd.prog w base spare held n 53 cs = some x) : ∃ l : GWord, (l.kids.xs.length ≤ maxLen ∧ l.bits.xs.length ≤ maxLen) ∧ ∃ v : Value, v.cells.toList = cs ∧ R (Ghost.all w) (wordAV l) v := by
  obtain ⟨xs, m, rfl, _, hl, hx, hf⟩ := DataW.trod_struct Tryd.underlying53 h
  rw [c53'] at hl
  rcases cs with _ | ⟨a, _ | ⟨b, _ | ⟨c, _ | ⟨d, _ | ⟨e, _ | ⟨g, l⟩⟩⟩⟩⟩⟩ <;> simp at hl
  obtain ⟨y0, f0⟩ := fld hf hx 0 rfl rfl rfl c49 (l := [a]) rfl
  obtain ⟨y1, f1⟩ := fld hf hx 1 rfl rfl rfl c3 (l := [b]) rfl
  obtain ⟨y2, f2⟩ := fld hf hx 2 rfl rfl rfl c3 (l := [c]) rfl
  obtain ⟨y3, f3⟩ := fld hf hx 3 rfl rfl rfl c50 (l := [d]) rfl
  obtain ⟨y4, f4⟩ := fld hf hx 4 rfl rfl rfl c51 (l := [e]) rfl
  obtain ⟨k0, e0⟩ := op_read f0
  obtain ⟨k1, e1⟩ := int_read f1
  obtain ⟨k2, e2⟩ := int_read f2
  obtain ⟨q3, ⟨v3, e3, r3⟩, hq3⟩ := ints_read f3
  obtain ⟨q4, ⟨v4, e4, r4⟩, hq4⟩ := bits_read f4
  simp only [List.cons.injEq, and_true] at e0 e1 e2 e3 e4
  subst e0; subst e1; subst e2; subst e3; subst e4
  refine ⟨⟨k0, k1, k2, q3, q4⟩, ⟨hq3, hq4⟩, .agg #[.int .i64 k0, .int .i64 k1, .int .i64 k2, d, e], rfl, ?_⟩
  simp only [wordAV, R]
  exact ⟨_, rfl, RL.cons (by simp only [R]) (RL.cons (by simp only [R]) (RL.cons (by simp only [R]) (RL.cons r3 (RL.cons r4 (RL.nil _)))))⟩
theorem lanes_read (h : DataW.trod enc Tryd.prog w base spare held n 22 cs = some x) : ∃ s : GSl GLane, (∃ v, cs = [v] ∧ R (Ghost.all w) (s.av 3 laneAV) v) ∧ (∀ a ∈ s.xs, a.name.size ≤ maxLen) ∧ s.xs.length ≤ maxLen :=
  slice_read laneAV 3 (fun a => a.name.size ≤ maxLen) (by decide) Tryd.underlying22 c66 (fun n cs y hy => by
    obtain ⟨l, h1, h2⟩ := lane_read hy
    exact ⟨l, h1, rfl, h2⟩) h
theorem holds_read (h : DataW.trod enc Tryd.prog w base spare held n 23 cs = some x) : ∃ s : GSl GHold, (∃ v, cs = [v] ∧ R (Ghost.all w) (s.av 3 holdAV) v) ∧ (∀ a ∈ s.xs, a.name.size ≤ maxLen ∧ a.init.xs.length ≤ maxLen) ∧ s.xs.length ≤ maxLen :=
  slice_read holdAV 3 (fun a => a.name.size ≤ maxLen ∧ a.init.xs.length ≤ maxLen) (by decide) Tryd.underlying23 c62 (fun n cs y hy => by
    obtain ⟨l, h1, h2⟩ := hold_read hy
    exact ⟨l, h1, hold_ok l, h2⟩) h
theorem words_read (h : DataW.trod enc Tryd.prog w base spare held n 24 cs = some x) : ∃ s : GSl GWord, (∃ v, cs = [v] ∧ R (Ghost.all w) (s.av 5 wordAV) v) ∧ (∀ a ∈ s.xs, a.kids.xs.length ≤ maxLen ∧ a.bits.xs.length ≤ maxLen) ∧ s.xs.length ≤ maxLen :=
  slice_read wordAV 5 (fun a => a.kids.xs.length ≤ maxLen ∧ a.bits.xs.length ≤ maxLen) (by decide) Tryd.underlying24 c53' (fun n cs y hy => by
    obtain ⟨l, h1, h2⟩ := word_read hy
    exact ⟨l, h1, word_ok l, h2⟩) h
theorem rtl_read (h : DataW.trod enc Tryd.prog w base spare held n 26 cs = some x) : ∃ r : GRtl, Fits r ∧ R (Ghost.all w) (rtlAV r) (.agg cs.toArray) := by
  obtain ⟨xs, m, rfl, _, hl, hx, hf⟩ := DataW.trod_struct Tryd.underlying26 h
  rw [c26] at hl
  rcases cs with _ | ⟨a, _ | ⟨b, _ | ⟨c, _ | ⟨d, _ | ⟨e, l⟩⟩⟩⟩⟩ <;> simp at hl
  obtain ⟨y0, f0⟩ := fld hf hx 0 rfl rfl rfl c22 (l := [a]) rfl
  obtain ⟨y1, f1⟩ := fld hf hx 1 rfl rfl rfl c23 (l := [b]) rfl
  obtain ⟨y2, f2⟩ := fld hf hx 2 rfl rfl rfl c24 (l := [c]) rfl
  obtain ⟨y3, f3⟩ := fld hf hx 3 rfl rfl rfl c22 (l := [d]) rfl
  obtain ⟨q0, ⟨v0, e0, r0⟩, g0, n0⟩ := lanes_read f0
  obtain ⟨q1, ⟨v1, e1, r1⟩, g1, n1⟩ := holds_read f1
  obtain ⟨q2, ⟨v2, e2, r2⟩, g2, n2⟩ := words_read f2
  obtain ⟨q3, ⟨v3, e3, r3⟩, g3, n3⟩ := lanes_read f3
  simp only [List.cons.injEq, and_true] at e0 e1 e2 e3
  subst e0; subst e1; subst e2; subst e3
  have hm := maxLen_lt
  refine ⟨⟨q0, q1, q2, q3⟩, ⟨Nat.lt_of_le_of_lt n0 hm, Nat.lt_of_le_of_lt n1 hm, Nat.lt_of_le_of_lt n2 hm, Nat.lt_of_le_of_lt n3 hm, fun x hx => Nat.lt_of_le_of_lt (g0 x hx) hm, fun x hx => Nat.lt_of_le_of_lt (g3 x hx) hm, fun x hx => Nat.lt_of_le_of_lt (g1 x hx).1 hm, fun x hx => Nat.lt_of_le_of_lt (g1 x hx).2 hm, fun x hx => Nat.lt_of_le_of_lt (g2 x hx).1 hm, fun x hx => Nat.lt_of_le_of_lt (g2 x hx).2 hm⟩, ?_⟩
  simp only [rtlAV, R]
  exact ⟨_, rfl, RL.cons r0 (RL.cons r1 (RL.cons r2 (RL.cons r3 (RL.nil _))))⟩
end
end Go.RtlEnv
