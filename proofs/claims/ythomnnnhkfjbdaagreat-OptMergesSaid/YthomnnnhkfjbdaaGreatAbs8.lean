/- Own text of this claim: part 8 of an interpreter that is proved sound against the model, and of what it shows of the law. -/
import Derived.ChangeArms
import Derived.SizedLaws
import Derived.Laws.Strings
import Derived.Test.YthomnnnhkfjbdaaGreatAbs7
import Derived.Test.YthomnnnhkfjbdaaGreatAbs6
namespace Go.Abs

def quietS (E : Env) (l : List (Nat × AV)) (op : Op) : Option AV :=
  match op with
  | .move x => evL l x
  | .assign x => evL l x
  | .pick c a b =>
    match evL l c with
    | some (.bool true) => evL l a
    | some (.bool false) => evL l b
    | _ => none
  | .load t a =>
    match evL l a with
    | some (.ip cs) => partA E t cs 0
    | _ => none
  | .binOp op t x y _ =>
    match evL l x, evL l y with
    | some a, some b => binA E op t x y a b
    | _, _ => none
  | .unOp op _ x =>
    match evL l x with
    | some a => unA op a
    | none => none
  | .convert s t x =>
    match evL l x with
    | some a => convertA E s t a
    | none => none
  | .makeFunc (.func f) first cap =>
    match evLs l first.toList, evLs l cap.toList with
    | some a, some b => some (.fn f a b)
    | _, _ => none
  | .fieldAddr s x f =>
    match evL l x with
    | some a => fieldAddrA E s a f
    | none => none
  | .field s x f =>
    match evL l x with
    | some a => fieldA E s a f
    | none => none
  | .extract x j =>
    match evL l x with
    | some (.tup xs) => xs[j]?
    | _ => none
  | .build t ps =>
    match evPs l ps.toList with
    | some vs => buildA E t vs
    | none => none
  | .buildSlice t n ps =>
    match evPs l ps.toList with
    | some vs => buildSliceA E t n vs
    | none => none
  | _ => none
section
variable {E : Env} {N : Nat} {l : List (Nat × AV)} {L : List (Nat × AObj)} {K : List (Nat × Bool)} {Q : AExit → TM → St → Prop}
variable {c : Bool} {pol : Nat → Nat} {ops : Array Oper} {r : List Oper} {i : Nat}
variable {d : Nat} {op : Op} {ty : TypeId} {pos : String} {after : Array Edge} {guard : Option (Nat × Bool)}
theorem OD.auto {v : AV} (hn : Nat.blt d N = true) (h : quietS E l op = some v) (k : OS E c pol ops r (i + 1) N ((d, v) :: l) L K Q) : OD E c pol ops { dst := some d, op := op, type := ty, pos := pos, after := after, guard := guard } r i N l L K Q := by
  cases op with
  | move x => exact .move hn h k
  | assign x => exact .assign hn h k
  | pick x y z =>
    simp only [quietS] at h
    split at h
    · rename_i hx; exact .pickT hn hx h k
    · rename_i hx; exact .pickF hn hx h k
    · cases h
  | load t a =>
    simp only [quietS] at h
    split at h
    · rename_i hx; exact .load hn hx h k
    · cases h
  | binOp op t x y t2 =>
    simp only [quietS] at h
    split at h
    · rename_i hx hy; exact .bin hn hx hy h k
    · cases h
  | unOp op t x =>
    simp only [quietS] at h
    split at h
    · rename_i hx; exact .un hn hx h k
    · cases h
  | convert s t x =>
    simp only [quietS] at h
    split at h
    · rename_i hx; exact .convert hn hx h k
    · cases h
  | makeFunc f first cap =>
    cases f with
    | func f =>
      simp only [quietS] at h
      split at h
      · rename_i hx hy; cases h; exact .makeFunc hn hx hy k
      · cases h
    | _ => simp [quietS] at h
  | fieldAddr s x f =>
    simp only [quietS] at h
    split at h
    · rename_i hx; exact .fieldAddr hn hx h k
    · cases h
  | field s x f =>
    simp only [quietS] at h
    split at h
    · rename_i hx; exact .field hn hx h k
    · cases h
  | extract x j =>
    simp only [quietS] at h
    split at h
    · rename_i hx; exact .extract hn hx h k
    · cases h
  | build t ps =>
    simp only [quietS] at h
    split at h
    · rename_i hx; exact .build hn hx h k
    · cases h
  | buildSlice t n ps =>
    simp only [quietS] at h
    split at h
    · rename_i hx; exact .buildSlice hn hx h k
    · cases h
  | _ => simp [quietS] at h
end
end Go.Abs
namespace Go.Abs
theorem accA_nil (t sz : Nat) : accA t sz [] = .nilsl := rfl
end Go.Abs
namespace Go.Abs
theorem indexAddrA_accm {E : Env} {α : Type} {f : α → AV} {sz : Nat} {t e : TypeId} {y ey : Ty} {kd : IntKind} {tk : Nat} {xs : List α} {k : Int} {a : α} (h1 : E.ty t = some y) (h2 : y.d = .slice e) (h3 : E.ty e = some ey) (h4 : ey.size = sz) (h0 : 0 ≤ k) (ha : xs[k.toNat]? = some a) :
    indexAddrA E t (accA tk sz (xs.map f)) (.int kd k) = some (.ip (f a).cells) :=
  indexAddrA_acc h1 h2 h3 h4 h0 (by rw [List.getElem?_map, ha]; rfl)
end Go.Abs

namespace Go.Abs
section
variable {E : Env} {N : Nat} {l : List (Nat × AV)} {L : List (Nat × AObj)} {K : List (Nat × Bool)} {Q : AExit → TM → St → Prop}
variable {pol : Nat → Nat} {ops : Array Oper} {r : List Oper} {i : Nat}
variable {d : Nat} {ty : TypeId} {pos : String} {after : Array Edge} {guard : Option (Nat × Bool)}
theorem OD.callP {f : Operand} {args : Array Operand} {argTypes : Array TypeId} {g : FuncId} {first cap vs : List AV} (p : AV → Prop) (hn : Nat.blt d N = true) (hf : evL l f = some (.fn g first cap)) (ha : evLs l args.toList = some vs)
    (hr : ∀ st, SFa L K st → CW E g (first ++ vs ++ cap) st fun x st' => p x ∧ SFa L K st') (hz : ∀ v st, p v → freezeA st v = some (v, st))
    (k : ∀ v, p v → OS E false pol ops r (i + 1) N ((d, v) :: l) L K Q) : OD E false pol ops { dst := some d, op := .call { callee := .value f, args := args, argTypes := argTypes }, type := ty, pos := pos, after := after, guard := guard } r i N l L K Q := by
  intro pre tm st hF hp' hw
  obtain ⟨n1, x, st', hc, hx, hS⟩ := hr st hF.s
  obtain ⟨n, tr, tm1, st1, h1, _, h2⟩ := k x hx pre (tm.put d x) st' ((hF.withS hS).put hn x) hp'
  refine ⟨Nat.max n n1, ⟨tm, st, st', x, true⟩ :: tr, tm1, st1, ?_, (fun hc => by cases hc), h2⟩
  have hl : Abs.loud E (callF E (Nat.max n n1)) (pol i) tm st { dst := some d, op := .call { callee := .value f, args := args, argTypes := argTypes }, type := ty, pos := pos, after := after, guard := guard } = some (x, st') := by
    have : Abs.loud E (callF E (Nat.max n n1)) (pol i) tm st { dst := some d, op := .call { callee := .value f, args := args, argTypes := argTypes }, type := ty, pos := pos, after := after, guard := guard } = (match evalO tm f with | .fn g first cap => callF E (Nat.max n n1) g (first ++ args.toList.map (evalO tm) ++ cap) st | _ => none) := rfl
    rw [this, hF.ev hf, hF.evs ha]
    exact callF_mono n1 (Nat.max n n1) (Nat.le_max_right _ _) _ _ _ _ hc
  have hst : stepPre E (callF E (Nat.max n n1)) pre (pol i) i tm st { dst := some d, op := .call { callee := .value f, args := args, argTypes := argTypes }, type := ty, pos := pos, after := after, guard := guard } = some (x, st') := by
    simp only [stepPre, stepOp, isLoud, if_true, hl, isFnCall, Bool.and_true, decide_eq_true_eq]
    split
    · exact hz x st' hx
    · rfl
  simp only [runOpsT]
  rw [hw]
  dsimp only
  rw [hst]
  dsimp only [putO]
  rw [runOpsT_mono (callF_mono n (Nat.max n n1) (Nat.le_max_left _ _)) _ _ _ _ h1]
end
theorem indexAddrA_accn {E : Env} {α : Type} {f : α → AV} {sz : Nat} {t e : TypeId} {y ey : Ty} {kd : IntKind} {tk : Nat} {xs : List α} {k : Nat} {a : α} (h1 : E.ty t = some y) (h2 : y.d = .slice e) (h3 : E.ty e = some ey) (h4 : ey.size = sz) (ha : xs[k]? = some a) :
    indexAddrA E t (accA tk sz (xs.map f)) (.int kd (k : Int)) = some (.ip (f a).cells) :=
  indexAddrA_accm h1 h2 h3 h4 (by omega) (by simpa using ha)
theorem lenTy_accm {E : Env} {α : Type} {f : α → AV} {sz : Nat} {t e : TypeId} {y : Ty} {st : St} {tk : Nat} {xs : List α} (h1 : E.ty t = some y) (h2 : y.d = .slice e) : lenTy E st t (accA tk sz (xs.map f)) = some (.int .i64 (xs.length : Int)) := by
  rw [lenTy_acc h1 h2, List.length_map]
end Go.Abs

namespace Go.Abs
open Go.RowKit
section
variable {H : Type} {enc : TypeId × Value → H} {P : Program} {w : World} {base : Nat} {spare : Nat → Bool} {held : Bool} {fuel n : Nat} {t e : TypeId} {cs : List Value} {x : DataW H × List MemPlace} {Γ : Ghost}
theorem cells_some {b o k sz : Nat} {l : List Value} (h : w.cells? base ((⟨b, o, none⟩ : Addr).add k) sz = some l) : l.length = sz ∧ ∀ (j : Nat) (v : Value), l[j]? = some v → w.cell? ⟨b, o + k + j, none⟩ = some v := by
  unfold World.cells? at h
  split at h
  · have hl := mapM_some_length h
    simp only [List.length_range] at hl
    refine ⟨hl, fun j v hj => ?_⟩
    have hlt : j < sz := by have := (List.getElem?_eq_some_iff.1 hj).1; omega
    have := mapM_some_get h j j (by simp [hlt])
    rw [hj, add_mk, add_mk] at this
    exact this
  · cases h
theorem cells_spot {a : Addr} {sz : Nat} {l : List Value} (hz : 0 < sz) (h : w.cells? base (a.add 0) sz = some l) : a.spot = none := by
  unfold World.cells? at h
  split at h
  · have hl := mapM_some_length h
    simp only [List.length_range] at hl
    have := mapM_some_get h 0 0 (by simp [hz])
    rw [List.getElem?_eq_getElem (by omega)] at this
    have h0 : (a.add 0).add 0 = a := by simp [Addr.add]
    rw [h0] at this
    unfold World.cell? at this
    split at this
    · split at this
      · cases this
      · rename_i hs; cases hsp : a.spot with
        | none => rfl
        | some s => rw [hsp] at hs; simp at hs
    · cases this
  · cases h
end
end Go.Abs

namespace Go.Abs
section
variable {α : Type} {E : Env} {t e : TypeId} {y ey : Ty} {kd : IntKind} {sz : Nat} {f : α → AV}
end
end Go.Abs

namespace Go.Abs
open Go.RowKit
section
variable {P : Program}
theorem pure_calls2 {E : Env} (hE : EnvOk P E) (hp : ∀ B w0, PrimOk P E B w0) {f : FuncId} {n : Nat} {args : List AV} {x r : AV} {st1 st2 : St} (hf : AV.freeL args = true) (hz : freezeA st1 x = some (r, st2)) (hr : AV.free r = true)
    (h : callF E n f (AV.plainL args) St.empty = some (x, st1)) {B : Nat} {w0 : World} {Γ : Ghost} {st : St} {w : World} {vargs : Array Value} (hI : Inv B w0 Γ st w) (hargs : RL Γ args vargs.toList) :
    Calls P f vargs w fun e w' => ∃ v Γ', e = .returned v ∧ Out B w0 Γ st Γ' st w' ∧ R Γ' (AV.plain r) v := by
  refine ((callF_sound hE (hp w.heap.size w) n f _ St.empty x st1 h).2 _ w vargs hI.inner (RL.plain (Γ := Γ) (Δ := ⟨Γ.inert, fun _ => none, fun _ => none, fun _ => none, fun _ => none, Γ.inert⟩) (fun _ _ _ k => k) args _ hf hargs)).mono ?_
  rintro e w' ⟨v, Γ1, he, out, hv⟩
  obtain ⟨Γ2, out2, hv2⟩ := freeze_sound out.inv hz hv
  refine ⟨v, _, he, hI.back out2.inv, R.plain (fun b o u k => ?_) r v hr hv2⟩
  simp only [Ghost.back]
  split
  · rename_i hlt
    have := out2.inv.old b o u hlt k
    rw [out2.le.old, out.le.old] at this
    exact this
  · exact k
structure Con2 (E : Env) (f : FuncId) (Rel : List AV → AV → Prop) : Prop where
  free : ∀ a r, Rel a r → AV.freeL a = true
  run : ∀ a r, Rel a r → CW E f a St.empty fun x st => ∃ r' st', freezeA st x = some (r', st') ∧ AV.plain r' = r ∧ AV.free r' = true
theorem Con2.uniq {E : Env} {f : FuncId} {Rel : List AV → AV → Prop} (h : Con2 E f Rel) (a : List AV) (r r' : AV) (h1 : Rel a r) (h2 : Rel a r') : r = r' := by
  obtain ⟨n, x, st, e1, q1, _, z1, e2, _⟩ := h.run a r h1
  obtain ⟨m, y, st', e3, q2, _, z2, e4, _⟩ := h.run a r' h2
  have e5 := callF_mono n (Nat.max n m) (Nat.le_max_left _ _) _ _ _ _ e1
  have e6 := callF_mono m (Nat.max n m) (Nat.le_max_right _ _) _ _ _ _ e3
  rw [e5] at e6
  cases e6
  rw [z1] at z2
  cases z2
  rw [← e2, ← e4]
theorem Con2.does {E : Env} {f : FuncId} {Rel : List AV → AV → Prop} (h : Con2 E f Rel) (hE : EnvOk P E) (hp : ∀ B w0, PrimOk P E B w0) (hent : ∀ (w : World) (vargs : Array Value), (callFunc f vargs).run P w = .ok (.enter f vargs) w) (B : Nat) (w0 : World) : PrimDoes P B w0 f (primOf Rel) := by
  intro args st r st' hg
  refine ⟨hent, fun Γ w vargs hI hargs => ?_⟩
  unfold primOf at hg
  split at hg
  · rename_i hx
    simp only [Option.some.injEq, Prod.mk.injEq] at hg
    obtain ⟨hr, hst⟩ := hg
    subst hst
    have hs := hx.choose_spec
    rw [hr] at hs
    obtain ⟨n, x, st1, h1, r', st2, hz, h2, h3⟩ := h.run _ _ hs
    have hfree : AV.freeL args = true := by rw [← freeL_plainL]; exact h.free _ _ hs
    refine (pure_calls2 hE hp hfree hz h3 h1 hI hargs).mono ?_
    rintro e w' ⟨v, Γ', he, out, hv⟩
    exact ⟨v, Γ', he, out, by rw [← h2]; exact hv⟩
  · split at hg
    · rename_i hx
      simp only [Option.some.injEq, Prod.mk.injEq] at hg
      obtain ⟨hr, hst⟩ := hg
      subst hst
      obtain ⟨⟨a, hv, hs⟩, hsc⟩ := hx.choose_spec
      rw [hr] at hs hsc
      obtain ⟨n, x, st1, h1, r', st2, hz, h2, h3⟩ := h.run _ _ hs
      exact view_calls2 hE hp hv h1 hz h2 h3 hsc hI hargs
    · cases hg
end
section
variable {E : Env} {N : Nat} {l : List (Nat × AV)} {L : List (Nat × AObj)} {K : List (Nat × Bool)} {Q : AExit → TM → St → Prop}
variable {pol : Nat → Nat} {ops : Array Oper} {r : List Oper} {i : Nat} {c : Bool}
variable {d : Nat} {ty : TypeId} {pos : String} {after : Array Edge} {guard : Option (Nat × Bool)}
theorem OD.makeSlice {t e : TypeId} {x y : Operand} {ty1 et : Ty} {n : Nat} (hn : Nat.blt d N = true) (hx : evL l x = some (.int .i64 (n : Int))) (hy : evL l y = some (.int .i64 (n : Int))) (hc : isConstO x = false) (ht : E.ty t = some ty1) (hd : ty1.d = .slice e) (he : E.ty e = some et) (hs : Nat.blt 0 et.size = true) (hroom : roomA et n = true)
    (k : ∀ b, OS E false pol ops r (i + 1) N ((d, .sl et.size b 0 n) :: l) ((b, .row et.size (List.replicate n et.zeroV)) :: L) K Q) :
    OD E false pol ops { dst := some d, op := .makeSlice t x y, type := ty, pos := pos, after := after, guard := guard } r i N l L K Q := by
  refine .loud rfl rfl (fun _ h => by cases h) fun tm st hF => ⟨.sl et.size st.next 0 n, st.new (.row et.size (List.replicate n et.zeroV)), _, _, _, ?_, (hF.new _).put hn _, k st.next⟩
  show makeSliceA E st (isConstO x) t (evalO tm x) (evalO tm y) = _
  unfold makeSliceA
  rw [ht, hF.ev hx, hF.ev hy, hc]
  dsimp only
  rw [hd]
  dsimp only
  rw [he]
  dsimp only
  rw [if_pos ⟨Eq.mp Nat.blt_eq hs, by omega, by omega, by simpa using hroom⟩]
  simp
theorem indexAddrA_sl {t e : TypeId} {y ey : Ty} {kd : IntKind} {sz b len k : Nat} (h1 : E.ty t = some y) (h2 : y.d = .slice e) (h3 : E.ty e = some ey) (h4 : ey.size = sz) (h : k < len) : indexAddrA E t (.sl sz b 0 len) (.int kd (k : Int)) = some (.ptr b k 0) := by
  unfold indexAddrA
  rw [h1]
  dsimp only
  rw [h2]
  dsimp only
  rw [h3]
  dsimp only
  simp only [elemAddrA]
  rw [if_pos ⟨h4, by omega, by omega⟩]
  simp
theorem OD.storeI (kk : Nat) {t : TypeId} {x z : Operand} {y : Ty} {b sz j : Nat} {xs : List AV} {ka kb : IntKind} {m v : Int} (hx : evL l x = some (.ptr b j 0)) (hz : evL l z = some (.int kb v)) (ht : E.ty t = some y) (h1 : y.size = 1) (hL : L[kk]? = some (b, .row sz xs)) (hj : xs[j]? = some (.int ka m))
    (k : OS E false pol ops r (i + 1) N l (L.set kk (b, .row sz (xs.set j (.int kb v)))) K Q) :
    OD E false pol ops { dst := none, op := .store t x z, type := ty, pos := pos, after := after, guard := guard } r i N l L K Q := by
  refine .loud rfl rfl (fun _ h => by cases h) fun tm st hF => ⟨.junk, st.put b (.row sz (xs.set j (.int kb v))), _, _, _, ?_, hF.set hL _, k⟩
  have : Abs.loud E noCall (pol i) tm st { dst := none, op := .store t x z, type := ty, pos := pos, after := after, guard := guard } = (match E.ty t with | some ty => if (evalO tm z).cells.length = ty.size then (storeA st (evalO tm x) (evalO tm z)).map fun s => (.junk, s) else none | none => none) := rfl
  rw [this, ht, hF.ev hx, hF.ev hz]
  dsimp only
  rw [if_pos (by rw [h1]; rfl)]
  simp [storeA, (hF.obj kk b _ hL).1, hj, AV.ok, AV.cellOk, AV.cells]
end
end Go.Abs

namespace Go.Abs
open Go.RowKit
def tabFind : List (List AV × AV) → List AV → Option AV
  | [], _ => none
  | (b, r) :: t, a => bif AV.beqL a b then some r else tabFind t a
theorem tabFind_mem : ∀ {tab : List (List AV × AV)} {a : List AV} {r : AV}, tabFind tab a = some r → (a, r) ∈ tab
  | [], _, _, h => by simp [tabFind] at h
  | (b, q) :: t, a, r, h => by
    simp only [tabFind] at h
    cases hb : AV.beqL a b with
    | true =>
      rw [hb] at h
      simp only [cond_true, Option.some.injEq] at h
      rw [AV.eqL_of_beq a b hb, h]
      exact List.mem_cons_self
    | false =>
      rw [hb] at h
      exact List.mem_cons_of_mem _ (tabFind_mem h)
def tabPrim (tab : List (List AV × AV)) (args : List AV) (st : St) : Option (AV × St) :=
  match tabFind tab (AV.plainL args) with
  | some r => some (r, st)
  | none => none
def runIs (E : Env) (n : Nat) (f : FuncId) (a : List AV) (r : AV) : Bool :=
  AV.freeL a && match callF E n f a St.empty with
    | some (x, st) => match freezeA st x with
      | some (y, _) => AV.free y && AV.beq (AV.plain y) r
      | none => false
    | none => false
theorem runIs_spec {E : Env} {n : Nat} {f : FuncId} {a : List AV} {r : AV} (h : runIs E n f a r = true) : AV.freeL a = true ∧ ∃ x st y st', callF E n f a St.empty = some (x, st) ∧ freezeA st x = some (y, st') ∧ AV.free y = true ∧ AV.plain y = r := by
  unfold runIs at h
  rw [Bool.and_eq_true] at h
  refine ⟨h.1, ?_⟩
  have h2 := h.2
  split at h2
  · rename_i x st hc
    split at h2
    · rename_i y st' hz
      rw [Bool.and_eq_true] at h2
      exact ⟨x, st, y, st', hc, hz, h2.1, AV.eq_of_beq _ _ h2.2⟩
    · cases h2
  · cases h2
def TabOk (E : Env) (f : FuncId) (tab : List (List AV × AV)) : Prop := ∀ e ∈ tab, ∃ n, runIs E n f e.1 e.2 = true
theorem TabOk.nil {E : Env} {f : FuncId} : TabOk E f [] := fun e h => by simp at h
theorem TabOk.cons {E : Env} {f : FuncId} {a : List AV} {r : AV} {tab : List (List AV × AV)} (n : Nat) (h : runIs E n f a r = true) (k : TabOk E f tab) : TabOk E f ((a, r) :: tab) := by
  intro e he
  rcases List.mem_cons.1 he with rfl | he
  · exact ⟨n, h⟩
  · exact k e he
section
variable {P : Program}
theorem TabOk.does {E : Env} {f : FuncId} {tab : List (List AV × AV)} (h : TabOk E f tab) (hE : EnvOk P E) (hp : ∀ B w0, PrimOk P E B w0) (hent : ∀ (w : World) (vargs : Array Value), (callFunc f vargs).run P w = .ok (.enter f vargs) w) (B : Nat) (w0 : World) : PrimDoes P B w0 f (tabPrim tab) := by
  intro args st r st' hg
  refine ⟨hent, fun Γ w vargs hI hargs => ?_⟩
  unfold tabPrim at hg
  split at hg
  · rename_i q hq
    simp only [Option.some.injEq, Prod.mk.injEq] at hg
    obtain ⟨hr, hst⟩ := hg
    subst hst; subst hr
    obtain ⟨n, hn⟩ := h _ (tabFind_mem hq)
    obtain ⟨hf, x, st1, y, st2, hc, hz, hy, hpl⟩ := runIs_spec hn
    rw [freeL_plainL] at hf
    refine (pure_calls2 hE hp hf hz hy hc hI hargs).mono ?_
    rintro e w' ⟨v, Γ', he, out, hv⟩
    have hq' : AV.plain y = q := hpl
    exact ⟨v, Γ', he, out, by rw [← hq']; exact hv⟩
  · cases hg
end
end Go.Abs

namespace Go.Abs
section
variable {E : Env} {fid N : Nat} {l : List (Nat × AV)} {L : List (Nat × AObj)} {K : List (Nat × Bool)} {Q : AExit → TM → St → Prop}
variable {c : Bool} {pol : Nat → Nat} {ops : Array Oper} {r : List Oper} {i : Nat}
variable {d : Nat} {ty : TypeId} {pos : String} {after : Array Edge} {guard : Option (Nat × Bool)}

theorem Fa.withS2 {L' : List (Nat × AObj)} {K' : List (Nat × Bool)} {tm : TM} {st st' : St} (h : Fa N l L K tm st) (hs : SFa L' K' st') : Fa N l L' K' tm st' := ⟨h.n, h.get, hs.obj, hs.uniq, hs.tok, hs.uniqT⟩
theorem SFa.swap {st : St} (h : SFa L K st) {kk b : Nat} {o : AObj} (hk : L[kk]? = some (b, o)) (o' : AObj) : SFa (L.set kk (st.next, o')) K ((st.drop b).new o') := by
  have hl := (List.getElem?_eq_some_iff.1 hk).1
  have hget : ∀ j, ((st.drop b).new o').get j = if st.next = j then some o' else if b = j then none else st.get j := by
    intro j; rw [St.get_new, St.next_drop, St.get_drop]
  have hnext : ((st.drop b).new o').next = st.next + 1 := by simp
  refine ⟨fun k b1 o1 h1 => ?_, fun k1 k2 b1 o1 o2 h1 h2 => ?_, fun k t hk => ⟨by simpa using (h.tok k t hk).1, by rw [hnext]; have := (h.tok k t hk).2; omega⟩, h.uniqT⟩
  · rw [List.getElem?_set] at h1
    rw [hnext, hget]
    by_cases e : kk = k
    · subst e
      rw [if_pos rfl, if_pos hl] at h1
      simp only [Option.some.injEq, Prod.mk.injEq] at h1
      obtain ⟨rfl, rfl⟩ := h1
      exact ⟨by rw [if_pos rfl], by omega⟩
    · rw [if_neg e] at h1
      have h2 := h.obj k b1 o1 h1
      refine ⟨?_, by omega⟩
      rw [if_neg (by omega), if_neg]
      · exact h2.1
      · rintro rfl
        exact e (h.uniq kk k b _ _ hk h1)
  · rw [List.getElem?_set] at h1 h2
    by_cases e1 : kk = k1
    · by_cases e2 : kk = k2
      · omega
      · rw [if_pos e1, if_pos hl] at h1
        rw [if_neg e2] at h2
        simp only [Option.some.injEq, Prod.mk.injEq] at h1
        have := (h.obj k2 b1 o2 h2).2
        omega
    · by_cases e2 : kk = k2
      · rw [if_neg e1] at h1
        rw [if_pos e2, if_pos hl] at h2
        simp only [Option.some.injEq, Prod.mk.injEq] at h2
        have := (h.obj k1 b1 o1 h1).2
        omega
      · rw [if_neg e1] at h1
        rw [if_neg e2] at h2
        exact h.uniq _ _ _ _ _ h1 h2
theorem SFa.freeze {st : St} {b : Nat} {o : AObj} (h : SFa ((b, o) :: L) K st) : SFa L K (st.drop b).newTok := by
  refine ⟨fun k b1 o1 h1 => ?_, fun k1 k2 b1 o1 o2 h1 h2 => ?_, fun k t hk => ?_, fun k1 k2 t h1 h2 => h.uniqT k1 k2 t h1 h2⟩
  · have h2 := h.obj (k + 1) b1 o1 h1
    refine ⟨?_, by simp; omega⟩
    have hne : b ≠ b1 := by
      rintro rfl
      have := h.uniq 0 (k + 1) b o o1 rfl h1
      omega
    simp [hne, h2.1]
  · have := h.uniq (k1 + 1) (k2 + 1) b1 o1 o2 h1 h2
    omega
  · have h2 := h.tok k t hk
    exact ⟨by simp [h2.1], by simp; omega⟩
theorem SFa.tail {st : St} {p : Nat × AObj} (h : SFa (p :: L) K st) : SFa L K st :=
  ⟨fun k b o hk => h.obj (k + 1) b o hk, fun k k' b o o' h1 h2 => by have := h.uniq (k + 1) (k' + 1) b o o' h1 h2; omega, h.tok, h.uniqT⟩

end
end Go.Abs

namespace Go.Abs
section
variable {E : Env} {fid N : Nat} {l : List (Nat × AV)} {L : List (Nat × AObj)} {K : List (Nat × Bool)} {Q : AExit → TM → St → Prop}
variable {c : Bool} {pol : Nat → Nat} {ops : Array Oper} {r : List Oper} {i : Nat}
variable {d : Nat} {ty : TypeId} {pos : String} {after : Array Edge} {guard : Option (Nat × Bool)}

theorem quietS_sound {op : Op} {v : AV} (h : quietS E l op = some v) {tm : TM} {st : St} (hF : Fa N l L K tm st) : quiet E tm st { dst := some d, op := op, type := ty, pos := pos, after := after, guard := guard } = some v := by
  cases op with
  | move x =>
    show some (evalO tm x) = some v
    rw [hF.ev h]
  | assign x =>
    show some (evalO tm x) = some v
    rw [hF.ev h]
  | load t a =>
    simp only [quietS] at h
    split at h
    · rename_i hx
      have : Abs.quiet E tm st { dst := some d, op := .load t a, type := ty, pos := pos, after := after, guard := guard } = (match loadCells st (evalO tm a) with | none => none | some cs => partA E t cs 0) := rfl
      rw [this, hF.ev hx]; exact h
    · cases h
  | binOp op t x y t2 =>
    simp only [quietS] at h
    split at h
    · rename_i hx hy
      show binA E op t x y (evalO tm x) (evalO tm y) = some v
      rw [hF.ev hx, hF.ev hy]; exact h
    · cases h
  | fieldAddr s x f =>
    simp only [quietS] at h
    split at h
    · rename_i hx
      show fieldAddrA E s (evalO tm x) f = some v
      rw [hF.ev hx]; exact h
    · cases h
  | pick x y z =>
    simp only [quietS] at h
    have e : Abs.quiet E tm st { dst := some d, op := .pick x y z, type := ty, pos := pos, after := after, guard := guard } = (match evalO tm x with | .bool t => some (if t then evalO tm y else evalO tm z) | _ => none) := rfl
    split at h
    · rename_i hx; rw [e, hF.ev hx, ← hF.ev h]; rfl
    · rename_i hx; rw [e, hF.ev hx, ← hF.ev h]; rfl
    · cases h
  | unOp op t x =>
    simp only [quietS] at h
    split at h
    · rename_i hx
      show unA op (evalO tm x) = some v
      rw [hF.ev hx]; exact h
    · cases h
  | convert s t x =>
    simp only [quietS] at h
    split at h
    · rename_i hx
      show convertA E s t (evalO tm x) = some v
      rw [hF.ev hx]; exact h
    · cases h
  | makeFunc f first cap =>
    cases f with
    | func f =>
      simp only [quietS] at h
      split at h
      · rename_i hx hy
        cases h
        show some (AV.fn f (first.toList.map (evalO tm)) (cap.toList.map (evalO tm))) = _
        rw [hF.evs hx, hF.evs hy]
      · cases h
    | _ => simp [quietS] at h
  | field s x f =>
    simp only [quietS] at h
    split at h
    · rename_i hx
      show fieldA E s (evalO tm x) f = some v
      rw [hF.ev hx]; exact h
    · cases h
  | extract x j =>
    simp only [quietS] at h
    split at h
    · rename_i hx
      have : Abs.quiet E tm st { dst := some d, op := .extract x j, type := ty, pos := pos, after := after, guard := guard } = (match evalO tm x with | .tup xs => xs[j]? | _ => none) := rfl
      rw [this, hF.ev hx]; exact h
    · cases h
  | build t ps =>
    simp only [quietS] at h
    split at h
    · rename_i hx
      show buildA E t (ps.toList.map fun (p : Nat × Operand) => (p.1, evalO tm p.2)) = some v
      rw [hF.evps hx]; exact h
    · cases h
  | buildSlice t n ps =>
    simp only [quietS] at h
    split at h
    · rename_i hx
      show buildSliceA E t n (ps.toList.map fun (p : Nat × Operand) => (p.1, evalO tm p.2)) = some v
      rw [hF.evps hx]; exact h
    · cases h
  | _ => simp [quietS] at h
theorem quiet_loadP (kk : Nat) {t : TypeId} {x : Operand} {b j off sz : Nat} {xs : List AV} {e v : AV} (hx : evL l x = some (.ptr b j off)) (hL : L[kk]? = some (b, .row sz xs)) (he : xs[j]? = some e) (ho : Nat.ble off e.cells.length = true)
    (hp : partA E t (e.cells.drop off) 0 = some v) {tm : TM} {st : St} (hF : Fa N l L K tm st) : quiet E tm st { dst := some d, op := .load t x, type := ty, pos := pos, after := after, guard := guard } = some v := by
  have : Abs.quiet E tm st { dst := some d, op := .load t x, type := ty, pos := pos, after := after, guard := guard } = (match loadCells st (evalO tm x) with | none => none | some cs => partA E t cs 0) := rfl
  rw [this, hF.ev hx]
  simp only [loadCells, (hF.obj kk b _ hL).1, he]
  rw [if_pos (Nat.le_of_ble_eq_true ho)]
  exact hp
theorem quiet_indexAddr {t : TypeId} {x y : Operand} {a b v : AV} (hx : evL l x = some a) (hy : evL l y = some b) (h : indexAddrA E t a b = some v) {tm : TM} {st : St} (hF : Fa N l L K tm st) :
    quiet E tm st { dst := some d, op := .indexAddr t x y, type := ty, pos := pos, after := after, guard := guard } = some v := by
  show indexAddrA E t (evalO tm x) (evalO tm y) = some v
  rw [hF.ev hx, hF.ev hy]; exact h
theorem runOpsT_append {call : Call1} {pre : Pre} : ∀ (a b : List Oper) (i : Nat) (tm : TM) (st : St) {tr : List Tr} {tm1 tm2 : TM} {st1 st2 : St} {tr2 : List Tr}, runOpsT E call pre pol ops a i tm st = some (tr, tm1, st1) → runOpsT E call pre pol ops b (i + a.length) tm1 st1 = some (tr2, tm2, st2) →
    runOpsT E call pre pol ops (a ++ b) i tm st = some (tr ++ tr2, tm2, st2)
  | [], b, i, tm, st, tr, tm1, tm2, st1, st2, tr2, h1, h2 => by
    simp only [runOpsT, Option.some.injEq, Prod.mk.injEq] at h1
    obtain ⟨rfl, rfl, rfl⟩ := h1
    exact h2
  | o :: a, b, i, tm, st, tr, tm1, tm2, st1, st2, tr2, h1, h2 => by
    have hi : i + (o :: a).length = i + 1 + a.length := by simp; omega
    rw [hi] at h2
    simp only [runOpsT] at h1
    simp only [List.cons_append, runOpsT]
    split at h1
    · rename_i hw
      split at h1
      · rename_i v st' hs
        split at h1
        · rename_i l' q hq
          simp only [Option.some.injEq, Prod.mk.injEq] at h1
          obtain ⟨rfl, rfl⟩ := h1
          rw [runOpsT_append a b (i + 1) _ _ hq h2]
          rfl
        · cases h1
      · cases h1
    · rename_i hw
      split at h1
      · rename_i l' q hq
        simp only [Option.some.injEq, Prod.mk.injEq] at h1
        obtain ⟨rfl, rfl⟩ := h1
        rw [runOpsT_append a b (i + 1) _ _ hq h2]
        rfl
      · cases h1
    · cases h1
theorem runOpsT_len {call : Call1} {pre : Pre} {a : List Oper} {i : Nat} {tm : TM} {st : St} {tr : List Tr} {q : TM × St} (h : runOpsT E call pre pol ops a i tm st = some (tr, q)) : tr.length = a.length := (runOps_of_T a i tm st h).2
end
end Go.Abs

namespace Go.Abs
section
variable {E : Env} {fid N : Nat} {l : List (Nat × AV)} {L : List (Nat × AObj)} {K : List (Nat × Bool)} {Q : AExit → TM → St → Prop}
variable {c : Bool} {pol : Nat → Nat} {ops : Array Oper} {r : List Oper} {i : Nat} {o : Oper}
variable {d : Nat} {op : Op} {ty : TypeId} {pos : String} {after : Array Edge}
end
end Go.Abs

namespace Go.Abs
open Go.RowKit
section
variable {H : Type} {enc : TypeId × Value → H} {P : Program} {w : World} {base : Nat} {spare : Nat → Bool} {held : Bool} {fuel n : Nat} {t e : TypeId} {cs : List Value} {x : DataW H × List MemPlace} {Γ : Ghost}
theorem weigh_field {fs : Array Field} {xs : List (DataW H × List MemPlace)} (ht : P.underlying t = some (.struct fs)) (hw : ∀ m ∈ (DataW.agg (xs.map (·.1))).weights P t, m ≤ reachBytes) {i : Nat} {f : Field} {y : DataW H × List MemPlace} (hf : fs[i]? = some f) (hy : xs[i]? = some y) : ∀ m ∈ y.1.weights P f.type, m ≤ reachBytes := by
  intro m hm
  refine hw m ?_
  simp only [DataW.weights, ht]
  exact DataW.weights_mem_each (j := i) (by simp [hf]) (by rw [List.getElem?_map, hy]; rfl) m hm
theorem weigh_arg {ts : List TypeId} {ds : List (DataW H)} (h : (DataW.weightsEach P ts ds).all (· ≤ reachBytes) = true) {j : Nat} {d : DataW H} (ht : ts[j]? = some t) (hd : ds[j]? = some d) : ∀ m ∈ d.weights P t, m ≤ reachBytes := by
  intro m hm
  have := List.all_eq_true.1 h _ (DataW.weights_mem_each ht hd m hm)
  simpa using this
end
end Go.Abs

namespace Go.Abs
open Go.RowKit
section
variable {H : Type} {enc : TypeId × Value → H} {P : Program} {w : World} {base : Nat} {spare : Nat → Bool} {held : Bool} {fuel n : Nat} {t e : TypeId} {cs : List Value} {x : DataW H × List MemPlace} {Γ : Ghost}
theorem weights_all {d : DataW H} : ∀ {l : List (DataW H)}, d ∈ l → ∀ m ∈ d.weights P e, m ∈ DataW.weightsAll P e l
  | [], h, _, _ => by cases h
  | c :: l, h, m, hm => by
    simp only [DataW.weightsAll, List.mem_append]
    rcases List.mem_cons.1 h with rfl | h
    · exact .inl hm
    · exact .inr (weights_all h m hm)
theorem slice_readV {α : Type} (f : α → AV) (sz : Nat) (good : α → Prop) (hsz : 0 < sz) (ht : P.underlying t = some (.slice e)) (hc : P.cellsOf e = sz)
    (hby : 1 ≤ P.bytesOf e) (hw : ∀ m ∈ x.1.weights P t, m ≤ reachBytes)
    (hel : ∀ n cs y, DataW.trod enc P w base spare held n e cs = some y → (∀ m ∈ y.1.weights P e, m ≤ reachBytes) → ∃ a, good a ∧ (f a).ok = true ∧ ∃ v : Value, v.cells.toList = cs ∧ R (Ghost.all w) (f a) v)
    (h : DataW.trod enc P w base spare held fuel t cs = some x) : ∃ s : GSl α, (∃ v, cs = [v] ∧ R (Ghost.all w) (s.av sz f) v) ∧ (∀ a ∈ s.xs, good a) ∧ s.xs.length ≤ reachBytes := by
  rcases DataW.trod_slice ht h with ⟨rfl, _⟩ | ⟨a, len, cap, elems, rest, n, _, rfl, hxd, _, hlc, hcm, hel', hget, _, _⟩
  · exact ⟨⟨some true, [], fun _ => rfl⟩, ⟨_, rfl, by simp only [GSl.av, R]⟩, (fun _ h => by cases h), Nat.zero_le _⟩
  · have hwe : ∀ y ∈ elems, ∀ m ∈ y.1.weights P e, m ≤ reachBytes := fun y hy m hm => by
      refine hw m ?_
      rw [hxd]
      simp only [DataW.weights, ht, List.mem_cons, List.mem_append]
      exact .inr (.inl (weights_all (List.mem_map_of_mem (f := fun q : DataW H × List MemPlace => q.1) hy) m hm))
    have hwl : elems.length ≤ reachBytes := by
      have h1 := hw ((elems.length + rest.length) * P.bytesOf e) (by rw [hxd]; simp [DataW.weights, ht])
      have h2 : elems.length * 1 ≤ (elems.length + rest.length) * P.bytesOf e := Nat.mul_le_mul (by omega) hby
      omega
    by_cases h0 : len = 0
    · subst h0
      exact ⟨⟨some false, [], fun _ => rfl⟩, ⟨_, rfl, by simp only [GSl.av, R]; exact ⟨a, cap, rfl⟩⟩, (fun _ h => by cases h), Nat.zero_le _⟩
    · have hb : ∀ i, i < len → ∃ l y, w.cells? base (a.add (i * sz)) sz = some l ∧ DataW.trod enc P w base spare held n e l = some y ∧ y ∈ elems := fun i hi => by
        have := hget i hi
        rw [List.getElem?_eq_getElem (by omega), hc] at this
        obtain ⟨l, h1, h2⟩ := Option.bind_eq_some_iff.1 this
        exact ⟨l, _, h1, h2, List.getElem_mem _⟩
      have hspot : a.spot = none := by
        obtain ⟨l, y, h1, _, _⟩ := hb 0 (by omega)
        rw [Nat.zero_mul] at h1
        exact cells_spot hsz h1
      obtain ⟨b, o, sp⟩ := a
      dsimp only at hspot
      subst hspot
      have hch : ∀ i : Fin len, ∃ a : α, good a ∧ (f a).ok = true ∧ ∃ v : Value, v.cells.size = sz ∧ R (Ghost.all w) (f a) v ∧ ∀ (j : Nat) (u : Value), v.cells.toList[j]? = some u → w.cell? ⟨b, o + i * sz + j, none⟩ = some u := fun i => by
        obtain ⟨l, y, h1, h2, hy⟩ := hb i i.2
        obtain ⟨a, ha, hok, v, hv, hr⟩ := hel n l y h2 (fun m hm => hwe y hy m hm)
        obtain ⟨h3, h4⟩ := cells_some h1
        exact ⟨a, ha, hok, v, by rw [← Array.length_toList, hv]; exact h3, hr, fun j u hj => h4 j u (by rw [← hv]; exact hj)⟩
      refine ⟨⟨none, List.ofFn fun i => Classical.choose (hch i), fun k => absurd rfl k⟩, ⟨_, rfl, ?_⟩, fun a ha => ?_, ?_⟩
      · simp only [GSl.av, R]
        refine ⟨b, o, cap, by simp, by simpa using hlc, hsz, by simp only [OwnOk], ?_⟩
        refine RE.mk fun i u hi => ?_
        rw [List.getElem?_map, List.getElem?_ofFn] at hi
        split at hi
        · rename_i hlt
          simp only [Option.map_some, Option.some.injEq] at hi
          subst hi
          obtain ⟨_, h2, v, h3, h4, h5⟩ := Classical.choose_spec (hch ⟨i, hlt⟩)
          exact ⟨v, h4, h2, h3, fun j u hj => h5 j u hj⟩
        · simp at hi
      · rw [List.mem_ofFn] at ha
        obtain ⟨i, rfl⟩ := ha
        exact (Classical.choose_spec (hch i)).1
      · simp only [List.length_ofFn]; omega
theorem weigh_string {s : ByteArray} {d : DataW H} (hd : d = .lit (.string s.data.toList)) (hw : ∀ m ∈ d.weights P t, m ≤ reachBytes) : s.size ≤ reachBytes := by
  subst hd
  have := hw s.data.toList.length (by simp [DataW.weights])
  simpa using this
end
end Go.Abs

namespace Go.Abs
section
variable {E : Env} {N : Nat} {l : List (Nat × AV)} {L : List (Nat × AObj)} {K : List (Nat × Bool)} {Q : AExit → TM → St → Prop}
variable {pol : Nat → Nat} {ops : Array Oper} {r : List Oper} {i : Nat}
variable {d : Nat} {ty : TypeId} {pos : String} {after : Array Edge} {guard : Option (Nat × Bool)}
theorem OD.callM {D : Type} {f : Operand} {args : Array Operand} {argTypes : Array TypeId} {g : FuncId} {first cap vs : List AV} (p : D → Prop) (vf : D → AV) (Lf : D → List (Nat × AObj)) (Kf : D → List (Nat × Bool)) (hn : Nat.blt d N = true) (hf : evL l f = some (.fn g first cap)) (ha : evLs l args.toList = some vs)
    (hr : ∀ st, SFa L K st → CW E g (first ++ vs ++ cap) st fun x st' => ∃ dd, p dd ∧ x = vf dd ∧ SFa (Lf dd) (Kf dd) st') (hz : ∀ dd st, p dd → freezeA st (vf dd) = some (vf dd, st))
    (k : ∀ dd, p dd → OS E false pol ops r (i + 1) N ((d, vf dd) :: l) (Lf dd) (Kf dd) Q) : OD E false pol ops { dst := some d, op := .call { callee := .value f, args := args, argTypes := argTypes }, type := ty, pos := pos, after := after, guard := guard } r i N l L K Q := by
  intro pre tm st hF hp' hw
  obtain ⟨n1, x, st', hc, dd, hx, rfl, hS⟩ := hr st hF.s
  obtain ⟨n, tr, tm1, st1, h1, _, h2⟩ := k dd hx pre (tm.put d (vf dd)) st' ((hF.withS2 hS).put hn (vf dd)) hp'
  refine ⟨Nat.max n n1, ⟨tm, st, st', vf dd, true⟩ :: tr, tm1, st1, ?_, (fun hc => by cases hc), h2⟩
  have hl : Abs.loud E (callF E (Nat.max n n1)) (pol i) tm st { dst := some d, op := .call { callee := .value f, args := args, argTypes := argTypes }, type := ty, pos := pos, after := after, guard := guard } = some (vf dd, st') := by
    have : Abs.loud E (callF E (Nat.max n n1)) (pol i) tm st { dst := some d, op := .call { callee := .value f, args := args, argTypes := argTypes }, type := ty, pos := pos, after := after, guard := guard } = (match evalO tm f with | .fn g first cap => callF E (Nat.max n n1) g (first ++ args.toList.map (evalO tm) ++ cap) st | _ => none) := rfl
    rw [this, hF.ev hf, hF.evs ha]
    exact callF_mono n1 (Nat.max n n1) (Nat.le_max_right _ _) _ _ _ _ hc
  have hst : stepPre E (callF E (Nat.max n n1)) pre (pol i) i tm st { dst := some d, op := .call { callee := .value f, args := args, argTypes := argTypes }, type := ty, pos := pos, after := after, guard := guard } = some (vf dd, st') := by
    simp only [stepPre, stepOp, isLoud, if_true, hl, isFnCall, Bool.and_true, decide_eq_true_eq]
    split
    · exact hz dd st' hx
    · rfl
  simp only [runOpsT]
  rw [hw]
  dsimp only
  rw [hst]
  dsimp only [putO]
  rw [runOpsT_mono (callF_mono n (Nat.max n n1) (Nat.le_max_left _ _)) _ _ _ _ h1]
end
end Go.Abs

namespace Go.OptEnv
open Go Go.Proofs Go.Abs Go.RowKit
abbrev Prims := FuncId → Option (List AV → St → Option (AV × St))
def pol0 : Nat → Nat → Nat → Nat := polOf [(61,7,5,1),(61,12,2,1),(61,29,13,1),(137,3,2,1),(118,1,5,0),(81,6,4,0),(80,3,2,1),(96,8,2,0),(19,18,12,1),(19,10,4,1),(19,21,10,1),(39,44,4,1),(39,49,2,1),(39,55,5,1),(39,63,4,1),(39,72,2,0),(22,8,4,1),(46,1,7,1),(46,1,15,1),(53,15,1,0),(52,3,1,0),(63,6,5,1),(63,11,2,1),(63,27,8,1),(63,13,4,1),(55,13,4,1),(23,11,4,1),(33,1,1,0)]
noncomputable def En (pr : Prims) : Env := { ty := tys.find, fns := fns.find, prim := pr, pol := pol0, dyn := dyn, mks := mks }
theorem En_ok (pr : Prims) : EnvOk Tryz.prog (En pr) := EnvOk.of_trees rfl rfl tys_ok fns_ok mixed
structure Good (pr : Prims) : Prop where
  ok : ∀ B w0, PrimOk Tryz.prog (En pr) B w0
def addP (pr : Prims) (f : FuncId) (g : List AV → St → Option (AV × St)) : Prims := fun x => bif Nat.beq x f then some g else pr x
theorem Good.addT {pr : Prims} (h : Good pr) {f : FuncId} {g : List AV → St → Option (AV × St)} (hg : ∀ B w0, PrimDoes Tryz.prog B w0 f g) : Good (addP pr f g) :=
  ⟨fun B w0 => (h.ok B w0).addPrim (hg B w0)⟩
def ap0 : Prims := fun _ => none
theorem good0 : Good ap0 := ⟨fun _ _ f g args st r st' hg _ => by cases hg⟩
theorem hent {f : FuncId} {fn : Func} (h : Tryz.prog.funcs[f]? = some fn) {c : Code} (hb : fn.body = some c := by rfl) (hn : (fn.name == "runtime.NumGoroutine") = false := by rfl) (w : World) (vargs : Array Value) : (callFunc f vargs).run Tryz.prog w = .ok (.enter f vargs) w := enters h hb hn w vargs
def isT (x : Option (AV × St)) : Bool := match x with | some (.bool true, _) => true | _ => false
theorem isT_spec {x : Option (AV × St)} (h : isT x = true) : ∃ st, x = some (.bool true, st) := by
  unfold isT at h
  split at h
  · rename_i st; exact ⟨st, rfl⟩
  · cases h
end Go.OptEnv

namespace Go.Abs
def pickF (l : List (Nat × AV)) : List Nat → Option (List (Nat × AV))
  | [] => some []
  | i :: is => match lk l i, pickF l is with
    | some v, some r => some ((i, v) :: r)
    | _, _ => none
theorem pick_sub {l : List (Nat × AV)} : ∀ {is : List Nat} {r : List (Nat × AV)}, pickF l is = some r → Abs.Sub l r
  | [], _, h => by simp only [pickF, Option.some.injEq] at h; subst h; exact Sub.nil _
  | i :: is, r, h => by
    simp only [pickF] at h
    split at h
    · rename_i v r' h1 h2
      simp only [Option.some.injEq] at h
      subst h
      exact Sub.cons h1 (pick_sub h2)
    · cases h
theorem Sub.trans {a b c : List (Nat × AV)} (h : Abs.Sub a b) (k : Abs.Sub b c) : Abs.Sub a c := fun i v hv => h i v (k i v hv)
theorem lk_append {a b : List (Nat × AV)} {i : Nat} : lk (a ++ b) i = match lk a i with | some v => some v | none => lk b i := by
  induction a with
  | nil => rfl
  | cons p a ih =>
    obtain ⟨j, v⟩ := p
    simp only [List.cons_append, lk]
    cases hb : Nat.beq j i with
    | true => rfl
    | false => exact ih
theorem Sub.app {l a b : List (Nat × AV)} (h : Abs.Sub l a) (k : Abs.Sub l b) : Abs.Sub l (a ++ b) := by
  intro i v hv
  rw [lk_append] at hv
  cases ha : lk a i with
  | some u => rw [ha] at hv; rw [← hv]; exact h i u ha
  | none => rw [ha] at hv; exact k i v hv
theorem Sub.over {l : List (Nat × AV)} {t : Nat} {v : AV} (h : lk l t = none) : Abs.Sub ((t, v) :: l) l := by
  intro i u hu
  simp only [lk]
  cases hb : Nat.beq t i with
  | true =>
    have := Nat.eq_of_beq_eq_true hb
    subst this
    rw [h] at hu; cases hu
  | false => exact hu
theorem Sub.under {a b : List (Nat × AV)} {t : Nat} {v : AV} (h : Abs.Sub a b) : Abs.Sub ((t, v) :: a) ((t, v) :: b) := by
  intro i u hu
  simp only [lk] at hu ⊢
  cases hb : Nat.beq t i with
  | true => rw [hb] at hu; exact hu
  | false => rw [hb] at hu; exact h i u hu
section
variable {E : Env} {fid N : Nat} {l : List (Nat × AV)} {L : List (Nat × AObj)} {K : List (Nat × Bool)} {Q : AExit → TM → St → Prop}
structure RSt (A : Type) where
  ti : Nat
  kept : List (Nat × AV)
  mf : A → List (Nat × AV)
  Lf : A → List (Nat × AObj)
  Kf : A → List (Nat × Bool)
  I : Nat → A → Prop
def RSt.at {A : Type} (s : RSt A) (i : Nat) (a : A) : List (Nat × AV) := (s.ti, .int .i64 (i : Int)) :: (s.mf a ++ s.kept)
def rangeQ {A : Type} (N : Nat) (s : RSt A) (i B C : Nat) (Q : AExit → TM → St → Prop) (e : AExit) (tm : TM) (st : St) : Prop :=
  ((e = .normal ∨ e = .exit C) ∧ ∃ a, s.I (i + 1) a ∧ Fa N (s.at i a) (s.Lf a) (s.Kf a) tm st) ∨ (e = .exit B ∧ Q .normal tm st) ∨ ((∃ j, e = .exit j ∧ j ≠ C ∧ j ≠ B) ∧ Q e tm st) ∨ (e = .ret ∧ Q .ret tm st)
theorem QS.rangeN {A : Type} {s : RSt A} {i B C : Nat} (a : A) (hI : s.I (i + 1) a) (hl : Abs.Sub l (s.at i a)) (hL : SubO L (s.Lf a)) (hK : SubK K (s.Kf a)) : QS N .normal l L K (rangeQ N s i B C Q) :=
  fun _ _ hF => .inl ⟨.inl rfl, a, hI, hF.sub hl hL hK⟩
theorem QS.rangeR {A : Type} {s : RSt A} {i B C : Nat} (h : QS N .ret l L K Q) : QS N .ret l L K (rangeQ N s i B C Q) := fun tm st hF => .inr (.inr (.inr ⟨rfl, h tm st hF⟩))
theorem lt_dec {i n : Nat} : (decide ((i : Int) < (n : Int))) = decide (i < n) := by
  rw [decide_eq_decide]; omega
theorem WS.range {A : Type} {B C h g tc tn ts n : Nat} {hops gops : Array Oper} {body : Code} {y1 y2 y3 y4 y5 y6 y7 : TypeId} {p1 p2 p3 : String} {e1 e2 e3 : Array Edge} (s : RSt A) (a0 : A)
    (ids : List Nat) (hpk : pickF l ids = some s.kept) (hn63 : n ≤ 9223372036854775806) (h0 : s.I 0 a0) (hi : lk l s.ti = some (.int .i64 ((0 : Nat) : Int))) (hm : Abs.Sub l (s.mf a0)) (hL : SubO L (s.Lf a0)) (hK : SubK K (s.Kf a0))
    (hh : hops.toList = [{ dst := some tc, op := .binOp .lss y1 (.tmp s.ti) (.tmp tn) y2, type := y3, pos := p1, after := e1, guard := none }])
    (hg : gops.toList = [{ dst := some ts, op := .binOp .add y4 (.tmp s.ti) (.const (.int .i64 1)) y5, type := y6, pos := p2, after := e2, guard := none }, { dst := some s.ti, op := .move (.tmp ts), type := y7, pos := p3, after := e3, guard := none }])
    (hBC : Nat.beq B C = false) (hc : Nat.blt tc N = true) (hs : Nat.blt ts N = true) (ht : Nat.blt s.ti N = true)
    (hn : ∀ a i, lk (s.at i a) tn = some (.int .i64 (n : Int)))
    (d1 : ∀ a, lk (s.mf a ++ s.kept) s.ti = none) (d2 : ∀ a i, lk (s.at i a) tc = none) (d3 : ∀ a i, lk (s.at i a) ts = none)
    (hb : ∀ i a, i < n → s.I i a → WS E fid N body (s.at i a) (s.Lf a) (s.Kf a) (rangeQ N s i B C Q))
    (he : ∀ a, s.I n a → QS N .normal (s.mf a ++ s.kept) (s.Lf a) (s.Kf a) Q) :
    WS E fid N (.loop (.seq (.region h hops false) (.seq (.cond (.tmp tc) .skip (.exit B)) (.seq (.block C body) (.region g gops false))))) l L K (blockQ B Q) := by
  have hp := pick_sub hpk
  refine WS.loop (D := Nat × A) (fun d => s.at d.1 d.2) (fun d => s.Lf d.2) (fun d => s.Kf d.2) (fun d => d.1 ≤ n ∧ s.I d.1 d.2) (fun d => n + 1 - d.1) (0, a0) ⟨Nat.zero_le _, h0⟩ (Sub.cons hi (hm.app hp)) hL hK ?_
  rintro ⟨i, a⟩ ⟨hin, hI⟩
  dsimp only at hin hI ⊢
  refine WS.seq (WS.region ?_)
  rw [hh]
  have hti : lk (s.at i a) s.ti = some (.int .i64 (i : Int)) := by
    simp only [RSt.at, lk]
    have : Nat.beq s.ti s.ti = true := Nat.beq_refl _
    rw [this]; rfl
  refine OS.do rfl (OD.bin (v := .bool (decide (i < n))) hc hti (hn a i) (by
    rw [← lt_dec]; rfl) (OS.nil (QS.seqN ?_)))
  refine WS.seq (WS.condD (p := i < n) (inst := inferInstance) (by simp [lk]) (fun hlt => ?_) (fun hge => ?_))
  · refine WS.skip (QS.seqN (WS.seq ?_))
    intro tm st hF
    have hF0 : Fa N (s.at i a) (s.Lf a) (s.Kf a) tm st := hF.sub (fun j v hv => by
      have : ∀ (b : AV), lk ((tc, b) :: s.at i a) j = some v := fun b => Sub.over (d2 a i) j v hv
      simp only [lk]
      cases hb : Nat.beq tc j with
      | true =>
        have hj := Nat.eq_of_beq_eq_true hb
        subst hj
        rw [d2 a i] at hv; cases hv
      | false => exact hv) (.refl _) (.refl _)
    refine W.block ((hb i a hlt hI tm st hF0).mono fun e tm' st' hq => ?_)
    rcases hq with ⟨he', a', hI', hF'⟩ | ⟨rfl, hq⟩ | ⟨⟨j, rfl, hj1, hj2⟩, hq⟩ | ⟨rfl, hq⟩
    · have key : seqQ E fid (.region g gops false) (loopQ (loopS N (fun d : Nat × A => s.at d.1 d.2) (fun d => s.Lf d.2) (fun d => s.Kf d.2) (fun d => d.1 ≤ n ∧ s.I d.1 d.2) (fun d => n + 1 - d.1)) (n + 1 - i) (blockQ B Q)) .normal tm' st' := by
        refine seqQ.normal ?_
        have hW : WS E fid N (.region g gops false) (s.at i a') (s.Lf a') (s.Kf a') (loopQ (loopS N (fun d : Nat × A => s.at d.1 d.2) (fun d => s.Lf d.2) (fun d => s.Kf d.2) (fun d => d.1 ≤ n ∧ s.I d.1 d.2) (fun d => n + 1 - d.1)) (n + 1 - i) (blockQ B Q)) := by
          refine WS.region ?_
          rw [hg]
          have hti' : lk (s.at i a') s.ti = some (.int .i64 (i : Int)) := by
            simp only [RSt.at, lk]
            have : Nat.beq s.ti s.ti = true := Nat.beq_refl _
            rw [this]; rfl
          have hw : IntKind.i64.wrap ((i : Int) + 1) = ((i + 1 : Nat) : Int) := wrap_succ (by omega)
          refine OS.do rfl (OD.bin (b := .int .i64 1) (v := .int .i64 ((i + 1 : Nat) : Int)) hs hti' rfl (by rw [← hw]; rfl) ?_)
          refine OS.do rfl (OD.auto (v := .int .i64 ((i + 1 : Nat) : Int)) ht (by
            have : Nat.beq ts ts = true := Nat.beq_refl _
            simp only [quietS, evL, lk, this, cond_true]) (OS.nil ?_))
          refine QS.loopN (i + 1, a') ⟨by dsimp only; omega, hI'⟩ (by dsimp only; omega) ?_ (.refl _) (.refl _)
          dsimp only
          refine Sub.under ?_
          have e1 : Abs.Sub ((ts, AV.int .i64 ((i + 1 : Nat) : Int)) :: s.at i a') (s.at i a') := Sub.over (d3 a' i)
          exact e1.trans (Sub.over (d1 a'))
        exact hW tm' st' hF'
      rcases he' with rfl | rfl
      · exact blockQ.normal key
      · exact blockQ.here key
    · exact blockQ.exit hBC (seqQ.exit (loopQ.exit (blockQ.here hq)))
    · exact blockQ.exit (by
        cases hb : Nat.beq j C with
        | true => exact absurd (Nat.eq_of_beq_eq_true hb) hj1
        | false => rfl) (seqQ.exit (loopQ.exit (blockQ.exit (by
          cases hb : Nat.beq j B with
          | true => exact absurd (Nat.eq_of_beq_eq_true hb) hj2
          | false => rfl) hq)))
    · exact blockQ.ret (seqQ.ret (loopQ.ret (blockQ.ret hq)))
  · refine WS.exit (QS.seqE (QS.loopE (QS.blockH ?_)))
    have hie : i = n := by omega
    subst hie
    intro tm st hF
    refine he a hI tm st (hF.sub (fun j v hv => ?_) (.refl _) (.refl _))
    have h1 : lk (s.at i a) j = some v := Sub.over (d1 a) j v hv
    simp only [lk]
    cases hb : Nat.beq tc j with
    | true =>
      have hj := Nat.eq_of_beq_eq_true hb
      subst hj
      rw [d2 a i] at h1; cases h1
    | false => exact h1
theorem WS.loopK {D : Type} {c : Code} {kept : List (Nat × AV)} (ids : List Nat) (hpk : pickF l ids = some kept) (mf : D → List (Nat × AV)) (Lf : D → List (Nat × AObj)) (Kf : D → List (Nat × Bool)) (p : D → Prop) (m : D → Nat) (d0 : D) (h0 : p d0) (hm : Abs.Sub l (mf d0)) (hL : SubO L (Lf d0)) (hK : SubK K (Kf d0))
    (hb : ∀ d, p d → WS E fid N c (mf d ++ kept) (Lf d) (Kf d) (loopQ (loopS N (fun d => mf d ++ kept) Lf Kf p m) (m d) Q)) : WS E fid N (.loop c) l L K Q :=
  WS.loop (fun d => mf d ++ kept) Lf Kf p m d0 h0 (hm.app (pick_sub hpk)) hL hK hb
variable {pol : Nat → Nat} {ops : Array Oper} {o : Oper} {r : List Oper} {i : Nat} {d : Nat} {ty : TypeId} {pos : String} {after : Array Edge} {guard : Option (Nat × Bool)}
theorem OD.makeMapN {t kt et : TypeId} {y : Ty} {x : Operand} {kd : IntKind} {n : Int} (hn : Nat.blt d N = true) (hx : evL l x = some (.int kd n)) (ht : E.ty t = some y) (hd : y.d = .map kt et) (k : ∀ b, OS E false pol ops r (i + 1) N ((d, .map b) :: l) ((b, .map kt et []) :: L) K Q) :
    OD E false pol ops { dst := some d, op := .makeMap t (some x), type := ty, pos := pos, after := after, guard := guard } r i N l L K Q := by
  refine .loud rfl rfl (fun _ h => by cases h) fun tm st hF => ⟨.map st.next, st.new (.map kt et []), _, _, _, ?_, (hF.new _).put hn _, k st.next⟩
  have : Abs.loud E noCall (pol i) tm st { dst := some d, op := .makeMap t (some x), type := ty, pos := pos, after := after, guard := guard } = (match E.ty t, evalO tm x with | some ty, .int _ _ => (match ty.d with | .map kt et => some (.map st.next, st.new (.map kt et [])) | _ => none) | _, _ => none) := rfl
  rw [this, ht, hF.ev hx]
  dsimp only
  rw [hd]
end
section
variable {E : Env} {fid N : Nat} {l : List (Nat × AV)} {L : List (Nat × AObj)} {K : List (Nat × Bool)} {Q : AExit → TM → St → Prop}
theorem WS.rangeX {A : Type} {B C h g tc tn ts n : Nat} {hops gops : Array Oper} {body : Code} {y1 y2 y3 y4 y5 y6 y7 : TypeId} {p1 p2 p3 : String} {e1 e2 e3 : Array Edge} (s : RSt A) (a0 : A)
    (ids : List Nat) (h0 : s.I 0 a0)
    (hb : ∀ i a, i < n → s.I i a → WS E fid N body (s.at i a) (s.Lf a) (s.Kf a) (rangeQ N s i B C Q))
    (he : ∀ a, s.I n a → QS N .normal (s.mf a ++ s.kept) (s.Lf a) (s.Kf a) Q)
    (hpk : pickF l ids = some s.kept := by rfl) (hn63 : n ≤ 9223372036854775806 := by omega) (hi : lk l s.ti = some (.int .i64 ((0 : Nat) : Int)) := by rfl) (hm : Abs.Sub l (s.mf a0) := by (try dsimp only); repeat' (first | exact Sub.nil _ | refine Sub.cons (congrArg (fun z => some (AV.int .i64 z)) (wrap_succ (by omega))) ?_ | refine Sub.cons rfl ?_)) (hL : SubO L (s.Lf a0) := by (try dsimp only); repeat' (first | exact SubO.nil _ | exact SubO.refl _ | refine SubO.keep ?_ | refine SubO.drop ?_)) (hK : SubK K (s.Kf a0) := by (try dsimp only); repeat' (first | exact SubK.nil _ | exact SubK.refl _ | refine SubK.keep (by simp) ?_ | refine SubK.new ?_ | refine SubK.drop ?_))
    (hh : hops.toList = [{ dst := some tc, op := .binOp .lss y1 (.tmp s.ti) (.tmp tn) y2, type := y3, pos := p1, after := e1, guard := none }] := by rfl)
    (hg : gops.toList = [{ dst := some ts, op := .binOp .add y4 (.tmp s.ti) (.const (.int .i64 1)) y5, type := y6, pos := p2, after := e2, guard := none }, { dst := some s.ti, op := .move (.tmp ts), type := y7, pos := p3, after := e3, guard := none }] := by rfl)
    (hBC : Nat.beq B C = false := by rfl) (hc : Nat.blt tc N = true := by rfl) (hs : Nat.blt ts N = true := by rfl) (ht : Nat.blt s.ti N = true := by rfl)
    (hn : ∀ a i, lk (s.at i a) tn = some (.int .i64 (n : Int)) := by intros; rfl)
    (d1 : ∀ a, lk (s.mf a ++ s.kept) s.ti = none := by intros; rfl) (d2 : ∀ a i, lk (s.at i a) tc = none := by intros; rfl) (d3 : ∀ a i, lk (s.at i a) ts = none := by intros; rfl) :
    WS E fid N (.loop (.seq (.region h hops false) (.seq (.cond (.tmp tc) .skip (.exit B)) (.seq (.block C body) (.region g gops false))))) l L K (blockQ B Q) :=
  WS.range s a0 ids hpk hn63 h0 hi hm hL hK hh hg hBC hc hs ht hn d1 d2 d3 hb he
theorem QS.rangeX {A : Type} {s : RSt A} {i B C : Nat} (a : A) (hI : s.I (i + 1) a) (hl : Abs.Sub l (s.at i a) := by (try dsimp only [RSt.at, List.cons_append, List.nil_append]); repeat' (first | exact Sub.nil _ | refine Sub.cons (congrArg (fun z => some (AV.int .i64 z)) (wrap_succ (by omega))) ?_ | refine Sub.cons rfl ?_)) (hL : SubO L (s.Lf a) := by (try dsimp only); repeat' (first | exact SubO.nil _ | exact SubO.refl _ | refine SubO.keep ?_ | refine SubO.drop ?_)) (hK : SubK K (s.Kf a) := by (try dsimp only); repeat' (first | exact SubK.nil _ | exact SubK.refl _ | refine SubK.keep (by simp) ?_ | refine SubK.new ?_ | refine SubK.drop ?_)) : QS N .normal l L K (rangeQ N s i B C Q) :=
  QS.rangeN a hI hl hL hK
theorem WS.loopX {D : Type} {c : Code} {kept : List (Nat × AV)} (ids : List Nat) (mf : D → List (Nat × AV)) (Lf : D → List (Nat × AObj)) (Kf : D → List (Nat × Bool)) (p : D → Prop) (m : D → Nat) (d0 : D) (h0 : p d0)
    (hb : ∀ d, p d → WS E fid N c (mf d ++ kept) (Lf d) (Kf d) (loopQ (loopS N (fun d => mf d ++ kept) Lf Kf p m) (m d) Q))
    (hpk : pickF l ids = some kept := by rfl) (hm : Abs.Sub l (mf d0) := by (try dsimp only); repeat' (first | exact Sub.nil _ | refine Sub.cons (congrArg (fun z => some (AV.int .i64 z)) (wrap_succ (by omega))) ?_ | refine Sub.cons rfl ?_)) (hL : SubO L (Lf d0) := by (try dsimp only); repeat' (first | exact SubO.nil _ | exact SubO.refl _ | refine SubO.keep ?_ | refine SubO.drop ?_)) (hK : SubK K (Kf d0) := by (try dsimp only); repeat' (first | exact SubK.nil _ | exact SubK.refl _ | refine SubK.keep (by simp) ?_ | refine SubK.new ?_ | refine SubK.drop ?_)) : WS E fid N (.loop c) l L K Q :=
  WS.loopK ids hpk mf Lf Kf p m d0 h0 hm hL hK hb
theorem QS.loopX {D : Type} {lf : D → List (Nat × AV)} {Lf : D → List (Nat × AObj)} {Kf : D → List (Nat × Bool)} {p : D → Prop} {m : D → Nat} {k : Nat} (d : D) (hp : p d) (hm : m d < k) (hl : Abs.Sub l (lf d) := by (try dsimp only [List.cons_append, List.nil_append]); repeat' (first | exact Sub.nil _ | refine Sub.cons (congrArg (fun z => some (AV.int .i64 z)) (wrap_succ (by omega))) ?_ | refine Sub.cons rfl ?_)) (hL : SubO L (Lf d) := by (try dsimp only); repeat' (first | exact SubO.nil _ | exact SubO.refl _ | refine SubO.keep ?_ | refine SubO.drop ?_)) (hK : SubK K (Kf d) := by (try dsimp only); repeat' (first | exact SubK.nil _ | exact SubK.refl _ | refine SubK.keep (by simp) ?_ | refine SubK.new ?_ | refine SubK.drop ?_)) : QS N .normal l L K (loopQ (loopS N lf Lf Kf p m) k Q) :=
  QS.loopN d hp hm hl hL hK
end
end Go.Abs

namespace Go.NetM

def notB (b : UInt8) : UInt8 := if 1 < b.toNat then 2 else 1 - b
def andB (a b : UInt8) : UInt8 := if a = 0 ∨ b = 0 then 0 else if a = 1 ∧ b = 1 then 1 else 2
def ofL (v : List UInt8) (lit : Int) : UInt8 := if lit % 2 = 1 then notB (v.getD (lit / 2).toNat 0) else v.getD (lit / 2).toNat 0
def gatesM (v0 : List UInt8) (gs : List (Int × Int)) : List UInt8 := gs.foldl (fun v g => v ++ [andB (ofL v g.1) (ofL v g.2)]) v0
theorem gatesM_len : ∀ (gs : List (Int × Int)) (v : List UInt8), (gatesM v gs).length = v.length + gs.length
  | [], v => by simp [gatesM]
  | g :: gs, v => by
    have := gatesM_len gs (v ++ [andB (ofL v g.1) (ofL v g.2)])
    simp only [gatesM, List.foldl_cons, List.length_append, List.length_cons, List.length_nil] at this ⊢
    rw [this]; omega
theorem andB_zero (a b : UInt8) (h : a = 0 ∨ b = 0) : andB a b = 0 := by unfold andB; rw [if_pos h]
theorem getD_append {v : List UInt8} {l : List UInt8} {i : Nat} : (v ++ l).getD i 0 = if i < v.length then v.getD i 0 else l.getD (i - v.length) 0 := by
  simp only [List.getD_eq_getElem?_getD]
  split
  · rw [List.getElem?_append_left (by assumption)]
  · rw [List.getElem?_append_right (by omega)]
def le2 (l : List UInt8) : Bool := l.all fun b => decide (b.toNat ≤ 2)
end Go.NetM
namespace Go.NetM
end Go.NetM

namespace Go.OptEnv
open Go Go.Proofs Go.Abs Go.RowKit Go.NetM
set_option maxRecDepth 10000
abbrev Rel := List AV → AV → Prop
structure Has (pr : Prims) (f : FuncId) (Rl : Rel) : Prop where
  eq : pr f = some (primOf Rl)
  uniq : ∀ a r r', Rl a r → Rl a r' → r = r'
  free : ∀ a r, Rl a r → AV.freeL a = true
theorem Has.use {pr : Prims} {f : FuncId} {Rl : Rel} (h : Has pr f Rl) {args : List AV} {r : AV} (hr : Rl (AV.plainL args) r) (st : St) : primOf Rl args st = some (r, st) := primOf_eq h.uniq hr st
theorem Has.view {pr : Prims} {f : FuncId} {Rl : Rel} (h : Has pr f Rl) {args a : List AV} {r : AV} {st : St} (hv : mapO (viewA st 9) args = some a) (hr : Rl a r) (hs : AV.scal r = true) : primOf Rl args st = some (r, st) := primOf_view h.uniq h.free hv hr hs
theorem Good.add {pr : Prims} (h : Good pr) {f : FuncId} {Rl : Rel} (hc : Con2 (En pr) f Rl) (he : ∀ (w : World) (vargs : Array Value), (callFunc f vargs).run Tryz.prog w = .ok (.enter f vargs) w) : Good (addP pr f (primOf Rl)) :=
  h.addT fun B w0 => hc.does (En_ok pr) h.ok he B w0
theorem Has.of {pr pr' : Prims} {f : FuncId} {Rl : Rel} (hc : Con2 (En pr) f Rl) (h : pr' f = some (primOf Rl)) : Has pr' f Rl := ⟨h, hc.uniq, hc.free⟩
def RelF {D : Type} (dom : D → Prop) (args : D → List AV) (res : D → AV) : Rel := fun a x => ∃ d, dom d ∧ a = args d ∧ x = res d
theorem con_of {pr : Prims} {f : FuncId} {D : Type} {dom : D → Prop} {args : D → List AV} {res : D → AV} (hf : ∀ d, AV.freeL (args d) = true) (hr : ∀ d, dom d → ∀ st, CW (En pr) f (args d) st fun x _ => AV.free x = true ∧ AV.plain x = res d) : Con2 (En pr) f (RelF dom args res) :=
  ⟨by rintro a x ⟨d, _, rfl, rfl⟩; exact hf d, by
    rintro a x ⟨d, hd, rfl, rfl⟩
    exact (hr d hd _).mono fun y st ⟨h1, h2⟩ => ⟨y, st, freeze_free h1, h2, h1⟩⟩
theorem con_ofz {pr : Prims} {f : FuncId} {D : Type} {dom : D → Prop} {args : D → List AV} {res : D → AV} (hf : ∀ d, AV.freeL (args d) = true) (hr : ∀ d, dom d → ∀ st, CW (En pr) f (args d) st fun x st' => ∃ r' st2, freezeA st' x = some (r', st2) ∧ AV.plain r' = res d ∧ AV.free r' = true) : Con2 (En pr) f (RelF dom args res) :=
  ⟨by rintro a x ⟨d, _, rfl, rfl⟩; exact hf d, by
    rintro a x ⟨d, hd, rfl, rfl⟩
    exact hr d hd _⟩
theorem con_eq {pr : Prims} {f : FuncId} {D : Type} {dom : D → Prop} {args : D → List AV} {res : D → AV} (hf : ∀ d, AV.freeL (args d) = true) (hs : ∀ d, AV.free (res d) = true ∧ AV.plain (res d) = res d) (hr : ∀ d, dom d → ∀ st, CW (En pr) f (args d) st fun x _ => x = res d) : Con2 (En pr) f (RelF dom args res) :=
  con_of hf fun d hd st => (hr d hd st).mono fun y _ e => by
    subst e
    exact hs d
def bitAV (b : UInt8) : AV := .int .u8 b.toNat
def intAV (n : Int) : AV := .int .i64 n
def strAV (s : ByteArray) : AV := .str s
theorem int_plain (b : Int) : AV.plain (intAV b) = intAV b := rfl
theorem int_free (b : Int) : AV.free (intAV b) = true := rfl
theorem str_plain (s : ByteArray) : AV.plain (strAV s) = strAV s := rfl
theorem str_free (s : ByteArray) : AV.free (strAV s) = true := rfl
structure GReg where
  name : ByteArray
  init : UInt8
  next : Int
def regAV (r : GReg) : AV := .agg [.str r.name, bitAV r.init, .int .i64 r.next]
structure GPin where
  name : ByteArray
  lit : Int
def pinAV (p : GPin) : AV := .agg [.str p.name, .int .i64 p.lit]
def gateAV (g : Int × Int) : AV := .agg [.int .i64 g.1, .int .i64 g.2]
theorem reg_plain (r : GReg) : AV.plain (regAV r) = regAV r := rfl
theorem reg_free (r : GReg) : AV.free (regAV r) = true := rfl
theorem pin_plain (r : GPin) : AV.plain (pinAV r) = pinAV r := rfl
theorem pin_free (r : GPin) : AV.free (pinAV r) = true := rfl
theorem gate_plain (r : Int × Int) : AV.plain (gateAV r) = gateAV r := rfl
theorem gate_free (r : Int × Int) : AV.free (gateAV r) = true := rfl
structure GNet where
  ins : GSl ByteArray
  regs : GSl GReg
  gates : GSl (Int × Int)
  outs : GSl GPin
def netAV (n : GNet) : AV := .agg [n.ins.av 1 strAV, n.regs.av 3 regAV, n.gates.av 2 gateAV, n.outs.av 2 pinAV]
theorem av_cellOk {α : Type} (sz : Nat) (f : α → AV) (s : GSl α) : (s.av sz f).cellOk = true := by
  rcases s.cases f sz with ⟨_, h | h⟩ | h <;> rw [h] <;> rfl
theorem net_ok (n : GNet) : (netAV n).ok = true := by simp [netAV, AV.ok, av_cellOk]
theorem net_plain (n : GNet) : AV.plain (netAV n) = netAV n := by simp [netAV, AV.plain, AV.plainL, plain_av str_plain, plain_av reg_plain, plain_av gate_plain, plain_av pin_plain]
theorem net_free (n : GNet) : AV.free (netAV n) = true := by simp [netAV, AV.free, AV.freeL, free_av str_free, free_av reg_free, free_av gate_free, free_av pin_free]
def Fit64 (n : Int) : Prop := -9223372036854775808 ≤ n ∧ n < 9223372036854775808
structure FitsN (n : GNet) : Prop where
  ins : n.ins.xs.length ≤ 140737488355328
  regs : n.regs.xs.length ≤ 140737488355328
  gates : n.gates.xs.length ≤ 140737488355328
  outs : n.outs.xs.length ≤ 140737488355328
  insN : ∀ s ∈ n.ins.xs, s.size ≤ 140737488355328
  regsN : ∀ r ∈ n.regs.xs, r.name.size ≤ 140737488355328
  outsN : ∀ r ∈ n.outs.xs, r.name.size ≤ 140737488355328
  gatesF : ∀ g ∈ n.gates.xs, Fit64 g.1 ∧ Fit64 g.2
  regsF : ∀ r ∈ n.regs.xs, Fit64 r.next
  outsF : ∀ r ∈ n.outs.xs, Fit64 r.lit
theorem roomB {et : Ty} {n : Nat} (hb : Nat.ble et.bytes 100 = true) (h : n ≤ 1000000000000) : roomA et n = true := by
  have hb := Nat.le_of_ble_eq_true hb
  have : n * et.bytes ≤ 1000000000000 * 100 := Nat.mul_le_mul h hb
  simp [roomA]; omega

theorem data_inj {a b : ByteArray} (h : a.data.toList = b.data.toList) : a = b := by
  obtain ⟨⟨x⟩⟩ := a
  obtain ⟨⟨y⟩⟩ := b
  simp at h
  rw [h]
theorem str_beq (a b : ByteArray) : (a.toList == b.toList) = decide (a = b) := by
  rw [ByteArray.toList_eq, ByteArray.toList_eq]
  by_cases h : a = b
  · subst h; simp
  · have : a.data.toList ≠ b.data.toList := fun k => h (data_inj k)
    rw [decide_eq_false h]
    exact beq_eq_false_iff_ne.2 this
theorem size_data (s : ByteArray) : s.data.toList.length = s.size := by simp
def byteOk (b : UInt8) : Bool := decide (33 ≤ b.toNat ∧ b.toNat ≤ 126)
def nameOk (s : ByteArray) : Bool := decide (1 ≤ s.size ∧ s.size ≤ 100) && s.data.toList.all byteOk
def namesM (l : List ByteArray) : Bool := decide (l.length ≤ 500) && l.all nameOk && decide l.Nodup
def litOk (l : Int) (k : Int) : Bool := decide (0 ≤ l ∧ l < 2 * k)
def gatesOk (k : Int) : List (Int × Int) → Bool
  | [] => true
  | g :: r => litOk g.1 k && litOk g.2 k && gatesOk (k + 1) r
theorem gatesOk_snoc : ∀ (l : List (Int × Int)) (k : Int) (g : Int × Int), gatesOk k (l ++ [g]) = (gatesOk k l && (litOk g.1 (k + l.length) && litOk g.2 (k + l.length)))
  | [], k, g => by simp [gatesOk]
  | h :: r, k, g => by
    simp only [List.cons_append, gatesOk, gatesOk_snoc r (k + 1) g, List.length_cons]
    rw [show k + 1 + (r.length : Int) = k + ((r.length + 1 : Nat) : Int) by omega]
    simp only [Bool.and_assoc]
theorem gatesOk_take {l : List (Int × Int)} {k : Int} {i : Nat} (h : i < l.length) : gatesOk k (l.take (i + 1)) = (gatesOk k (l.take i) && (litOk l[i].1 (k + i) && litOk l[i].2 (k + i))) := by
  rw [List.take_succ_eq_append_getElem h, gatesOk_snoc, List.length_take, Nat.min_eq_left (by omega)]
theorem gatesOk_app : ∀ (a b : List (Int × Int)) (k : Int), gatesOk k (a ++ b) = true → gatesOk k a = true
  | [], _, _, _ => rfl
  | g :: a, b, k, h => by
    simp only [List.cons_append, gatesOk, Bool.and_eq_true] at h ⊢
    exact ⟨h.1, gatesOk_app a b _ h.2⟩
theorem gatesOk_bad {l : List (Int × Int)} {k : Int} {i : Nat} (h : i < l.length) (hb : (litOk l[i].1 (k + i) && litOk l[i].2 (k + i)) = false) : gatesOk k l = false := by
  apply Bool.eq_false_iff.2
  intro hc
  rw [← List.take_append_drop (i + 1) l] at hc
  have := gatesOk_app _ _ _ hc
  rw [gatesOk_take h, hb, Bool.and_false] at this
  cases this
def GNet.first (n : GNet) : Int := 1 + n.ins.xs.length + n.regs.xs.length
def GNet.nodes (n : GNet) : Int := n.first + n.gates.xs.length
def validM (n : GNet) : Bool := decide (n.gates.xs.length ≤ 20000) && namesM n.ins.xs && namesM (n.regs.xs.map (·.name)) && namesM (n.outs.xs.map (·.name)) && gatesOk n.first n.gates.xs &&
  (n.regs.xs.all fun r => decide (r.init.toNat ≤ 2)) && (n.regs.xs.all fun r => litOk r.next n.nodes) && (n.outs.xs.all fun p => litOk p.lit n.nodes)
structure ValidN (n : GNet) : Prop where
  gatesN : n.gates.xs.length ≤ 20000
  ins : namesM n.ins.xs = true
  regs : namesM (n.regs.xs.map (·.name)) = true
  outs : namesM (n.outs.xs.map (·.name)) = true
  gates : gatesOk n.first n.gates.xs = true
  inits : (n.regs.xs.all fun r => decide (r.init.toNat ≤ 2)) = true
  nexts : (n.regs.xs.all fun r => litOk r.next n.nodes) = true
  lits : (n.outs.xs.all fun p => litOk p.lit n.nodes) = true
theorem validM_iff {n : GNet} : validM n = true ↔ ValidN n := by
  unfold validM
  simp only [Bool.and_eq_true, decide_eq_true_eq]
  exact ⟨fun ⟨⟨⟨⟨⟨⟨⟨a, b⟩, c⟩, d⟩, e⟩, f⟩, g⟩, h⟩ => ⟨a, b, c, d, e, f, g, h⟩, fun ⟨a, b, c, d, e, f, g, h⟩ => ⟨⟨⟨⟨⟨⟨⟨a, b⟩, c⟩, d⟩, e⟩, f⟩, g⟩, h⟩⟩
theorem valid_no {n : GNet} (h : ValidN n → False) : validM n = false := Bool.eq_false_iff.2 fun k => h (validM_iff.1 k)
theorem names_len {l : List ByteArray} (h : namesM l = true) : l.length ≤ 500 := by
  simp only [namesM, Bool.and_eq_true, decide_eq_true_eq] at h; exact h.1.1
theorem all_get {α : Type} {l : List α} {f : α → Bool} (h : l.all f = true) {i : Nat} (hi : i < l.length) : f l[i] = true := List.all_eq_true.1 h _ (List.getElem_mem hi)
theorem map_take_succ {α β : Type} {l : List α} {f : α → β} {i : Nat} (h : i < l.length) : (l.take (i + 1)).map f = (l.take i).map f ++ [f l[i]] := by
  rw [List.take_succ_eq_append_getElem h, List.map_append]; rfl
theorem and_f1 {a b : Bool} (h : a = false) : (a && b) = false := by rw [h]; rfl
theorem and_f2 {a b : Bool} (h : b = false) : (a && b) = false := by rw [h, Bool.and_false]
theorem and_t {a b : Bool} (h : a = true) (k : b = true) : (a && b) = true := by rw [h, k]; rfl
theorem not_false_true {b : Bool} (h : b = true) (k : b = false) : False := by rw [h] at k; cases k
theorem nodup_take_succ {α : Type} {l : List α} {i : Nat} (h : i < l.length) (h1 : (l.take i).Nodup) (h2 : l[i] ∉ l.take i) : (l.take (i + 1)).Nodup := by
  rw [List.take_succ_eq_append_getElem h, List.nodup_append]
  refine ⟨h1, by simp, fun a ha b hb => ?_⟩
  simp only [List.mem_singleton] at hb
  subst hb
  rintro rfl
  exact h2 ha
theorem namesM_len {l : List ByteArray} (h : ¬ l.length ≤ 500) : namesM l = false := by simp [namesM, h]
theorem namesM_bad {l : List ByteArray} {i : Nat} (h : i < l.length) (hb : nameOk l[i] = false) : namesM l = false := by
  simp [namesM, all_false h hb]
theorem namesM_dup {l : List ByteArray} {i : Nat} (h : i < l.length) (e : l[i] ∈ l.take i) : namesM l = false := by
  have : ¬ l.Nodup := fun k => by
    rw [← List.take_append_drop i l, List.nodup_append] at k
    exact k.2.2 l[i] e l[i] (by rw [List.drop_eq_getElem_cons h]; exact List.mem_cons_self) rfl
  simp [namesM, this]
theorem namesM_ok {l : List ByteArray} (h : l.length ≤ 500) (ha : l.all nameOk = true) (hd : l.Nodup) : namesM l = true := by simp [namesM, h, ha, hd]
theorem nameOk_false {s : ByteArray} (h : s.size < 1 ∨ 100 < s.size) : nameOk s = false := by
  unfold nameOk
  rw [decide_eq_false (by omega)]; rfl
theorem nameOk_byte {s : ByteArray} {i : Nat} (h : i < s.data.toList.length) (hb : byteOk s.data.toList[i] = false) : nameOk s = false := by
  unfold nameOk
  rw [all_false h hb, Bool.and_false]
theorem nameOk_true {s : ByteArray} (h : 1 ≤ s.size ∧ s.size ≤ 100) (hb : s.data.toList.all byteOk = true) : nameOk s = true := by
  unfold nameOk
  rw [decide_eq_true h, hb]; rfl
theorem indexA_str {E : Env} {t : TypeId} {y : Ty} {s : ByteArray} {kd : IntKind} {i : Nat} {b : UInt8} (h1 : E.ty t = some y) (h2 : y.d = .string) (hb : s.data.toList[i]? = some b) : indexA E t (.str s) (.int kd (i : Int)) = some (.int .u8 b.toNat) := by
  unfold indexA
  rw [h1]
  dsimp only
  rw [h2]
  dsimp only
  rw [if_pos (by omega)]
  have : s[(i : Int).toNat]? = some b := by
    rw [show (i : Int).toNat = i from rfl]
    rw [Array.getElem?_toList] at hb
    obtain ⟨h, e⟩ := Array.getElem?_eq_some_iff.1 hb
    have hs : i < s.size := h
    rw [getElem?_pos s i hs]
    exact congrArg some e
  rw [this]
end Go.OptEnv

namespace Go.OptEnv
open Go Go.Proofs Go.Abs Go.RowKit Go.NetM
set_option maxRecDepth 10000
attribute [local irreducible] WS QS OS OD Abs.Sub SubO SubK CW
theorem ediv2 {l : Int} (h : 0 ≤ l) : IntKind.i64.wrap (l.tdiv 2) = l / 2 ∨ 9223372036854775808 ≤ l := by
  rw [Int.tdiv_eq_ediv_of_nonneg h]
  rcases Int.lt_or_le l 9223372036854775808 with k | k
  · left; exact wrap64 (by omega) (by omega)
  · right; exact k
def strSl (s : ByteArray) : GSl UInt8 := ⟨none, s.data.toList, fun h => absurd rfl h⟩
section
variable {pr : Prims}
theorem run72 (h : pr 72 = none) (l k : Int) (hl : Fit64 l) (st : St) : CW (En pr) 72 [.int .i64 l, .int .i64 k] st fun r _ => r = .bool (litOk l k) := by
  obtain ⟨h1, h2⟩ := hl
  refine CW.start (N := 13) h rfl rfl ?_
  repeat' (first | (refine OS.do rfl ?_; first | refine OD.auto rfl rfl ?_) | refine OS.nil ?_ | refine OS.skip rfl rfl rfl ?_ | refine WS.seq ?_ | refine QS.seqN ?_ | refine WS.region ?_ | refine WS.ret ?_ | ((fail_if_success (refine OS.do rfl ?_)); first | refine OS.splitD rfl rfl rfl (fun _ => ?_) (fun _ => ?_)))
  all_goals (refine QS.retR (by rfl) fun _ => ?_; show AV.bool _ = _; congr 1; unfold litOk)
  · have hw : IntKind.i64.wrap (l.tdiv 2) = l / 2 := by
      rcases ediv2 (l := l) (by omega) with k | k
      · exact k
      · omega
    rw [hw, decide_eq_decide]
    omega
  · exact (decide_eq_false (by omega)).symm
theorem run73 (h : pr 73 = none) (n : GNet) (hn : FitsN n) (st : St) : CW (En pr) 73 [netAV n] st fun r _ => r = .int .i64 n.first := by
  obtain ⟨f1, f2, _, _, _, _, _, _, _, _⟩ := hn
  refine CW.start (N := 11) h rfl rfl ?_
  repeat' (first | (refine OS.do rfl ?_; first | refine OD.loadP 0 rfl rfl rfl rfl rfl rfl ?_ | refine OD.auto rfl rfl ?_ | refine OD.len rfl rfl (fun _ => lenTy_av rfl rfl) ?_ | refine OD.box rfl rfl rfl rfl (by first | rfl | exact net_ok _) rfl (fun _ => ?_)) | refine OS.nil ?_ | refine WS.seq ?_ | refine QS.seqN ?_ | refine WS.region ?_ | refine WS.ret ?_)
  all_goals (refine QS.retR (by rfl) fun _ => ?_; show AV.int _ _ = _; congr 1; unfold GNet.first)
  rw [wrap64 (n := 1 + (n.ins.xs.length : Int)) (by omega) (by omega)]
  exact wrap64 (by omega) (by omega)
theorem run70 (h : pr 70 = none) (b : UInt8) (st : St) : CW (En pr) 70 [bitAV b] st fun r _ => r = .bool (decide (b.toNat ≤ 2)) := by
  refine CW.start (N := 13) h rfl rfl ?_
  repeat' (first | (refine OS.do rfl ?_; first | refine OD.auto rfl rfl ?_) | refine OS.nil ?_ | refine OS.skip rfl rfl rfl ?_ | refine WS.seq ?_ | refine QS.seqN ?_ | refine WS.region ?_ | refine WS.ret ?_ | ((fail_if_success (refine OS.do rfl ?_)); first | refine OS.splitD rfl rfl rfl (fun _ => ?_) (fun _ => ?_)))
  all_goals (refine QS.retR (by rfl) fun _ => ?_; show AV.bool _ = _; congr 1)
  · exact (decide_eq_true (by omega)).symm
  · exact (decide_eq_true (by omega)).symm
  · rw [Bool.eq_iff_iff]; simp only [beq_iff_eq, decide_eq_true_eq]; omega
theorem run114 (h1 : pr 114 = none) (s : ByteArray) (st : St) : CW (En pr) 114 [.str s] st fun r _ => r = .bool (nameOk s) := by
  have hsz := size_data s
  refine CW.start (N := 28) h1 rfl rfl ?_
  repeat' (first | (refine OS.do rfl ?_; first | refine OD.auto rfl rfl ?_ | refine OD.len rfl rfl (fun _ => rfl) ?_) | refine OS.nil ?_ | refine OS.skip rfl rfl rfl ?_ | refine WS.seq ?_ | refine QS.seqN ?_ | refine WS.region ?_ | refine WS.condT rfl ?_ | refine WS.condD rfl (fun _ => ?_) (fun _ => ?_) | refine WS.skip ?_ | refine WS.block ?_ | refine WS.ret ?_ | refine QS.seqR ?_ | ((fail_if_success (refine OS.do rfl ?_)); first | refine OS.splitD rfl rfl rfl (fun _ => ?_) (fun _ => ?_)))
  all_goals try (refine QS.retR (by rfl) fun _ => ?_; rw [nameOk_false (by omega)]; rfl)
  · refine WS.loop (D := Nat) (fun i => [(0, .str s), (3, .int .i64 i)]) (fun _ => []) (fun _ => [])
      (fun i => i ≤ s.data.toList.length ∧ (s.data.toList.take i).all byteOk = true) (fun i => s.data.toList.length + 1 - i) 0 ⟨by omega, by simp⟩ ?_ (.nil _) (.nil _) ?_
    · repeat' (first | exact Sub.nil _ | refine Sub.cons (congrArg (fun z => some (AV.int .i64 z)) (wrap_succ (by omega))) ?_ | refine Sub.cons rfl ?_)
    rintro i ⟨hi, ha⟩
    repeat' (first | (refine OS.do rfl ?_; first | refine OD.auto rfl rfl ?_ | refine OD.len rfl rfl (fun _ => rfl) ?_ | refine OD.index rfl rfl rfl (indexA_str rfl rfl (by first | assumption | exact List.getElem?_eq_getElem (by omega))) ?_) | refine OS.nil ?_ | refine OS.skip rfl rfl rfl ?_ | refine WS.seq ?_ | refine QS.seqN ?_ | refine WS.region ?_ | refine WS.condT rfl ?_ | refine WS.condD rfl (fun _ => ?_) (fun _ => ?_) | refine WS.skip ?_ | refine WS.block ?_ | refine WS.ret ?_ | refine QS.seqR ?_ | refine QS.blockR ?_ | refine QS.loopR ?_ | refine QS.blockN ?_ | refine WS.exit ?_ | refine QS.seqE ?_ | refine QS.blockH ?_ | refine QS.loopE ?_ | ((fail_if_success (refine OS.do rfl ?_)); first | refine OS.splitD rfl rfl rfl (fun _ => ?_) (fun _ => ?_)))
    all_goals first
      | (refine QS.loopN (i + 1) ⟨by omega, all_take_succ (by omega) ha (decide_eq_true (by omega))⟩ (by omega) ?_ (.nil _) (.nil _); repeat' (first | exact Sub.nil _ | refine Sub.cons (congrArg (fun z => some (AV.int .i64 z)) (wrap_succ (by omega))) ?_ | refine Sub.cons rfl ?_))
      | (refine QS.retR (by rfl) fun _ => ?_; rw [nameOk_true (by omega) (all_of_take (by omega) ha)]; rfl)
      | (refine QS.retR (by rfl) fun _ => ?_; rw [nameOk_byte (i := i) (by omega) (decide_eq_false (by omega))]; rfl)
theorem run128 (h1 : pr 128 = none) (s : ByteArray) (hs : s.size ≤ 140737488355328) (st : St) : CW (En pr) 128 [.str s] st fun r _ => r = .bool (nameOk s) := by
  have hsz := size_data s
  refine CW.start (N := 27) h1 rfl rfl ?_
  repeat' (first | (refine OS.do rfl ?_; first | refine OD.auto rfl rfl ?_ | refine OD.len rfl rfl (fun _ => rfl) ?_) | refine OS.nil ?_ | refine WS.seq ?_ | refine QS.seqN ?_ | refine WS.region ?_ | refine WS.block ?_)
  have e1 : AV.vs 1 Own.any (bytesA s) = (strSl s).av 1 bitAV := rfl
  have e2 : (bytesA s).length = s.data.toList.length := by simp [bytesA]
  simp only [e1, e2]
  refine WS.rangeX (A := Unit) (n := s.data.toList.length) ⟨8, _, fun _ => [], fun _ => [], fun _ => [], fun i _ => (s.data.toList.take i).all byteOk = true⟩ (()) [0, 6, 7] (by simp) ?_ ?_
  · rintro i _ hi ha
    dsimp only at ha
    dsimp only [RSt.at, List.cons_append, List.nil_append]
    have hi' : i < (strSl s).xs.length := hi
    repeat' (first | (refine OS.do rfl ?_; first | refine OD.auto rfl rfl ?_ | refine OD.indexAddr rfl rfl rfl (indexAddrA_nat rfl rfl rfl rfl (by first | assumption | exact List.getElem?_eq_getElem (by omega))) ?_) | refine OS.nil ?_ | refine OS.skip rfl rfl rfl ?_ | refine WS.seq ?_ | refine QS.seqN ?_ | refine WS.region ?_ | refine WS.condT rfl ?_ | refine WS.condD rfl (fun _ => ?_) (fun _ => ?_) | refine WS.skip ?_ | refine WS.ret ?_ | refine QS.seqR ?_ | refine QS.rangeR ?_ | ((fail_if_success (refine OS.do rfl ?_)); first | refine OS.splitD rfl rfl rfl (fun _ => ?_) (fun _ => ?_)))
    all_goals first
      | (exact QS.rangeX (()) (by (try dsimp only) <;> exact (all_take_succ hi ha (decide_eq_true (by simp only [strSl] at *; omega)))))
      | (refine QS.retR (by rfl) fun _ => ?_; rw [nameOk_byte (i := i) hi (decide_eq_false (by simp only [strSl] at *; omega))]; rfl)
  · rintro _ ha
    dsimp only at ha
    dsimp only [RSt.at, List.cons_append, List.nil_append]
    rw [List.take_of_length_le (Nat.le_refl _)] at ha
    repeat' (first | (refine OS.do rfl ?_; first | refine OD.auto rfl rfl ?_ | refine OD.len rfl rfl (fun _ => rfl) ?_) | refine OS.nil ?_ | refine OS.skip rfl rfl rfl ?_ | refine WS.seq ?_ | refine QS.seqN ?_ | refine WS.region ?_ | refine WS.ret ?_ | ((fail_if_success (refine OS.do rfl ?_)); first | refine OS.splitD rfl rfl rfl (fun _ => ?_) (fun _ => ?_)))
    all_goals (refine QS.retR (by rfl) fun _ => ?_; show AV.bool _ = _; congr 1; unfold nameOk; rw [ha, Bool.and_true])
    · rw [decide_eq_decide]; omega
    · exact (decide_eq_false (by omega)).symm
end
end Go.OptEnv

namespace Go.OptEnv
open Go Go.Proofs Go.Abs Go.RowKit Go.NetM
set_option maxRecDepth 10000
attribute [local irreducible] WS QS OS OD Abs.Sub SubO SubK CW
def Rel103 : Rel := RelF (fun _ => True) (fun s : ByteArray => [.str s]) fun s => .str s
def Rel105 : Rel := RelF (fun _ => True) (fun s : GReg => [regAV s]) fun s => .str s.name
def Rel107 : Rel := RelF (fun _ => True) (fun s : GPin => [pinAV s]) fun s => .str s.name
def Rel128 : Rel := RelF (fun s : ByteArray => s.size ≤ 140737488355328) (fun s => [.str s]) fun s => .bool (nameOk s)
def Rel114 : Rel := RelF (fun _ : ByteArray => True) (fun s => [.str s]) fun s => .bool (nameOk s)
def Rel70 : Rel := RelF (fun _ : UInt8 => True) (fun s => [bitAV s]) fun b => .bool (decide (b.toNat ≤ 2))
def Rel72 : Rel := RelF (fun p : Int × Int => Fit64 p.1) (fun p => [.int .i64 p.1, .int .i64 p.2]) fun p => .bool (litOk p.1 p.2)
def Rel73 : Rel := RelF FitsN (fun n => [netAV n]) fun n => .int .i64 n.first
def ents (l : List ByteArray) : List (AV × AV) := l.map fun s => (.str s, .bool true)
section
variable {pr : Prims}
theorem con72 (h : pr 72 = none) : Con2 (En pr) 72 Rel72 := con_eq (fun _ => rfl) (fun _ => ⟨rfl, rfl⟩) fun d hd st => run72 h d.1 d.2 hd st
theorem con73 (h : pr 73 = none) : Con2 (En pr) 73 Rel73 := con_eq (fun d => by simp [AV.freeL, net_free]) (fun _ => ⟨rfl, rfl⟩) fun d hd st => run73 h d hd st
theorem con70 (h : pr 70 = none) : Con2 (En pr) 70 Rel70 := con_eq (fun _ => rfl) (fun _ => ⟨rfl, rfl⟩) fun d hd st => run70 h d st
theorem con114 (h : pr 114 = none) : Con2 (En pr) 114 Rel114 := con_eq (fun _ => rfl) (fun _ => ⟨rfl, rfl⟩) fun d hd st => run114 h d st
theorem con128 (h : pr 128 = none) : Con2 (En pr) 128 Rel128 := con_eq (fun _ => rfl) (fun _ => ⟨rfl, rfl⟩) fun d hd st => run128 h d hd st
theorem run103 (h : pr 103 = none) (s : ByteArray) (st : St) : CW (En pr) 103 [.str s] st fun r _ => r = .str s := by
  refine CW.start (N := 4) h rfl rfl ?_
  repeat' (first | (refine OS.do rfl ?_; first | refine OD.auto rfl rfl ?_) | refine OS.nil ?_ | refine WS.seq ?_ | refine QS.seqN ?_ | refine WS.region ?_ | refine WS.ret ?_)
  all_goals (refine QS.retR (by rfl) fun _ => ?_; rfl)
theorem run105 (h : pr 105 = none) (s : GReg) (st : St) : CW (En pr) 105 [regAV s] st fun r _ => r = .str s.name := by
  refine CW.start (N := 5) h rfl rfl ?_
  repeat' (first | (refine OS.do rfl ?_; first | refine OD.loadP 0 rfl rfl rfl rfl rfl rfl ?_ | refine OD.auto rfl rfl ?_ | refine OD.box rfl rfl rfl rfl (by first | rfl | exact net_ok _) rfl (fun _ => ?_)) | refine OS.nil ?_ | refine WS.seq ?_ | refine QS.seqN ?_ | refine WS.region ?_ | refine WS.ret ?_)
  all_goals (refine QS.retR (by rfl) fun _ => ?_; rfl)
theorem run107 (h : pr 107 = none) (s : GPin) (st : St) : CW (En pr) 107 [pinAV s] st fun r _ => r = .str s.name := by
  refine CW.start (N := 5) h rfl rfl ?_
  repeat' (first | (refine OS.do rfl ?_; first | refine OD.loadP 0 rfl rfl rfl rfl rfl rfl ?_ | refine OD.auto rfl rfl ?_ | refine OD.box rfl rfl rfl rfl (by first | rfl | exact net_ok _) rfl (fun _ => ?_)) | refine OS.nil ?_ | refine WS.seq ?_ | refine QS.seqN ?_ | refine WS.region ?_ | refine WS.ret ?_)
  all_goals (refine QS.retR (by rfl) fun _ => ?_; rfl)
theorem con103 (h : pr 103 = none) : Con2 (En pr) 103 Rel103 := con_eq (fun _ => rfl) (fun _ => ⟨rfl, rfl⟩) fun d _ st => run103 h d st
theorem con105 (h : pr 105 = none) : Con2 (En pr) 105 Rel105 := con_eq (fun _ => rfl) (fun _ => ⟨rfl, rfl⟩) fun d _ st => run105 h d st
theorem con107 (h : pr 107 = none) : Con2 (En pr) 107 Rel107 := con_eq (fun _ => rfl) (fun _ => ⟨rfl, rfl⟩) fun d _ st => run107 h d st
theorem find_no {s : ByteArray} : ∀ (l : List ByteArray) (i : Nat), s ∉ l → findA (eqA (En pr) 20 9) (.str s) (ents l) i = some none
  | [], _, _ => rfl
  | x :: l, i, h => by
    simp only [List.mem_cons, not_or] at h
    have e : eqA (En pr) 20 9 (.str s) (.str x) = some (decide (s = x)) := rfl
    simp only [ents, List.map_cons, findA, e, decide_eq_false h.1]
    exact find_no l (i + 1) h.2
theorem find_yes {s : ByteArray} : ∀ (l : List ByteArray) (i : Nat), s ∈ l → ∃ j, findA (eqA (En pr) 20 9) (.str s) (ents l) i = some (some (j, .bool true))
  | [], _, h => by cases h
  | x :: l, i, h => by
    have e : eqA (En pr) 20 9 (.str s) (.str x) = some (decide (s = x)) := rfl
    by_cases hx : s = x
    · exact ⟨i, by simp only [ents, List.map_cons, findA, e, decide_eq_true hx]⟩
    · simp only [List.mem_cons, hx, false_or] at h
      obtain ⟨j, hj⟩ := find_yes l (i + 1) h
      exact ⟨j, by simp only [ents, List.map_cons, findA, e, decide_eq_false hx]; exact hj⟩
def memB (s : ByteArray) (l : List ByteArray) : Bool := l.any fun x => decide (s = x)
theorem memB_yes {s : ByteArray} {l : List ByteArray} (h : memB s l = true) : s ∈ l := by
  simp only [memB, List.any_eq_true, decide_eq_true_eq] at h
  obtain ⟨x, h1, rfl⟩ := h; exact h1
theorem memB_no {s : ByteArray} {l : List ByteArray} (h : memB s l = false) : s ∉ l := fun k => by
  have : memB s l = true := by simp only [memB, List.any_eq_true, decide_eq_true_eq]; exact ⟨s, k, rfl⟩
  rw [h] at this; cases this
theorem look_ents {s : ByteArray} {l : List ByteArray} {b : Nat} {st : St} (hst : st.get b = some (.map 9 4 (ents l))) : lookTy (En pr) st 57 false (.map b) (.str s) = some (.bool (memB s l)) := by
  have e : lookTy (En pr) st 57 false (.map b) (.str s) = (match st.get b with
      | some (.map kt' et' es) =>
        if kt' = 9 ∧ et' = 4 then
          match findA (eqA (En pr) 20 9) (.str s) es 0 with
          | some (some (_, v)) => some (if false then .tup [v, .bool true] else v)
          | some none => some (if false then .tup [.bool false, .bool false] else .bool false)
          | none => none
        else none
      | _ => none) := rfl
  rw [e, hst]
  dsimp only
  rw [if_pos ⟨rfl, rfl⟩]
  cases h : memB s l with
  | true =>
    obtain ⟨j, hj⟩ := find_yes (pr := pr) l 0 (memB_yes h)
    rw [hj]; rfl
  | false => rw [find_no l 0 (memB_no h)]; rfl
theorem put_ents {s : ByteArray} {l : List ByteArray} {b : Nat} {st : St} (hs : s ∉ l) (hst : st.get b = some (.map 9 4 (ents l))) : mapPutA (En pr) st ty9 9 4 b (.str s) (.bool true) = some (st.put b (.map 9 4 (ents (l ++ [s])))) := by
  unfold mapPutA
  rw [hst]
  dsimp only
  rw [if_pos ⟨rfl, rfl, rfl, rfl, rfl⟩, find_no l 0 hs]
  simp [ents]
theorem run102 (h1 : pr 102 = none) (h103 : Has pr 103 Rel103) (h128 : Has pr 128 Rel128) (l : GSl ByteArray) (hl : l.xs.length ≤ 140737488355328) (hn : ∀ x ∈ l.xs, (id x).size ≤ 140737488355328) (st : St) : CW (En pr) 102 [l.av 1 strAV, .fn 103 [] []] st fun r _ => r = .bool (namesM (l.xs.map id)) := by
  have hml : (l.xs.map id).length = l.xs.length := by simp
  refine CW.start (N := 35) h1 rfl rfl ?_
  repeat' (first | (refine OS.do rfl ?_; first | refine OD.auto rfl rfl ?_ | refine OD.len rfl rfl (fun _ => lenTy_av rfl rfl) ?_ | refine OD.makeMapN rfl rfl rfl rfl (fun _ => ?_)) | refine OS.nil ?_ | refine WS.seq ?_ | refine QS.seqN ?_ | refine WS.region ?_ | refine WS.condD rfl (fun _ => ?_) (fun _ => ?_) | refine WS.skip ?_ | refine WS.block ?_ | refine WS.ret ?_ | refine QS.seqR ?_)
  all_goals try (refine QS.retR (by rfl) fun _ => ?_; rw [namesM_len (by omega)]; rfl)
  rename_i hlen b
  refine WS.rangeX (A := List ByteArray) (n := l.xs.length) ⟨17, _, fun _ => [], fun a => [(b, .map 9 4 (ents a))], fun _ => [], fun i a => a = (l.xs.map id).take i ∧ a.all nameOk = true ∧ a.Nodup⟩ ([]) [1, 5, 15, 16] (⟨by simp, rfl, List.nodup_nil⟩) ?_ ?_
  · rintro i a hi ⟨he, ha, hd⟩
    have hmi : (l.xs.map id)[i]'(by omega) = id l.xs[i] := by simp
    have ht : (l.xs.map id).take (i + 1) = a ++ [id l.xs[i]] := by rw [List.take_succ_eq_append_getElem (by omega), he, hmi]
    dsimp only [RSt.at, List.cons_append, List.nil_append]
    repeat' (first | (refine OS.do rfl ?_; first | refine OD.auto rfl rfl ?_ | refine OD.indexAddr rfl rfl rfl (indexAddrA_nat rfl rfl rfl rfl (by first | assumption | exact List.getElem?_eq_getElem (by omega))) ?_ | refine OD.call rfl rfl rfl h103.eq (h103.use ⟨_, trivial, rfl, rfl⟩) (fun _ => rfl) ?_ | refine OD.call rfl rfl rfl h128.eq (h128.use ⟨id l.xs[i], hn _ (List.getElem_mem hi), rfl, rfl⟩) (fun _ => rfl) ?_ | refine OD.lookup 0 rfl rfl rfl rfl (fun st hst => look_ents hst) ?_ | refine OD.mapUpdate 0 rfl rfl rfl rfl rfl rfl rfl (fun st hst => put_ents (memB_no (by assumption)) hst) ?_) | refine OS.nil ?_ | refine OS.skip rfl rfl rfl ?_ | refine WS.seq ?_ | refine QS.seqN ?_ | refine WS.region ?_ | refine WS.condT rfl ?_ | refine WS.skip ?_ | refine WS.ret ?_ | refine QS.seqR ?_ | refine QS.rangeR ?_ | refine WS.condB rfl (fun _ => ?_) (fun _ => ?_) | ((fail_if_success (refine OS.do rfl ?_)); first | refine OS.splitN rfl rfl rfl (fun _ => ?_) (fun _ => ?_)))
    all_goals try (refine QS.retR (by rfl) fun _ => ?_; rw [namesM_bad (i := i) (by omega) (by rw [hmi]; assumption)]; rfl)
    all_goals try (refine QS.retR (by rfl) fun _ => ?_; rw [namesM_dup (i := i) (by omega) (by rw [hmi, ← he]; exact memB_yes (by assumption))]; rfl)
    exact QS.rangeX (a ++ [id l.xs[i]]) (by (try dsimp only) <;> exact (⟨ht.symm, by rw [List.all_append, ha]; simp only [List.all_cons, List.all_nil, Bool.and_true, Bool.true_and]; assumption, by rw [List.nodup_append]; exact ⟨hd, by simp, fun x hx y hy => by rw [List.mem_singleton] at hy; subst hy; rintro rfl; exact memB_no (by assumption) hx⟩⟩))
  · rintro a ⟨he, ha, hd⟩
    dsimp only [RSt.at, List.cons_append, List.nil_append]
    rw [List.take_of_length_le (by omega)] at he
    subst he
    repeat' (first | (refine OS.do rfl ?_; first | refine OD.auto rfl rfl ?_) | refine OS.nil ?_ | refine WS.seq ?_ | refine QS.seqN ?_ | refine WS.region ?_ | refine WS.ret ?_)
    all_goals (refine QS.retR (by rfl) fun _ => ?_; rw [namesM_ok (by omega) ha hd]; rfl)
theorem run104 (h1 : pr 104 = none) (h105 : Has pr 105 Rel105) (h128 : Has pr 128 Rel128) (l : GSl GReg) (hl : l.xs.length ≤ 140737488355328) (hn : ∀ x ∈ l.xs, (GReg.name x).size ≤ 140737488355328) (st : St) : CW (En pr) 104 [l.av 3 regAV, .fn 105 [] []] st fun r _ => r = .bool (namesM (l.xs.map GReg.name)) := by
  have hml : (l.xs.map GReg.name).length = l.xs.length := by simp
  refine CW.start (N := 35) h1 rfl rfl ?_
  repeat' (first | (refine OS.do rfl ?_; first | refine OD.auto rfl rfl ?_ | refine OD.len rfl rfl (fun _ => lenTy_av rfl rfl) ?_ | refine OD.makeMapN rfl rfl rfl rfl (fun _ => ?_)) | refine OS.nil ?_ | refine WS.seq ?_ | refine QS.seqN ?_ | refine WS.region ?_ | refine WS.condD rfl (fun _ => ?_) (fun _ => ?_) | refine WS.skip ?_ | refine WS.block ?_ | refine WS.ret ?_ | refine QS.seqR ?_)
  all_goals try (refine QS.retR (by rfl) fun _ => ?_; rw [namesM_len (by omega)]; rfl)
  rename_i hlen b
  refine WS.rangeX (A := List ByteArray) (n := l.xs.length) ⟨17, _, fun _ => [], fun a => [(b, .map 9 4 (ents a))], fun _ => [], fun i a => a = (l.xs.map GReg.name).take i ∧ a.all nameOk = true ∧ a.Nodup⟩ ([]) [1, 5, 15, 16] (⟨by simp, rfl, List.nodup_nil⟩) ?_ ?_
  · rintro i a hi ⟨he, ha, hd⟩
    have hmi : (l.xs.map GReg.name)[i]'(by omega) = GReg.name l.xs[i] := by simp
    have ht : (l.xs.map GReg.name).take (i + 1) = a ++ [GReg.name l.xs[i]] := by rw [List.take_succ_eq_append_getElem (by omega), he, hmi]
    dsimp only [RSt.at, List.cons_append, List.nil_append]
    repeat' (first | (refine OS.do rfl ?_; first | refine OD.loadP 0 rfl rfl rfl rfl rfl rfl ?_ | refine OD.auto rfl rfl ?_ | refine OD.indexAddr rfl rfl rfl (indexAddrA_nat rfl rfl rfl rfl (by first | assumption | exact List.getElem?_eq_getElem (by omega))) ?_ | refine OD.alloc rfl rfl rfl rfl (fun _ => ?_) | refine OD.storeW 0 rfl rfl rfl rfl (by first | rfl | exact net_ok _) rfl rfl rfl ?_ | refine OD.call rfl rfl rfl h105.eq (h105.use ⟨_, trivial, rfl, rfl⟩) (fun _ => rfl) ?_ | refine OD.call rfl rfl rfl h128.eq (h128.use ⟨GReg.name l.xs[i], hn _ (List.getElem_mem hi), rfl, rfl⟩) (fun _ => rfl) ?_ | refine OD.lookup 1 rfl rfl rfl rfl (fun st hst => look_ents hst) ?_ | refine OD.mapUpdate 1 rfl rfl rfl rfl rfl rfl rfl (fun st hst => put_ents (memB_no (by assumption)) hst) ?_) | refine OS.nil ?_ | refine OS.skip rfl rfl rfl ?_ | refine WS.seq ?_ | refine QS.seqN ?_ | refine WS.region ?_ | refine WS.condT rfl ?_ | refine WS.skip ?_ | refine WS.ret ?_ | refine QS.seqR ?_ | refine QS.rangeR ?_ | refine WS.condB rfl (fun _ => ?_) (fun _ => ?_) | ((fail_if_success (refine OS.do rfl ?_)); first | refine OS.splitN rfl rfl rfl (fun _ => ?_) (fun _ => ?_)))
    all_goals try (refine QS.retR (by rfl) fun _ => ?_; rw [namesM_bad (i := i) (by omega) (by rw [hmi]; assumption)]; rfl)
    all_goals try (refine QS.retR (by rfl) fun _ => ?_; rw [namesM_dup (i := i) (by omega) (by rw [hmi, ← he]; exact memB_yes (by assumption))]; rfl)
    exact QS.rangeX (a ++ [GReg.name l.xs[i]]) (by (try dsimp only) <;> exact (⟨ht.symm, by rw [List.all_append, ha]; simp only [List.all_cons, List.all_nil, Bool.and_true, Bool.true_and]; assumption, by rw [List.nodup_append]; exact ⟨hd, by simp, fun x hx y hy => by rw [List.mem_singleton] at hy; subst hy; rintro rfl; exact memB_no (by assumption) hx⟩⟩))
  · rintro a ⟨he, ha, hd⟩
    dsimp only [RSt.at, List.cons_append, List.nil_append]
    rw [List.take_of_length_le (by omega)] at he
    subst he
    repeat' (first | (refine OS.do rfl ?_; first | refine OD.auto rfl rfl ?_) | refine OS.nil ?_ | refine WS.seq ?_ | refine QS.seqN ?_ | refine WS.region ?_ | refine WS.ret ?_)
    all_goals (refine QS.retR (by rfl) fun _ => ?_; rw [namesM_ok (by omega) ha hd]; rfl)
theorem run106 (h1 : pr 106 = none) (h107 : Has pr 107 Rel107) (h128 : Has pr 128 Rel128) (l : GSl GPin) (hl : l.xs.length ≤ 140737488355328) (hn : ∀ x ∈ l.xs, (GPin.name x).size ≤ 140737488355328) (st : St) : CW (En pr) 106 [l.av 2 pinAV, .fn 107 [] []] st fun r _ => r = .bool (namesM (l.xs.map GPin.name)) := by
  have hml : (l.xs.map GPin.name).length = l.xs.length := by simp
  refine CW.start (N := 35) h1 rfl rfl ?_
  repeat' (first | (refine OS.do rfl ?_; first | refine OD.auto rfl rfl ?_ | refine OD.len rfl rfl (fun _ => lenTy_av rfl rfl) ?_ | refine OD.makeMapN rfl rfl rfl rfl (fun _ => ?_)) | refine OS.nil ?_ | refine WS.seq ?_ | refine QS.seqN ?_ | refine WS.region ?_ | refine WS.condD rfl (fun _ => ?_) (fun _ => ?_) | refine WS.skip ?_ | refine WS.block ?_ | refine WS.ret ?_ | refine QS.seqR ?_)
  all_goals try (refine QS.retR (by rfl) fun _ => ?_; rw [namesM_len (by omega)]; rfl)
  rename_i hlen b
  refine WS.rangeX (A := List ByteArray) (n := l.xs.length) ⟨17, _, fun _ => [], fun a => [(b, .map 9 4 (ents a))], fun _ => [], fun i a => a = (l.xs.map GPin.name).take i ∧ a.all nameOk = true ∧ a.Nodup⟩ ([]) [1, 5, 15, 16] (⟨by simp, rfl, List.nodup_nil⟩) ?_ ?_
  · rintro i a hi ⟨he, ha, hd⟩
    have hmi : (l.xs.map GPin.name)[i]'(by omega) = GPin.name l.xs[i] := by simp
    have ht : (l.xs.map GPin.name).take (i + 1) = a ++ [GPin.name l.xs[i]] := by rw [List.take_succ_eq_append_getElem (by omega), he, hmi]
    dsimp only [RSt.at, List.cons_append, List.nil_append]
    repeat' (first | (refine OS.do rfl ?_; first | refine OD.loadP 0 rfl rfl rfl rfl rfl rfl ?_ | refine OD.auto rfl rfl ?_ | refine OD.indexAddr rfl rfl rfl (indexAddrA_nat rfl rfl rfl rfl (by first | assumption | exact List.getElem?_eq_getElem (by omega))) ?_ | refine OD.alloc rfl rfl rfl rfl (fun _ => ?_) | refine OD.storeW 0 rfl rfl rfl rfl (by first | rfl | exact net_ok _) rfl rfl rfl ?_ | refine OD.call rfl rfl rfl h107.eq (h107.use ⟨_, trivial, rfl, rfl⟩) (fun _ => rfl) ?_ | refine OD.call rfl rfl rfl h128.eq (h128.use ⟨GPin.name l.xs[i], hn _ (List.getElem_mem hi), rfl, rfl⟩) (fun _ => rfl) ?_ | refine OD.lookup 1 rfl rfl rfl rfl (fun st hst => look_ents hst) ?_ | refine OD.mapUpdate 1 rfl rfl rfl rfl rfl rfl rfl (fun st hst => put_ents (memB_no (by assumption)) hst) ?_) | refine OS.nil ?_ | refine OS.skip rfl rfl rfl ?_ | refine WS.seq ?_ | refine QS.seqN ?_ | refine WS.region ?_ | refine WS.condT rfl ?_ | refine WS.skip ?_ | refine WS.ret ?_ | refine QS.seqR ?_ | refine QS.rangeR ?_ | refine WS.condB rfl (fun _ => ?_) (fun _ => ?_) | ((fail_if_success (refine OS.do rfl ?_)); first | refine OS.splitN rfl rfl rfl (fun _ => ?_) (fun _ => ?_)))
    all_goals try (refine QS.retR (by rfl) fun _ => ?_; rw [namesM_bad (i := i) (by omega) (by rw [hmi]; assumption)]; rfl)
    all_goals try (refine QS.retR (by rfl) fun _ => ?_; rw [namesM_dup (i := i) (by omega) (by rw [hmi, ← he]; exact memB_yes (by assumption))]; rfl)
    exact QS.rangeX (a ++ [GPin.name l.xs[i]]) (by (try dsimp only) <;> exact (⟨ht.symm, by rw [List.all_append, ha]; simp only [List.all_cons, List.all_nil, Bool.and_true, Bool.true_and]; assumption, by rw [List.nodup_append]; exact ⟨hd, by simp, fun x hx y hy => by rw [List.mem_singleton] at hy; subst hy; rintro rfl; exact memB_no (by assumption) hx⟩⟩))
  · rintro a ⟨he, ha, hd⟩
    dsimp only [RSt.at, List.cons_append, List.nil_append]
    rw [List.take_of_length_le (by omega)] at he
    subst he
    repeat' (first | (refine OS.do rfl ?_; first | refine OD.auto rfl rfl ?_) | refine OS.nil ?_ | refine WS.seq ?_ | refine QS.seqN ?_ | refine WS.region ?_ | refine WS.ret ?_)
    all_goals (refine QS.retR (by rfl) fun _ => ?_; rw [namesM_ok (by omega) ha hd]; rfl)
def Rel102 : Rel := RelF (fun l : GSl ByteArray => l.xs.length ≤ 140737488355328 ∧ ∀ x ∈ l.xs, x.size ≤ 140737488355328) (fun l => [l.av 1 strAV, .fn 103 [] []]) fun l => .bool (namesM (l.xs.map id))
def Rel104 : Rel := RelF (fun l : GSl GReg => l.xs.length ≤ 140737488355328 ∧ ∀ x ∈ l.xs, x.name.size ≤ 140737488355328) (fun l => [l.av 3 regAV, .fn 105 [] []]) fun l => .bool (namesM (l.xs.map GReg.name))
def Rel106 : Rel := RelF (fun l : GSl GPin => l.xs.length ≤ 140737488355328 ∧ ∀ x ∈ l.xs, x.name.size ≤ 140737488355328) (fun l => [l.av 2 pinAV, .fn 107 [] []]) fun l => .bool (namesM (l.xs.map GPin.name))
theorem con102 (h : pr 102 = none) (h103 : Has pr 103 Rel103) (h128 : Has pr 128 Rel128) : Con2 (En pr) 102 Rel102 := con_eq (fun d => by simp [AV.freeL, AV.free, free_av str_free]) (fun _ => ⟨rfl, rfl⟩) fun d hd st => run102 h h103 h128 d hd.1 hd.2 st
theorem con104 (h : pr 104 = none) (h105 : Has pr 105 Rel105) (h128 : Has pr 128 Rel128) : Con2 (En pr) 104 Rel104 := con_eq (fun d => by simp [AV.freeL, AV.free, free_av reg_free]) (fun _ => ⟨rfl, rfl⟩) fun d hd st => run104 h h105 h128 d hd.1 hd.2 st
theorem con106 (h : pr 106 = none) (h107 : Has pr 107 Rel107) (h128 : Has pr 128 Rel128) : Con2 (En pr) 106 Rel106 := con_eq (fun d => by simp [AV.freeL, AV.free, free_av pin_free]) (fun _ => ⟨rfl, rfl⟩) fun d hd st => run106 h h107 h128 d hd.1 hd.2 st
end
end Go.OptEnv

namespace Go.OptEnv
open Go Go.Proofs Go.Abs Go.RowKit Go.NetM
set_option maxRecDepth 10000
attribute [local irreducible] WS QS OS OD Abs.Sub SubO SubK CW GSl.av accA
section
variable {pr : Prims}
theorem run71 (h1 : pr 71 = none) (h114 : Has pr 114 Rel114) (l : GSl ByteArray) (st : St) : CW (En pr) 71 [l.av 1 strAV] st fun r _ => r = .bool (namesM l.xs) := by
  refine CW.start (N := 34) h1 rfl rfl ?_
  repeat' (first | (refine OS.do rfl ?_; first | refine OD.auto rfl rfl ?_ | refine OD.len rfl rfl (fun _ => lenTy_av rfl rfl) ?_) | refine OS.nil ?_ | refine WS.seq ?_ | refine QS.seqN ?_ | refine WS.region ?_ | refine WS.condD rfl (fun _ => ?_) (fun _ => ?_) | refine WS.skip ?_ | refine WS.block ?_ | refine WS.ret ?_ | refine QS.seqR ?_)
  all_goals try (refine QS.retR (by rfl) fun _ => ?_; rw [namesM_len (by omega)]; rfl)
  rename_i hlen
  refine WS.rangeX (A := Unit) (n := l.xs.length) ⟨10, _, fun _ => [], fun _ => [], fun _ => [], fun i _ => (l.xs.take i).all nameOk = true ∧ (l.xs.take i).Nodup⟩ (()) [0, 9] (⟨by simp, by simp⟩) ?_ ?_
  · rintro i _ hi ⟨ha, hd⟩
    try dsimp only at ha hd
    dsimp only [RSt.at, List.cons_append, List.nil_append]
    repeat' (first | (refine OS.do rfl ?_; first | refine OD.auto rfl rfl ?_ | refine OD.indexAddr rfl rfl rfl (indexAddrA_nat rfl rfl rfl rfl (by first | assumption | exact List.getElem?_eq_getElem (by omega))) ?_ | refine OD.call rfl rfl rfl h114.eq (h114.use ⟨_, trivial, rfl, rfl⟩) (fun _ => rfl) ?_) | refine OS.nil ?_ | refine WS.seq ?_ | refine QS.seqN ?_ | refine WS.region ?_ | refine WS.skip ?_ | refine WS.block ?_ | refine WS.ret ?_ | refine QS.seqR ?_ | refine QS.rangeR ?_ | refine WS.condN rfl (fun _ => ?_) (fun _ => ?_))
    all_goals try (refine QS.retR (by rfl) fun _ => ?_; rw [namesM_bad (i := i) (by omega) (by assumption)]; rfl)
    rename_i hok
    refine WS.loopX (D := Nat) [0, 3, 9, 10] (fun j => [(4, .int .i64 j)]) (fun _ => []) (fun _ => []) (fun j => j ≤ i ∧ l.xs[i] ∉ l.xs.take j) (fun j => i + 1 - j) (0) (⟨by omega, by simp⟩) ?_
    rintro j ⟨hj, hm⟩
    dsimp only [RSt.at, List.cons_append, List.nil_append]
    repeat' (first | (refine OS.do rfl ?_; first | refine OD.auto rfl rfl ?_ | refine OD.indexAddr rfl rfl rfl (indexAddrA_nat rfl rfl rfl rfl (by first | assumption | exact List.getElem?_eq_getElem (by omega))) ?_) | refine OS.nil ?_ | refine WS.seq ?_ | refine QS.seqN ?_ | refine WS.region ?_ | refine WS.condD rfl (fun _ => ?_) (fun _ => ?_) | refine WS.skip ?_ | refine WS.block ?_ | refine WS.ret ?_ | refine QS.seqR ?_ | refine QS.blockR ?_ | refine QS.loopR ?_ | refine QS.blockN ?_ | refine WS.exit ?_ | refine QS.seqE ?_ | refine QS.blockH ?_ | refine QS.loopE ?_ | refine WS.draw rfl rfl ?_ | refine QS.rangeR ?_ | refine WS.condB rfl (fun _ => ?_) (fun _ => ?_))
    · rename_i heq
      refine QS.retR (by rfl) fun _ => ?_
      rw [str_beq] at heq
      rw [namesM_dup (i := i) (by omega) (by rw [← of_decide_eq_true heq, List.mem_take_iff_getElem]; exact ⟨j, by omega, rfl⟩)]; rfl
    · rename_i hne
      rw [str_beq] at hne
      exact QS.loopX (j + 1) (by exact (⟨by omega, by rw [List.take_succ_eq_append_getElem (by omega), List.mem_append, not_or]; exact ⟨hm, by simpa using Ne.symm (of_decide_eq_false hne)⟩⟩)) (by exact (by omega))
    · have hji : j = i := by omega
      subst hji
      exact QS.rangeX (()) (by (try dsimp only) <;> exact (⟨all_take_succ hi ha hok, nodup_take_succ hi hd hm⟩))
  · rintro _ ⟨ha, hd⟩
    try dsimp only at ha hd
    dsimp only [RSt.at, List.cons_append, List.nil_append]
    rw [List.take_of_length_le (Nat.le_refl _)] at ha hd
    repeat' (first | (refine OS.do rfl ?_; first | refine OD.auto rfl rfl ?_) | refine OS.nil ?_ | refine WS.seq ?_ | refine QS.seqN ?_ | refine WS.region ?_ | refine WS.ret ?_)
    all_goals (refine QS.retR (by rfl) fun _ => ?_; rw [namesM_ok (by omega) ha hd]; rfl)
end
end Go.OptEnv
