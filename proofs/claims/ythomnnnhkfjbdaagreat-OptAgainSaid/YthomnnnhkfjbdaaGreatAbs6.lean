/- Own text of this claim: part 6 of an interpreter that is proved sound against the model, and of what it shows of the law. -/
import Derived.ChangeArms
import Derived.SizedLaws
import Derived.Test.YthomnnnhkfjbdaaGreatAbs5
namespace Go.Abs
def evPs (l : List (Nat × AV)) : List (Nat × Operand) -> Option (List (Nat × AV))
 | [] => some []
 | (i, x) :: r => match evL l x, evPs l r with
  | some v, some vs => some ((i, v) :: vs)
  | _, _ => none
def evO (l : List (Nat × AV)) : Option Operand -> Option (Option AV)
 | none => some none
 | some x => match evL l x with
  | some v => some (some v)
  | none => none
def fieldAddrA (E : Env) (s : TypeId) (a : AV) (f : Nat) : Option AV :=
 match E.ty s with
 | some sty =>
  match sty.fs[f]? with
  | some (ft, off) =>
   match E.ty ft with
   | some fty => if fty.size = 0 then none else movedA a off
   | none => none
  | none => none
 | none => none
def fieldA (E : Env) (t : TypeId) (a : AV) (f : Nat) : Option AV :=
 match E.ty t with
 | some sty =>
  match sty.fs[f]?, a with
  | some (ft, off), .agg cs => partA E ft cs off
  | _, _ => none
 | none => none
def indexAddrA (E : Env) (t : TypeId) (a iv : AV) : Option AV :=
 match E.ty t, iv with
 | some ty, .int _ i =>
  match ty.d with
  | .slice e =>
   match E.ty e with
   | some et => elemAddrA et.size a i
   | none => none
  | .array n e =>
   match E.ty e with
   | some et => if 0 <= i /\ i < n then movedA a (i.toNat * et.size) else none
   | none => none
  | _ => none
 | _, _ => none
def indexA (E : Env) (t : TypeId) (a iv : AV) : Option AV :=
 match E.ty t, iv with
 | some ty, .int _ i =>
  match ty.d, a with
  | .array n e, .agg cs =>
   match E.ty e with
   | some et => if 0 <= i /\ i < n then partA E e cs (i.toNat * et.size) else none
   | none => none
  | .string, .str s =>
   if 0 <= i then
    match s[i.toNat]? with
    | some b => some (.int .u8 b.toNat)
    | none => none
   else none
  | _, _ => none
 | _, _ => none
def convertA (E : Env) (src dst : TypeId) (a : AV) : Option AV :=
 match E.ty src, E.ty dst with
 | some _, some ty =>
  match ty.d, a with
  | .int k, .int _ n => some (.int k (k.wrap n))
  | .string, .str s => some (.str s)
  | .slice e, .str s =>
   match E.ty e with
   | some et => if et.d = .int .u8 then some (.vs 1 .any (bytesA s)) else none
   | none => none
  | _, _ => none
 | _, _ => none
def buildSliceA (E : Env) (t : TypeId) (len : Nat) (ps : List (Nat × AV)) : Option AV :=
 match E.ty t with
 | some ty =>
  match ty.d with
  | .slice e =>
   match E.ty e with
   | some et => if 0 < et.size /\ len * et.size <= 2 ^ 24 then (litA et 0 len ps).map (.vs et.size .full ·) else none
   | none => none
  | _ => none
 | none => none
def lenTy (E : Env) (st : St) (t : TypeId) (a : AV) : Option AV :=
 match E.ty t with
 | some ty => (lenT st ty.d a).map fun (n : Nat) => AV.int .i64 (n : Int)
 | none => none
def lookTy (E : Env) (st : St) (t : TypeId) (ok : Bool) (m k : AV) : Option AV :=
 match E.ty t with
 | some ty =>
  match ty.d with
  | .map kt et =>
   match E.ty kt, E.ty et with
   | some kty, some ety => lookA E st kty kt et ety.zeroV ok m k
   | _, _ => none
  | _ => none
 | none => none
section
variable {E : Env} {fid N : Nat} {l : List (Nat × AV)} {L : List (Nat × AObj)} {K : List (Nat × Bool)} {Q : AExit -> TM -> St -> Prop}
variable {c : Bool} {pol : Nat -> Nat} {ops : Array Oper} {r : List Oper} {i : Nat}
variable {d : Nat} {ty : TypeId} {pos : String} {after : Array Edge} {guard : Option (Nat × Bool)}
theorem Fa.evps {tm : TM} {st : St} (h : Fa N l L K tm st) : ∀ {xs : List (Nat × Operand)} {vs : List (Nat × AV)}, evPs l xs = some vs -> (xs.map fun (p : Nat × Operand) => (p.1, evalO tm p.2)) = vs
 | [], vs, hx => by simpa [evPs] using hx
 | (j, x) :: xs, vs, hx => by
  simp only [evPs] at hx
  split at hx
  ·rename_i v ws h1 h2
   cases hx
   rw [List.map_cons, h.ev h1, h.evps h2]
  ·cases hx
theorem Fa.evo {tm : TM} {st : St} (h : Fa N l L K tm st) {x : Option Operand} {v : Option AV} (hx : evO l x = some v) : x.map (evalO tm) = v := by
 cases x with
 | none => simpa [evO] using hx
 | some x =>
  simp only [evO] at hx
  split at hx
  ·rename_i u hu; cases hx; rw [Option.map_some, h.ev hu]
  ·cases hx
theorem OD.move {x : Operand} {v : AV} (hn : Nat.blt d N = true) (hx : evL l x = some v) (k : OS E c pol ops r (i + 1) N ((d, v) :: l) L K Q) :
  OD E c pol ops { dst := some d, op := .move x, type := ty, pos := pos, after := after, guard := guard } r i N l L K Q :=
 .quiet rfl hn rfl (fun tm st hF => by show some (evalO tm x) = some v; rw [hF.ev hx]) k
theorem OD.assign {x : Operand} {v : AV} (hn : Nat.blt d N = true) (hx : evL l x = some v) (k : OS E c pol ops r (i + 1) N ((d, v) :: l) L K Q) :
  OD E c pol ops { dst := some d, op := .assign x, type := ty, pos := pos, after := after, guard := guard } r i N l L K Q :=
 .quiet rfl hn rfl (fun tm st hF => by show some (evalO tm x) = some v; rw [hF.ev hx]) k
theorem OD.pickT {x y z : Operand} {v : AV} (hn : Nat.blt d N = true) (hx : evL l x = some (.bool true)) (hy : evL l y = some v) (k : OS E c pol ops r (i + 1) N ((d, v) :: l) L K Q) :
  OD E c pol ops { dst := some d, op := .pick x y z, type := ty, pos := pos, after := after, guard := guard } r i N l L K Q :=
 .quiet rfl hn rfl (fun tm st hF => by
  have : Abs.quiet E tm st { dst := some d, op := .pick x y z, type := ty, pos := pos, after := after, guard := guard } = (match evalO tm x with | .bool t => some (if t then evalO tm y else evalO tm z) | _ => none) := rfl
  rw [this, hF.ev hx, hF.ev hy]; rfl) k
theorem OD.pickF {x y z : Operand} {v : AV} (hn : Nat.blt d N = true) (hx : evL l x = some (.bool false)) (hz : evL l z = some v) (k : OS E c pol ops r (i + 1) N ((d, v) :: l) L K Q) :
  OD E c pol ops { dst := some d, op := .pick x y z, type := ty, pos := pos, after := after, guard := guard } r i N l L K Q :=
 .quiet rfl hn rfl (fun tm st hF => by
  have : Abs.quiet E tm st { dst := some d, op := .pick x y z, type := ty, pos := pos, after := after, guard := guard } = (match evalO tm x with | .bool t => some (if t then evalO tm y else evalO tm z) | _ => none) := rfl
  rw [this, hF.ev hx, hF.ev hz]; rfl) k
theorem OD.load {t : TypeId} {x : Operand} {cs : List AV} {v : AV} (hn : Nat.blt d N = true) (hx : evL l x = some (.ip cs)) (hp : partA E t cs 0 = some v) (k : OS E c pol ops r (i + 1) N ((d, v) :: l) L K Q) :
  OD E c pol ops { dst := some d, op := .load t x, type := ty, pos := pos, after := after, guard := guard } r i N l L K Q :=
 .quiet rfl hn rfl (fun tm st hF => by
  have : Abs.quiet E tm st { dst := some d, op := .load t x, type := ty, pos := pos, after := after, guard := guard } = (match loadCells st (evalO tm x) with | none => none | some cs => partA E t cs 0) := rfl
  rw [this, hF.ev hx]; exact hp) k
theorem OD.loadP (kk : Nat) {t : TypeId} {x : Operand} {b j off sz : Nat} {xs : List AV} {e v : AV} (hn : Nat.blt d N = true) (hx : evL l x = some (.ptr b j off)) (hL : L[kk]? = some (b, .row sz xs)) (he : xs[j]? = some e) (ho : Nat.ble off e.cells.length = true)
  (hp : partA E t (e.cells.drop off) 0 = some v) (k : OS E c pol ops r (i + 1) N ((d, v) :: l) L K Q) :
  OD E c pol ops { dst := some d, op := .load t x, type := ty, pos := pos, after := after, guard := guard } r i N l L K Q :=
 .quiet rfl hn rfl (fun tm st hF => by
  have : Abs.quiet E tm st { dst := some d, op := .load t x, type := ty, pos := pos, after := after, guard := guard } = (match loadCells st (evalO tm x) with | none => none | some cs => partA E t cs 0) := rfl
  rw [this, hF.ev hx]
  simp only [loadCells, (hF.obj kk b _ hL).1, he]
  rw [if_pos (Nat.le_of_ble_eq_true ho)]
  exact hp) k
theorem OD.nilCheckP {x : Operand} {b j off : Nat} (hn : Nat.blt d N = true) (hx : evL l x = some (.ptr b j off)) (k : OS E c pol ops r (i + 1) N ((d, .ptr b j off) :: l) L K Q) :
  OD E c pol ops { dst := some d, op := .nilCheck x, type := ty, pos := pos, after := after, guard := guard } r i N l L K Q :=
 .quiet rfl hn rfl (fun tm st hF => by
  have : Abs.quiet E tm st { dst := some d, op := .nilCheck x, type := ty, pos := pos, after := after, guard := guard } = (match evalO tm x with | .ptr b i off => some (.ptr b i off) | .ip cs => some (.ip cs) | .gptr g => some (.gptr g) | .fn f [] cap => some (.fn f [] cap) | _ => none) := rfl
  rw [this, hF.ev hx]) k
theorem OD.bin {op : BinOp} {t t2 : TypeId} {x y : Operand} {a b v : AV} (hn : Nat.blt d N = true) (hx : evL l x = some a) (hy : evL l y = some b) (h : binA E op t x y a b = some v) (k : OS E c pol ops r (i + 1) N ((d, v) :: l) L K Q) :
  OD E c pol ops { dst := some d, op := .binOp op t x y t2, type := ty, pos := pos, after := after, guard := guard } r i N l L K Q :=
 .quiet rfl hn rfl (fun tm st hF => by
  show binA E op t x y (evalO tm x) (evalO tm y) = some v
  rw [hF.ev hx, hF.ev hy]; exact h) k
theorem OD.un {op : UnOp} {t : TypeId} {x : Operand} {a v : AV} (hn : Nat.blt d N = true) (hx : evL l x = some a) (h : unA op a = some v) (k : OS E c pol ops r (i + 1) N ((d, v) :: l) L K Q) :
  OD E c pol ops { dst := some d, op := .unOp op t x, type := ty, pos := pos, after := after, guard := guard } r i N l L K Q :=
 .quiet rfl hn rfl (fun tm st hF => by
  show unA op (evalO tm x) = some v
  rw [hF.ev hx]; exact h) k
theorem OD.convert {s t : TypeId} {x : Operand} {a v : AV} (hn : Nat.blt d N = true) (hx : evL l x = some a) (h : convertA E s t a = some v) (k : OS E c pol ops r (i + 1) N ((d, v) :: l) L K Q) :
  OD E c pol ops { dst := some d, op := .convert s t x, type := ty, pos := pos, after := after, guard := guard } r i N l L K Q :=
 .quiet rfl hn rfl (fun tm st hF => by
  show convertA E s t (evalO tm x) = some v
  rw [hF.ev hx]; exact h) k
theorem OD.makeFunc {f : FuncId} {first cap : Array Operand} {a b : List AV} (hn : Nat.blt d N = true) (hx : evLs l first.toList = some a) (hy : evLs l cap.toList = some b) (k : OS E c pol ops r (i + 1) N ((d, .fn f a b) :: l) L K Q) :
  OD E c pol ops { dst := some d, op := .makeFunc (.func f) first cap, type := ty, pos := pos, after := after, guard := guard } r i N l L K Q :=
 .quiet rfl hn rfl (fun tm st hF => by
  show some (AV.fn f (first.toList.map (evalO tm)) (cap.toList.map (evalO tm))) = _
  rw [hF.evs hx, hF.evs hy]) k
theorem OD.slice {t : TypeId} {x : Operand} {lo hi mx : Option Operand} {a : AV} {b1 b2 b3 : Option AV} {v : AV} (hn : Nat.blt d N = true) (hx : evL l x = some a) (h1 : evO l lo = some b1) (h2 : evO l hi = some b2) (h3 : evO l mx = some b3) (h : sliceA E t a b1 b2 b3 = some v) (k : OS E c pol ops r (i + 1) N ((d, v) :: l) L K Q) :
  OD E c pol ops { dst := some d, op := .slice t x lo hi mx, type := ty, pos := pos, after := after, guard := guard } r i N l L K Q :=
 .quiet rfl hn rfl (fun tm st hF => by
  show sliceA E t (evalO tm x) (lo.map (evalO tm)) (hi.map (evalO tm)) (mx.map (evalO tm)) = some v
  rw [hF.ev hx, hF.evo h1, hF.evo h2, hF.evo h3]; exact h) k
theorem OD.fieldAddr {s : TypeId} {x : Operand} {f : Nat} {a v : AV} (hn : Nat.blt d N = true) (hx : evL l x = some a) (h : fieldAddrA E s a f = some v) (k : OS E c pol ops r (i + 1) N ((d, v) :: l) L K Q) :
  OD E c pol ops { dst := some d, op := .fieldAddr s x f, type := ty, pos := pos, after := after, guard := guard } r i N l L K Q :=
 .quiet rfl hn rfl (fun tm st hF => by
  show fieldAddrA E s (evalO tm x) f = some v
  rw [hF.ev hx]; exact h) k
theorem OD.field {s : TypeId} {x : Operand} {f : Nat} {a v : AV} (hn : Nat.blt d N = true) (hx : evL l x = some a) (h : fieldA E s a f = some v) (k : OS E c pol ops r (i + 1) N ((d, v) :: l) L K Q) :
  OD E c pol ops { dst := some d, op := .field s x f, type := ty, pos := pos, after := after, guard := guard } r i N l L K Q :=
 .quiet rfl hn rfl (fun tm st hF => by
  show fieldA E s (evalO tm x) f = some v
  rw [hF.ev hx]; exact h) k
theorem OD.indexAddr {t : TypeId} {x y : Operand} {a b v : AV} (hn : Nat.blt d N = true) (hx : evL l x = some a) (hy : evL l y = some b) (h : indexAddrA E t a b = some v) (k : OS E c pol ops r (i + 1) N ((d, v) :: l) L K Q) :
  OD E c pol ops { dst := some d, op := .indexAddr t x y, type := ty, pos := pos, after := after, guard := guard } r i N l L K Q :=
 .quiet rfl hn rfl (fun tm st hF => by
  show indexAddrA E t (evalO tm x) (evalO tm y) = some v
  rw [hF.ev hx, hF.ev hy]; exact h) k
theorem OD.index {t : TypeId} {x y : Operand} {a b v : AV} (hn : Nat.blt d N = true) (hx : evL l x = some a) (hy : evL l y = some b) (h : indexA E t a b = some v) (k : OS E c pol ops r (i + 1) N ((d, v) :: l) L K Q) :
  OD E c pol ops { dst := some d, op := .index t x y, type := ty, pos := pos, after := after, guard := guard } r i N l L K Q :=
 .quiet rfl hn rfl (fun tm st hF => by
  show indexA E t (evalO tm x) (evalO tm y) = some v
  rw [hF.ev hx, hF.ev hy]; exact h) k
theorem OD.extract {x : Operand} {j : Nat} {xs : List AV} {v : AV} (hn : Nat.blt d N = true) (hx : evL l x = some (.tup xs)) (h : xs[j]? = some v) (k : OS E c pol ops r (i + 1) N ((d, v) :: l) L K Q) :
  OD E c pol ops { dst := some d, op := .extract x j, type := ty, pos := pos, after := after, guard := guard } r i N l L K Q :=
 .quiet rfl hn rfl (fun tm st hF => by
  have : Abs.quiet E tm st { dst := some d, op := .extract x j, type := ty, pos := pos, after := after, guard := guard } = (match evalO tm x with | .tup xs => xs[j]? | _ => none) := rfl
  rw [this, hF.ev hx]; exact h) k
theorem OD.build {t : TypeId} {ps : Array (Nat × Operand)} {vs : List (Nat × AV)} {v : AV} (hn : Nat.blt d N = true) (hx : evPs l ps.toList = some vs) (h : buildA E t vs = some v) (k : OS E c pol ops r (i + 1) N ((d, v) :: l) L K Q) :
  OD E c pol ops { dst := some d, op := .build t ps, type := ty, pos := pos, after := after, guard := guard } r i N l L K Q :=
 .quiet rfl hn rfl (fun tm st hF => by
  show buildA E t (ps.toList.map fun (p : Nat × Operand) => (p.1, evalO tm p.2)) = some v
  rw [hF.evps hx]; exact h) k
theorem OD.buildSlice {t : TypeId} {n : Nat} {ps : Array (Nat × Operand)} {vs : List (Nat × AV)} {v : AV} (hn : Nat.blt d N = true) (hx : evPs l ps.toList = some vs) (h : buildSliceA E t n vs = some v) (k : OS E c pol ops r (i + 1) N ((d, v) :: l) L K Q) :
  OD E c pol ops { dst := some d, op := .buildSlice t n ps, type := ty, pos := pos, after := after, guard := guard } r i N l L K Q :=
 .quiet rfl hn rfl (fun tm st hF => by
  show buildSliceA E t n (ps.toList.map fun (p : Nat × Operand) => (p.1, evalO tm p.2)) = some v
  rw [hF.evps hx]; exact h) k
theorem OD.len {x : Operand} {t : TypeId} {a v : AV} (hn : Nat.blt d N = true) (hx : evL l x = some a) (h : ∀ st, lenTy E st t a = some v) (k : OS E c pol ops r (i + 1) N ((d, v) :: l) L K Q) :
  OD E c pol ops { dst := some d, op := .call { callee := .builtin .len, args := #[x], argTypes := #[t] }, type := ty, pos := pos, after := after, guard := guard } r i N l L K Q :=
 .quiet rfl hn rfl (fun tm st hF => by
  show lenTy E st t (evalO tm x) = some v
  rw [hF.ev hx]; exact h st) k
theorem OD.max {x y : Operand} {ts : Array TypeId} {kd : IntKind} {a b : Int} (hn : Nat.blt d N = true) (hx : evL l x = some (.int kd a)) (hy : evL l y = some (.int kd b)) (k : OS E c pol ops r (i + 1) N ((d, .int kd (if b > a then b else a)) :: l) L K Q) :
  OD E c pol ops { dst := some d, op := .call { callee := .builtin .max, args := #[x, y], argTypes := ts }, type := ty, pos := pos, after := after, guard := guard } r i N l L K Q :=
 .quiet rfl hn rfl (fun tm st hF => by
  have : Abs.quiet E tm st { dst := some d, op := .call { callee := .builtin .max, args := #[x, y], argTypes := ts }, type := ty, pos := pos, after := after, guard := guard } = (match [evalO tm x, evalO tm y] with | [.int k x, .int l y] => if k = l then some (.int k (if y > x then y else x)) else none | _ => none) := rfl
  rw [this, hF.ev hx, hF.ev hy]; simp) k
theorem OD.min {x y : Operand} {ts : Array TypeId} {kd : IntKind} {a b : Int} (hn : Nat.blt d N = true) (hx : evL l x = some (.int kd a)) (hy : evL l y = some (.int kd b)) (k : OS E c pol ops r (i + 1) N ((d, .int kd (if b < a then b else a)) :: l) L K Q) :
  OD E c pol ops { dst := some d, op := .call { callee := .builtin .min, args := #[x, y], argTypes := ts }, type := ty, pos := pos, after := after, guard := guard } r i N l L K Q :=
 .quiet rfl hn rfl (fun tm st hF => by
  have : Abs.quiet E tm st { dst := some d, op := .call { callee := .builtin .min, args := #[x, y], argTypes := ts }, type := ty, pos := pos, after := after, guard := guard } = (match [evalO tm x, evalO tm y] with | [.int k x, .int l y] => if k = l then some (.int k (if y < x then y else x)) else none | _ => none) := rfl
  rw [this, hF.ev hx, hF.ev hy]; simp) k
theorem OD.lookup (kk : Nat) {t : TypeId} {x y : Operand} {ok : Bool} {b : Nat} {kt et : TypeId} {es : List (AV × AV)} {kv v : AV} (hn : Nat.blt d N = true) (hx : evL l x = some (.map b)) (hy : evL l y = some kv) (hL : L[kk]? = some (b, .map kt et es))
  (h : ∀ st : St, st.get b = some (.map kt et es) -> lookTy E st t ok (.map b) kv = some v) (k : OS E c pol ops r (i + 1) N ((d, v) :: l) L K Q) :
  OD E c pol ops { dst := some d, op := .lookup t x y ok, type := ty, pos := pos, after := after, guard := guard } r i N l L K Q :=
 .quiet rfl hn rfl (fun tm st hF => by
  show lookTy E st t ok (evalO tm x) (evalO tm y) = some v
  rw [hF.ev hx, hF.ev hy]; exact h st (hF.obj kk b _ hL).1) k
theorem OD.loud {o : Oper} (hl : isLoud o.op = true) (hf : isFnCall o.op = false) (hal : ∀ t, o.op = .alloc t -> hasAlloc ops = true)
  (hq : ∀ tm st, Fa N l L K tm st -> ∃ v st' l' L' K', Abs.loud E noCall (pol i) tm st o = some (v, st') /\ Fa N l' L' K' (putO tm o.dst v) st' /\ OS E false pol ops r (i + 1) N l' L' K' Q) : OD E false pol ops o r i N l L K Q := by
 intro pre tm st hF hp hw
 obtain ⟨v, st', l', L', K', h1, h2, h3⟩ := hq tm st hF
 obtain ⟨n, tr, tm1, st1, h4, hs, h5⟩ := h3 pre _ st' h2 hp
 refine ⟨n, ⟨tm, st, st', v, true⟩ :: tr, tm1, st1, ?_, (fun hc => by cases hc), h5⟩
 have hs' : stepPre E (callF E n) pre (pol i) i tm st o = some (v, st') := stepPre_loud (fun b hb => ⟨(hp b hb).2, fun t ho => by
  have := (hp b hb).1
  rw [hal t ho] at this; cases this⟩) hl hf h1
 simp only [runOpsT]
 rw [hw]
 dsimp only
 rw [hs']
 dsimp only
 rw [h4]
theorem Fa.new {tm : TM} {st : St} (h : Fa N l L K tm st) (o : AObj) : Fa N l ((st.next, o) :: L) K tm (st.new o) := by
 refine ⟨h.n, h.get, fun k b o' hk => ?_, fun k k' b o1 o2 hk hk' => ?_, fun k t hk => ⟨(h.tok k t hk).1, by simp only [St.next_new]; have := (h.tok k t hk).2; omega⟩, h.uniqT⟩
 ·cases k with
  | zero =>
   simp only [List.getElem?_cons_zero, Option.some.injEq, Prod.mk.injEq] at hk
   obtain ⟨rfl, rfl⟩ := hk
   exact ⟨by simp, by simp⟩
  | succ k =>
   simp only [List.getElem?_cons_succ] at hk
   have := h.obj k b o' hk
   refine ⟨?_, by simp only [St.next_new]; omega⟩
   rw [St.get_new, if_neg (by omega)]; exact this.1
 ·cases k with
  | zero => cases k' with
   | zero => rfl
   | succ k' =>
    simp only [List.getElem?_cons_zero, List.getElem?_cons_succ, Option.some.injEq, Prod.mk.injEq] at hk hk'
    have := (h.obj k' b o2 hk').2
    omega
  | succ k => cases k' with
   | zero =>
    simp only [List.getElem?_cons_zero, List.getElem?_cons_succ, Option.some.injEq, Prod.mk.injEq] at hk hk'
    have := (h.obj k b o1 hk).2
    omega
   | succ k' =>
    simp only [List.getElem?_cons_succ] at hk hk'
    rw [h.uniq k k' b o1 o2 hk hk']
theorem Fa.tag {tm : TM} {st : St} (h : Fa N l L K tm st) (b : Nat) (t : TypeId) : Fa N l L K tm (st.tag b t) := ⟨h.n, h.get, h.obj, h.uniq, h.tok, h.uniqT⟩
theorem Fa.ttag {tm : TM} {st : St} (h : Fa N l L K tm st) (b : Nat) (t : TypeId) : Fa N l L K tm (st.ttag b t) := ⟨h.n, h.get, h.obj, h.uniq, h.tok, h.uniqT⟩
theorem Fa.set {tm : TM} {st : St} (h : Fa N l L K tm st) {k b : Nat} {o : AObj} (hk : L[k]? = some (b, o)) (o' : AObj) : Fa N l (L.set k (b, o')) K tm (st.put b o') := by
 refine ⟨h.n, h.get, fun k1 b1 o1 h1 => ?_, fun k1 k2 b1 o1 o2 h1 h2 => ?_, h.tok, h.uniqT⟩
 ·rw [List.getElem?_set] at h1
  by_cases e : k = k1
  ·subst e
   rw [if_pos rfl, if_pos (List.getElem?_eq_some_iff.1 hk).1] at h1
   simp only [Option.some.injEq, Prod.mk.injEq] at h1
   obtain ⟨rfl, rfl⟩ := h1
   exact ⟨by simp, (h.obj k b o hk).2⟩
  ·rw [if_neg e] at h1
   have := h.obj k1 b1 o1 h1
   refine ⟨?_, this.2⟩
   rw [St.get_put, if_neg]
   ·exact this.1
   ·rintro rfl
    exact e (h.uniq k k1 b _ _ hk h1)
 ·have hx : ∀ (j : Nat) (b1 : Nat) (o1 : AObj), (L.set k (b, o'))[j]? = some (b1, o1) -> ∃ o2, L[j]? = some (b1, o2) := fun j b1 o1 hj => by
   rw [List.getElem?_set] at hj
   by_cases e : k = j
   ·subst e
    rw [if_pos rfl, if_pos (List.getElem?_eq_some_iff.1 hk).1] at hj
    simp only [Option.some.injEq, Prod.mk.injEq] at hj
    obtain ⟨rfl, _⟩ := hj
    exact ⟨o, hk⟩
   ·rw [if_neg e] at hj; exact ⟨o1, hj⟩
  obtain ⟨p1, h1⟩ := hx _ _ _ h1
  obtain ⟨p2, h2⟩ := hx _ _ _ h2
  exact h.uniq _ _ _ _ _ h1 h2
theorem OD.alloc {t : TypeId} {y : Ty} (hn : Nat.blt d N = true) (ht : E.ty t = some y) (hs : Nat.blt 0 y.size = true) (hal : hasAlloc ops = true) (k : ∀ b, OS E false pol ops r (i + 1) N ((d, .ptr b 0 0) :: l) ((b, .row y.size [y.zeroV]) :: L) K Q) :
  OD E false pol ops { dst := some d, op := .alloc t, type := ty, pos := pos, after := after, guard := guard } r i N l L K Q := by
 refine .loud rfl rfl (fun _ _ => hal) fun tm st hF => ⟨.ptr st.next 0 0, (st.new (.row y.size [y.zeroV])).tag st.next t, _, _, _, ?_, ((hF.new _).tag _ _).put hn _, k st.next⟩
 show allocA E st t = _
 unfold allocA
 rw [ht]
 dsimp only
 rw [if_pos (Eq.mp Nat.blt_eq hs)]
theorem OD.box {t : TypeId} {x : Operand} {y : Ty} {v : AV} (hn : Nat.blt d N = true) (hx : evL l x = some v) (ht : E.ty t = some y) (hs : Nat.blt 0 y.size = true) (hok : v.ok = true) (hc : v.cells.length = y.size) (k : ∀ b, OS E false pol ops r (i + 1) N ((d, .ptr b 0 0) :: l) ((b, .row y.size [v]) :: L) K Q) :
  OD E false pol ops { dst := some d, op := .box t x, type := ty, pos := pos, after := after, guard := guard } r i N l L K Q := by
 refine .loud rfl rfl (fun _ h => by cases h) fun tm st hF => ⟨.ptr st.next 0 0, st.new (.row y.size [v]), _, _, _, ?_, (hF.new _).put hn _, k st.next⟩
 show boxA E st t (evalO tm x) = _
 unfold boxA
 rw [ht, hF.ev hx]
 dsimp only
 rw [if_pos ⟨Eq.mp Nat.blt_eq hs, hok, hc⟩]
theorem OD.storeW (kk : Nat) {t : TypeId} {x z : Operand} {y : Ty} {b sz : Nat} {e v : AV} (hx : evL l x = some (.ptr b 0 0)) (hz : evL l z = some v) (ht : E.ty t = some y) (hL : L[kk]? = some (b, .row sz [e])) (hok : v.ok = true) (hc : v.cells.length = y.size) (he : e.cells.length = y.size)
  (hsame : (match e with | .agg _ => true | _ => false) = (match v with | .agg _ => true | _ => false)) (k : OS E false pol ops r (i + 1) N l (L.set kk (b, .row sz [v])) K Q) :
  OD E false pol ops { dst := none, op := .store t x z, type := ty, pos := pos, after := after, guard := guard } r i N l L K Q := by
 refine .loud rfl rfl (fun _ h => by cases h) fun tm st hF => ⟨.junk, st.put b (.row sz [v]), _, _, _, ?_, hF.set hL _, k⟩
 have : Abs.loud E noCall (pol i) tm st { dst := none, op := .store t x z, type := ty, pos := pos, after := after, guard := guard } = (match E.ty t with | some ty => if (evalO tm z).cells.length = ty.size then (storeA st (evalO tm x) (evalO tm z)).map fun s => (.junk, s) else none | none => none) := rfl
 rw [this, ht, hF.ev hx, hF.ev hz]
 dsimp only
 rw [if_pos hc]
 simp only [storeA, (hF.obj kk b _ hL).1, List.getElem?_cons_zero, hok, Bool.true_and, Nat.zero_add]
 rw [hc, he, if_pos (by simp)]
 cases e with
 | agg cs =>
  cases v with
  | agg ds =>
   simp only [AV.cells] at he hc
   simp [AV.cells, <- he]
  | _ => simp at hsame
 | _ =>
  cases v with
  | agg ds => simp at hsame
  | _ => simp
theorem OD.makeMap {t kt et : TypeId} {y : Ty} (hn : Nat.blt d N = true) (ht : E.ty t = some y) (hd : y.d = .map kt et) (k : ∀ b, OS E false pol ops r (i + 1) N ((d, .map b) :: l) ((b, .map kt et []) :: L) K Q) :
  OD E false pol ops { dst := some d, op := .makeMap t none, type := ty, pos := pos, after := after, guard := guard } r i N l L K Q := by
 refine .loud rfl rfl (fun _ h => by cases h) fun tm st hF => ⟨.map st.next, st.new (.map kt et []), _, _, _, ?_, (hF.new _).put hn _, k st.next⟩
 have : Abs.loud E noCall (pol i) tm st { dst := some d, op := .makeMap t none, type := ty, pos := pos, after := after, guard := guard } = (match E.ty t with | some ty => (match ty.d with | .map kt et => some (.map st.next, st.new (.map kt et [])) | _ => none) | none => none) := rfl
 rw [this, ht]
 dsimp only
 rw [hd]
theorem OD.mapUpdate (kk : Nat) {t kt et : TypeId} {x z u : Operand} {y ky : Ty} {b : Nat} {es es' : List (AV × AV)} {kv v : AV} (hx : evL l x = some (.map b)) (hz : evL l z = some kv) (hu : evL l u = some v) (ht : E.ty t = some y) (hd : y.d = .map kt et) (hk : E.ty kt = some ky) (hL : L[kk]? = some (b, .map kt et es))
  (h : ∀ st : St, st.get b = some (.map kt et es) -> mapPutA E st ky kt et b kv v = some (st.put b (.map kt et es'))) (k : OS E false pol ops r (i + 1) N l (L.set kk (b, .map kt et es')) K Q) :
  OD E false pol ops { dst := none, op := .mapUpdate t x z u, type := ty, pos := pos, after := after, guard := guard } r i N l L K Q := by
 refine .loud rfl rfl (fun _ h => by cases h) fun tm st hF => ⟨.junk, st.put b (.map kt et es'), _, _, _, ?_, hF.set hL _, k⟩
 show mapOpA E st t (evalO tm x) (evalO tm z) (evalO tm u) = _
 unfold mapOpA
 rw [ht, hF.ev hx, hF.ev hz, hF.ev hu]
 dsimp only
 rw [hd]
 dsimp only
 rw [hk]
 dsimp only
 rw [h st (hF.obj kk b _ hL).1]
 rfl
def accA (t sz : Nat) (xs : List AV) : AV := match xs with | [] => .nilsl | _ :: _ => .vs sz (.tok t) xs
theorem Fa.tokDrop {tm : TM} {st : St} (h : Fa N l L K tm st) {kk t : Nat} (hk : K[kk]? = some (t, true)) : Fa N l L (K.set kk (st.next, true)) tm (st.dropTok t).newTok := by
 refine ⟨h.n, h.get, fun k b o hk => ⟨(h.obj k b o hk).1, by have := (h.obj k b o hk).2; simp only [St.next_newTok, St.next_dropTok]; omega⟩, h.uniq, fun k u hu => ?_, fun k k' u hu hu' => ?_⟩
 ·rw [List.getElem?_set] at hu
  by_cases e : kk = k
  ·subst e
   rw [if_pos rfl, if_pos (List.getElem?_eq_some_iff.1 hk).1] at hu
   simp only [Option.some.injEq, Prod.mk.injEq, and_true] at hu
   subst hu
   exact ⟨by simp, by simp⟩
  ·rw [if_neg e] at hu
   have := h.tok k u hu
   refine ⟨?_, by simp only [St.next_newTok, St.next_dropTok]; omega⟩
   have hne : t ≠ u := by rintro rfl; exact e (h.uniqT _ _ _ hk hu)
   simp [hne, this.1]
 ·have hlt : ∀ (k u : Nat), K[k]? = some (u, true) -> u ≠ st.next := fun k u hu e => by have := (h.tok k u hu).2; omega
  rw [List.getElem?_set] at hu hu'
  have hl := (List.getElem?_eq_some_iff.1 hk).1
  by_cases e : kk = k
  ·by_cases e' : kk = k'
   ·omega
   ·rw [if_pos e, if_pos hl] at hu
    rw [if_neg e'] at hu'
    simp only [Option.some.injEq, Prod.mk.injEq, and_true] at hu
    exact absurd hu.symm (hlt k' u hu')
  ·by_cases e' : kk = k'
   ·rw [if_neg e] at hu
    rw [if_pos e', if_pos hl] at hu'
    simp only [Option.some.injEq, Prod.mk.injEq, and_true] at hu'
    exact absurd hu'.symm (hlt k u hu)
   ·rw [if_neg e] at hu
    rw [if_neg e'] at hu'
    exact h.uniqT _ _ _ hu hu'
theorem Fa.tokNew {tm : TM} {st : St} (h : Fa N l L K tm st) {kk t : Nat} (hk : K[kk]? = some (t, false)) : Fa N l L (K.set kk (st.next, true)) tm st.newTok := by
 refine ⟨h.n, h.get, fun k b o hk => ⟨(h.obj k b o hk).1, by have := (h.obj k b o hk).2; simp only [St.next_newTok]; omega⟩, h.uniq, fun k u hu => ?_, fun k k' u hu hu' => ?_⟩
 ·rw [List.getElem?_set] at hu
  by_cases e : kk = k
  ·subst e
   rw [if_pos rfl, if_pos (List.getElem?_eq_some_iff.1 hk).1] at hu
   simp only [Option.some.injEq, Prod.mk.injEq, and_true] at hu
   subst hu
   exact ⟨by simp, by simp⟩
  ·rw [if_neg e] at hu
   have := h.tok k u hu
   exact ⟨by simp [this.1], by simp only [St.next_newTok]; omega⟩
 ·have hlt : ∀ (k u : Nat), K[k]? = some (u, true) -> u ≠ st.next := fun k u hu e => by have := (h.tok k u hu).2; omega
  rw [List.getElem?_set] at hu hu'
  have hl := (List.getElem?_eq_some_iff.1 hk).1
  by_cases e : kk = k
  ·by_cases e' : kk = k'
   ·omega
   ·rw [if_pos e, if_pos hl] at hu
    rw [if_neg e'] at hu'
    simp only [Option.some.injEq, Prod.mk.injEq, and_true] at hu
    exact absurd hu.symm (hlt k' u hu')
  ·by_cases e' : kk = k'
   ·rw [if_neg e] at hu
    rw [if_pos e', if_pos hl] at hu'
    simp only [Option.some.injEq, Prod.mk.injEq, and_true] at hu'
    exact absurd hu'.symm (hlt k u hu)
   ·rw [if_neg e] at hu
    rw [if_neg e'] at hu'
    exact h.uniqT _ _ _ hu hu'
theorem OD.append (kk : Nat) {ts tx e : TypeId} {s x : Operand} {t sz sz' : Nat} {xs ys : List AV} {a : AV} {tys tyx et : Ty} (hn : Nat.blt d N = true) (hpol : Nat.beq (pol i) 1 = false) (hs : evL l s = some (accA t sz xs)) (hx : evL l x = some a) (hK : K[kk]? = some (t, !xs.isEmpty))
  (h1 : E.ty ts = some tys) (h2 : E.ty tx = some tyx) (h3 : tys.d = .slice e) (h4 : E.ty e = some et) (h5 : Nat.blt 0 et.size = true) (h6 : sz = et.size) (h7 : (tyx.d = .string /\ isStrA a = true) \/ ((∃ e', tyx.d = .slice e') /\ isStrA a = false)) (h8 : ∀ st, elemsA st a = some (sz', ys)) (h9 : okElems et ys = true) (h10 : ys.isEmpty || Nat.beq sz' et.size)
  (hroom : roomA et (xs.length + ys.length) = true) (k : ∀ t', OS E false pol ops r (i + 1) N ((d, accA t' sz (xs ++ ys)) :: l) L (K.set kk (t', !(xs ++ ys).isEmpty)) Q) :
  OD E false pol ops { dst := some d, op := .call { callee := .builtin .append, args := #[s, x], argTypes := #[ts, tx] }, type := ty, pos := pos, after := after, guard := guard } r i N l L K Q := by
 subst h6
 have key : ∀ st : St, appendOpA E false st ts tx (accA t et.size xs) a = appendA false e et st (accA t et.size xs) ys := fun st => by
  unfold appendOpA
  rw [h1, h2]
  dsimp only
  rw [h3]
  dsimp only
  rw [h4]
  dsimp only
  rw [if_pos (Eq.mp Nat.blt_eq h5)]
  have h10' : (ys.isEmpty || sz' == et.size) = true := by
   cases hy : ys.isEmpty with
   | true => rfl
   | false =>
    rw [hy] at h10
    simp only [Bool.false_or] at h10
    simp [Nat.eq_of_beq_eq_true h10]
  rcases h7 with ⟨h7, h7'⟩ | ⟨⟨e', h7⟩, h7'⟩
  ·rw [h7]; dsimp only; rw [h8 st]; dsimp only; rw [if_pos ⟨h9, h10', by simp [h7']⟩]
  ·rw [h7]; dsimp only; rw [h8 st]; dsimp only; rw [if_pos ⟨h9, h10', by simp [h7']⟩]
 refine .loud rfl rfl (fun _ h => by cases h) fun tm st hF => ?_
 have h0 : Abs.loud E noCall (pol i) tm st { dst := some d, op := .call { callee := .builtin .append, args := #[s, x], argTypes := #[ts, tx] }, type := ty, pos := pos, after := after, guard := guard } = appendOpA E (pol i == 1) st ts tx (evalO tm s) (evalO tm x) := rfl
 have hp : (pol i == 1) = false := by
  have := Nat.ne_of_beq_eq_false hpol
  simpa using this
 rw [h0, hF.ev hs, hF.ev hx, hp, key st]
 cases xs with
 | nil =>
  cases ys with
  | nil =>
   refine ⟨.nilsl, st, _, L, _, rfl, ?_, k t⟩
   have : K.set kk (t, !([] ++ [] : List AV).isEmpty) = K := by
    have hx : (!([] ++ [] : List AV).isEmpty) = (!([] : List AV).isEmpty) := rfl
    rw [hx]
    apply List.ext_getElem?
    intro j
    rw [List.getElem?_set]
    by_cases e : kk = j
    ·subst e; rw [if_pos rfl, if_pos (List.getElem?_eq_some_iff.1 hK).1, hK]
    ·rw [if_neg e]
   rw [this]
   exact hF.put hn _
  | cons y ys =>
   refine ⟨.vs et.size (.tok st.next) (y :: ys), st.newTok.ttag st.next e, _, L, _, ?_, ?_, k st.next⟩
   ·simp only [accA, appendA]
    rw [if_pos (by simpa using hroom)]
    rfl
   ·exact ((hF.tokNew (by simpa using hK)).ttag _ _).put hn _
 | cons x0 xs =>
  have hK' : K[kk]? = some (t, true) := by simpa using hK
  refine ⟨.vs et.size (.tok st.next) (x0 :: xs ++ ys), tokOnA st t e, _, L, _, ?_, ?_, k st.next⟩
  ·simp only [accA, appendA]
   rw [if_pos ⟨trivial, (hF.tok kk t hK').1, hroom⟩]
  ·have hF' : Fa N l L (K.set kk (st.next, true)) tm (tokOnA st t e) := by
    unfold tokOnA
    split
    ·split
     ·exact (hF.tokDrop hK').ttag _ _
     ·exact hF.tokDrop hK'
    ·exact hF.tokDrop hK'
   exact hF'.put hn _
theorem OD.call {f : Operand} {args : Array Operand} {argTypes : Array TypeId} {g : FuncId} {first cap vs : List AV} {p : List AV -> St -> Option (AV × St)} {v : AV} (hn : Nat.blt d N = true) (hf : evL l f = some (.fn g first cap)) (ha : evLs l args.toList = some vs) (hp : E.prim g = some p) (hr : ∀ st, p (first ++ vs ++ cap) st = some (v, st)) (hz : ∀ st, freezeA st v = some (v, st))
  (k : OS E c pol ops r (i + 1) N ((d, v) :: l) L K Q) : OD E c pol ops { dst := some d, op := .call { callee := .value f, args := args, argTypes := argTypes }, type := ty, pos := pos, after := after, guard := guard } r i N l L K Q := by
 intro pre tm st hF hp' hw
 obtain ⟨n, tr, tm1, st1, h1, hs, h2⟩ := k pre (tm.put d v) st (hF.put hn v) hp'
 refine ⟨n + 1, ⟨tm, st, st, v, true⟩ :: tr, tm1, st1, ?_, fun hc => ⟨(hs hc).1, ?_⟩, h2⟩
 ·have hl : Abs.loud E (callF E (n + 1)) (pol i) tm st { dst := some d, op := .call { callee := .value f, args := args, argTypes := argTypes }, type := ty, pos := pos, after := after, guard := guard } = some (v, st) := by
   have : Abs.loud E (callF E (n + 1)) (pol i) tm st { dst := some d, op := .call { callee := .value f, args := args, argTypes := argTypes }, type := ty, pos := pos, after := after, guard := guard } = (match evalO tm f with | .fn g first cap => callF E (n + 1) g (first ++ args.toList.map (evalO tm) ++ cap) st | _ => none) := rfl
   rw [this, hF.ev hf, hF.evs ha]
   simp only [callF, hp]
   exact hr st
  have hst : stepPre E (callF E (n + 1)) pre (pol i) i tm st { dst := some d, op := .call { callee := .value f, args := args, argTypes := argTypes }, type := ty, pos := pos, after := after, guard := guard } = some (v, st) := by
   simp only [stepPre, stepOp, isLoud, if_true, hl, isFnCall, Bool.and_true, decide_eq_true_eq]
   split
   ·exact hz st
   ·rfl
  simp only [runOpsT]
  rw [hw]
  dsimp only
  rw [hst]
  dsimp only [putO]
  rw [runOpsT_mono (callF_mono n (n + 1) (by omega)) _ _ _ _ h1]
 ·exact .cons ⟨rfl, rfl, fun _ h => by simp [isLoud] at h⟩ (hs hc).2
end
end Go.Abs
namespace Go.Abs
open Go.RowKit
def Ghost.all (w : World) : Ghost := ⟨fun b o => w.cell? ⟨b, o, none⟩, fun _ => none, fun _ => none, fun _ => none, fun _ => none, fun b o => w.cell? ⟨b, o, none⟩⟩
theorem Inv.all (w : World) : Inv w.heap.size w (Ghost.all w) St.empty w := by
 refine ⟨Below.refl _ w, Nat.le_refl _, fun _ _ _ h => h, fun _ _ => ⟨rfl, rfl, rfl, rfl, rfl⟩, fun _ _ _ _ _ _ _ h => (by cases h), fun _ _ _ _ _ h => (by cases h), fun _ _ _ _ h => (by cases h), ?_, ?_, fun _ h => (by cases h), fun _ _ h => (by cases h), fun _ _ h => (by cases h), fun _ _ h => (by cases h), fun _ _ _ _ h => h⟩
 ·rintro i j blk (⟨_, _, _, _, _, h, _⟩ | ⟨_, _, _, h, _⟩ | ⟨h, _⟩) <;> cases h
 ·rintro i blk (⟨_, _, _, _, _, h, _⟩ | ⟨_, _, _, h, _⟩ | ⟨h, _⟩) <;> cases h
mutual
def AV.scal : AV -> Bool
 | .bool _ | .int _ _ | .str _ | .nilptr | .nilsl | .nilmap | .nilfn | .nilif => true
 | .tup xs => AV.scalL xs
 | .agg xs => AV.scalL xs
 | _ => false
def AV.scalL : List AV -> Bool
 | [] => true
 | x :: xs => AV.scal x && AV.scalL xs
end
mutual
theorem R.scal {Γ Δ : Ghost} : ∀ (x : AV) (v : Value), AV.scal x = true -> R Γ x v -> R Δ x v
 | .bool _, _, _, k | .int _ _, _, _, k | .str _, _, _, k | .nilptr, _, _, k | .nilsl, _, _, k | .nilmap, _, _, k | .nilfn, _, _, k | .nilif, _, _, k => by simpa only [R] using k
 | .tup xs, v, h, k => by
  simp only [AV.scal] at h
  simp only [R] at k ⊢
  obtain ⟨vs, k1, k2⟩ := k
  exact ⟨vs, k1, RL.scal xs _ h k2⟩
 | .agg xs, v, h, k => by
  simp only [AV.scal] at h
  simp only [R] at k ⊢
  obtain ⟨vs, k1, k2⟩ := k
  exact ⟨vs, k1, RL.scal xs _ h k2⟩
 | .ptr _ _ _, _, h, _ | .ip _, _, h, _ | .gptr _, _, h, _ | .es, _, h, _ | .vs _ _ _, _, h, _ | .sl _ _ _ _, _, h, _ | .map _, _, h, _ | .fn _ _ _, _, h, _ | .iface _ _, _, h, _ | .junk, _, h, _ => by simp [AV.scal] at h
theorem RL.scal {Γ Δ : Ghost} : ∀ (xs : List AV) (vs : List Value), AV.scalL xs = true -> RL Γ xs vs -> RL Δ xs vs
 | [], _, _, k => by simpa only [RL] using k
 | x :: xs, _, h, k => by
  simp only [AV.scalL, Bool.and_eq_true] at h
  simp only [RL] at k ⊢
  obtain ⟨v, r, k1, k2, k3⟩ := k
  exact ⟨v, r, k1, R.scal x v h.1 k2, RL.scal xs r h.2 k3⟩
end
def mapO {α β : Type} (f : α -> Option β) : List α -> Option (List β)
 | [] => some []
 | x :: xs =>
  match f x, mapO f xs with
  | some y, some ys => some (y :: ys)
  | _, _ => none
theorem mapO_length {α β : Type} {f : α -> Option β} : ∀ {xs : List α} {ys : List β}, mapO f xs = some ys -> ys.length = xs.length
 | [], _, h => by simp only [mapO, Option.some.injEq] at h; subst h; rfl
 | x :: xs, ys, h => by
  simp only [mapO] at h
  split at h
  ·rename_i y ys' h1 h2
   cases h
   simp [mapO_length h2]
  ·cases h
def viewA (st : St) : Nat -> AV -> Option AV
 | 0, _ => none
 | n + 1, x =>
  if AV.free x then some (AV.plain x) else
  match x with
  | .sl sz b off len =>
   match st.get b with
   | some (.row sz' xs) => if sz' = sz /\ off + len <= xs.length then (mapO (viewA st n) ((xs.drop off).take len)).map (.vs sz .any ·) else none
   | _ => none
  | .agg cs => (mapO (viewA st n) cs).map .agg
  | .vs sz _ xs => (mapO (viewA st n) xs).map (.vs sz .any ·)
  | _ => none
section
variable {P : Program}
mutual
theorem free_plain' : ∀ x : AV, AV.free (AV.plain x) = AV.free x
 | .bool _ | .int _ _ | .str _ | .ptr _ _ _ | .nilptr | .gptr _ | .nilsl | .es | .sl _ _ _ _ | .map _ | .nilmap | .nilfn | .nilif | .junk => by simp [AV.plain, AV.free]
 | .ip a => by simp [AV.plain, AV.free, freeL_plainL' a]
 | .vs _ o a => by simp [AV.plain, AV.free, freeL_plainL' a]
 | .fn _ a b => by simp [AV.plain, AV.free, freeL_plainL' a, freeL_plainL' b]
 | .iface _ a => by simp [AV.plain, AV.free, free_plain' a]
 | .agg a => by simp [AV.plain, AV.free, freeL_plainL' a]
 | .tup a => by simp [AV.plain, AV.free, freeL_plainL' a]
theorem freeL_plainL' : ∀ x : List AV, AV.freeL (AV.plainL x) = AV.freeL x
 | [] => rfl
 | x :: xs => by simp [AV.plainL, AV.freeL, free_plain' x, freeL_plainL' xs]
end
theorem mapO_ok {f : AV -> Option AV} (hf : ∀ x y, f x = some y -> y.cellOk = x.cellOk /\ y.ok = x.ok /\ AV.free y = true) : ∀ {xs ys : List AV}, mapO f xs = some ys -> ys.all AV.cellOk = xs.all AV.cellOk /\ AV.freeL ys = true
 | [], _, h => by simp only [mapO, Option.some.injEq] at h; subst h; exact ⟨rfl, rfl⟩
 | x :: xs, ys, h => by
  simp only [mapO] at h
  split at h
  ·rename_i y ys' h1 h2
   cases h
   obtain ⟨a1, _, a3⟩ := hf _ _ h1
   obtain ⟨b1, b2⟩ := mapO_ok hf h2
   simp only [List.all_cons, a1, b1, AV.freeL, a3, b2, Bool.and_self, and_self]
  ·cases h
theorem viewA_ok {st : St} : ∀ (n : Nat) (x y : AV), viewA st n x = some y -> y.cellOk = x.cellOk /\ y.ok = x.ok /\ AV.free y = true
 | 0, _, _, h => by simp [viewA] at h
 | n + 1, x, y, h => by
  have ih := viewA_ok (st := st) n
  simp only [viewA] at h
  split at h
  ·rename_i hf
   cases h
   exact ⟨cellOk_plain x, ok_plain x, by rw [free_plain']; exact hf⟩
  ·split at h
   ·split at h
    ·split at h
     ·obtain ⟨ys, h1, h2⟩ := Option.map_eq_some_iff.1 h
      subst h2
      exact ⟨rfl, rfl, by simp only [AV.free]; exact (mapO_ok ih h1).2⟩
     ·cases h
    ·cases h
   ·obtain ⟨ys, h1, h2⟩ := Option.map_eq_some_iff.1 h
    subst h2
    exact ⟨rfl, (mapO_ok ih h1).1, by simp only [AV.free]; exact (mapO_ok ih h1).2⟩
   ·obtain ⟨ys, h1, h2⟩ := Option.map_eq_some_iff.1 h
    subst h2
    exact ⟨rfl, rfl, by simp only [AV.free]; exact (mapO_ok ih h1).2⟩
   ·cases h
theorem mapO_RL {Γ Δ : Ghost} {f : AV -> Option AV} (hf : ∀ (x y : AV) (v : Value), f x = some y -> R Γ x v -> R Δ y v) : ∀ (xs ys : List AV) (vs : List Value), mapO f xs = some ys -> RL Γ xs vs -> RL Δ ys vs
 | [], ys, vs, h, hx => by
  simp only [mapO, Option.some.injEq] at h
  subst h
  rw [hx.of_nil]; exact RL.nil _
 | x :: xs, ys, vs, h, hx => by
  simp only [mapO] at h
  split at h
  ·rename_i y ys' h1 h2
   cases h
   obtain ⟨v, r, rfl, k1, k2⟩ := hx.of_cons
   exact RL.cons (hf _ _ _ h1 k1) (mapO_RL hf xs _ _ h2 k2)
  ·cases h
theorem mapO_RE {Γ Δ : Ghost} {F : AV -> Option AV} (hF : ∀ (x y : AV) (v : Value), F x = some y -> R Γ x v -> R Δ y v) (hok : ∀ x y, F x = some y -> y.ok = x.ok) {f g : Nat -> Option Value} (hf : ∀ k v, f k = some v -> g k = some v) : ∀ (xs ys : List AV) (o sz : Nat), mapO F xs = some ys -> RE Γ xs f o sz -> RE Δ ys g o sz
 | [], ys, o, sz, h, hx => by
  simp only [mapO, Option.some.injEq] at h
  subst h
  simp only [RE]
 | x :: xs, ys, o, sz, h, hx => by
  simp only [mapO] at h
  split at h
  ·rename_i y ys' h1 h2
   cases h
   simp only [RE] at hx ⊢
   obtain ⟨⟨v, k1, k2, k3, k4⟩, k5⟩ := hx
   exact ⟨⟨v, hF _ _ _ h1 k1, by rw [hok _ _ h1]; exact k2, k3, k4.mono hf⟩, mapO_RE hF hok hf xs _ _ _ h2 k5⟩
  ·cases h
theorem view_sound {B : Nat} {w0 w : World} {Γ : Ghost} {st : St} (hI : Inv B w0 Γ st w) : ∀ (n : Nat) (x y : AV) (v : Value), viewA st n x = some y -> R Γ x v -> R (Ghost.all w) y v
 | 0, _, _, _, h, _ => by simp [viewA] at h
 | n + 1, x, y, v, h, hx => by
  have ih := view_sound hI n
  have ok := fun x y h => (viewA_ok (st := st) n x y h).2.1
  simp only [viewA] at h
  split at h
  ·rename_i hfr
   cases h
   exact R.plain (Γ := Γ) (Δ := Ghost.all w) (fun b o v k => hI.inert b o v k) x v hfr hx
  ·split at h
   ·rename_i sz b off len _
    split at h
    ·rename_i sz' xs hg
     split at h
     ·rename_i hc
      obtain ⟨rfl, hle⟩ := hc
      obtain ⟨ys, h1, h2⟩ := Option.map_eq_some_iff.1 h
      subst h2
      simp only [R] at hx
      obtain ⟨blk, base, tot, o, cap, ho, rfl, k1, k2⟩ := hx
      obtain ⟨_, hsz, hlt, hmem⟩ := hI.rows b _ xs blk base _ tot hg ho
      have hxl : ((xs.drop off).take len).length = len := by rw [List.length_take, List.length_drop]; omega
      have hyl : ys.length = len := (mapO_length h1).trans hxl
      simp only [R]
      refine ⟨blk, o, cap, by rw [hyl], by rw [hyl]; exact k1, hsz, trivial, ?_⟩
      by_cases hl0 : len = 0
      ·have : ys = [] := List.eq_nil_of_length_eq_zero (by omega)
       subst this
       simp only [RE]
      ·rcases k2 with k2 | ⟨k2, k3⟩
       ·omega
       ·subst k2
        obtain ⟨⟨c, T, hh, hcs, hre⟩, _⟩ := hmem (by omega)
        refine mapO_RE ih ok (fun k v hk => ?_) _ _ _ _ h1 ((hre.drop off).take len)
        show w.cell? ⟨blk, k, none⟩ = some v
        rw [cell_of_heap hh]; exact hk
     ·cases h
    ·cases h
   ·obtain ⟨ys, h1, h2⟩ := Option.map_eq_some_iff.1 h
    subst h2
    simp only [R] at hx ⊢
    obtain ⟨vs, k1, k2⟩ := hx
    exact ⟨vs, k1, mapO_RL ih _ _ _ h1 k2⟩
   ·obtain ⟨ys, h1, h2⟩ := Option.map_eq_some_iff.1 h
    subst h2
    simp only [R] at hx ⊢
    obtain ⟨blk, o, cap, k1, k2, k3, _, k5⟩ := hx
    have hyl := mapO_length h1
    exact ⟨blk, o, cap, by rw [hyl]; exact k1, by rw [hyl]; exact k2, k3, trivial, mapO_RE ih ok (fun k v hk => hI.inert blk k v hk) _ _ _ _ h1 k5⟩
   ·cases h
theorem view_calls2 {E : Env} (hE : EnvOk P E) (hp : ∀ B w0, PrimOk P E B w0) {f : FuncId} {n m : Nat} {args args' : List AV} {x r' r : AV} {st st1 st2 : St} (hv : mapO (viewA st m) args = some args')
  (h : callF E n f args' St.empty = some (x, st1)) (hz : freezeA st1 x = some (r', st2)) (hx : AV.plain r' = r) (hfr : AV.free r' = true) (hr : AV.scal r = true) {B : Nat} {w0 : World} {Γ : Ghost} {w : World} {vargs : Array Value} (hI : Inv B w0 Γ st w) (hargs : RL Γ args vargs.toList) :
  Calls P f vargs w fun e w' => ∃ v Γ', e = .returned v /\ Out B w0 Γ st Γ' st w' /\ R Γ' r v := by
 refine ((callF_sound hE (hp w.heap.size w) n f _ St.empty x st1 h).2 _ w vargs (Inv.all w) (mapO_RL (view_sound hI m) _ _ _ hv hargs)).mono ?_
 rintro e w' ⟨v, Γ1, he, out, hv⟩
 obtain ⟨Γ2, out2, hv2⟩ := freeze_sound out.inv hz hv
 refine ⟨v, _, he, hI.back out2.inv, ?_⟩
 have := R.plain (Γ := Γ2) (Δ := Γ2) (fun _ _ _ k => k) r' v hfr hv2
 rw [hx] at this
 exact R.scal _ _ hr this
theorem freezeC_free {st : St} {x : AV} (h : AV.free x = true) : freezeC st x = some (x, st) := by
 cases x <;> first | rfl | simp [AV.free] at h
theorem freezeL_free {st : St} : ∀ {xs : List AV}, AV.freeL xs = true -> freezeL st xs = some (xs, st)
 | [], _ => rfl
 | x :: xs, h => by
  simp only [AV.freeL, Bool.and_eq_true] at h
  simp only [freezeL, freezeC_free h.1, freezeL_free h.2]
theorem freezeB_free {st : St} {x : AV} (h : AV.free x = true) : freezeB st x = some (x, st) := by
 unfold freezeB
 split
 ·simp only [AV.free] at h
  rw [freezeL_free h]; rfl
 ·exact freezeC_free h
theorem freezeM_free {st : St} : ∀ {xs : List AV}, AV.freeL xs = true -> freezeM st xs = some (xs, st)
 | [], _ => rfl
 | x :: xs, h => by
  simp only [AV.freeL, Bool.and_eq_true] at h
  simp only [freezeM, freezeB_free h.1, freezeM_free h.2]
theorem freeze_free {st : St} {x : AV} (h : AV.free x = true) : freezeA st x = some (x, st) := by
 unfold freezeA
 split
 ·simp only [AV.free] at h
  rw [freezeM_free h]; rfl
 ·simp only [AV.free] at h
  rw [freezeL_free h]; rfl
 ·exact freezeC_free h
theorem viewA_free {st : St} (n : Nat) {x : AV} (h : AV.free x = true) : viewA st (n + 1) x = some (AV.plain x) := by simp only [viewA, h, if_true]
theorem mapO_free {st : St} (n : Nat) : ∀ {xs : List AV}, AV.freeL xs = true -> mapO (viewA st (n + 1)) xs = some (AV.plainL xs)
 | [], _ => rfl
 | x :: xs, h => by
  simp only [AV.freeL, Bool.and_eq_true] at h
  simp only [mapO, viewA_free n h.1, mapO_free n h.2, AV.plainL]
end
end Go.Abs
namespace Go.Abs
open Go.RowKit
structure GSl (α : Type) where
 nil : Option Bool
 xs : List α
 h : nil ≠ none -> xs = []
def GSl.av {α : Type} (sz : Nat) (f : α -> AV) (s : GSl α) : AV :=
 match s.nil with
 | some true => .nilsl
 | some false => .es
 | none => .vs sz .any (s.xs.map f)
section
variable {α : Type} {sz : Nat} {f : α -> AV} {s : GSl α}
theorem GSl.cases (s : GSl α) (f : α -> AV) (sz : Nat) : (s.xs = [] /\ (s.av sz f = .nilsl \/ s.av sz f = .es)) \/ s.av sz f = .vs sz .any (s.xs.map f) := by
 unfold GSl.av
 match hn : s.nil with
 | some true => exact .inl ⟨s.h (by rw [hn]; simp), .inl rfl⟩
 | some false => exact .inl ⟨s.h (by rw [hn]; simp), .inr rfl⟩
 | none => exact .inr rfl
theorem lenT_av {st : St} {e : TypeId} : lenT st (.slice e) (s.av sz f) = some s.xs.length := by
 rcases s.cases f sz with ⟨h1, h2 | h2⟩ | h2 <;> rw [h2]
 ·rw [h1]; rfl
 ·rw [h1]; rfl
 ·simp [lenT]
theorem elemAddrA_av {k : Int} (h0 : 0 <= k) (h : k.toNat < s.xs.length) : elemAddrA sz (s.av sz f) k = some (.ip (f s.xs[k.toNat]).cells) := by
 rcases s.cases f sz with ⟨h1, h2⟩ | h2
 ·rw [h1] at h; simp at h
 ·rw [h2]; simp [elemAddrA, h0, List.getElem?_eq_getElem h]
theorem elemAddrA_acc {t : Nat} {xs : List AV} {k : Int} (h0 : 0 <= k) (h : k.toNat < xs.length) : elemAddrA sz (accA t sz xs) k = some (.ip (xs[k.toNat]).cells) := by
 cases xs with
 | nil => simp at h
 | cons x xs =>
  simp only [accA, elemAddrA, h0, and_self, if_true]
  rw [List.getElem?_eq_getElem h]
theorem lenT_acc {st : St} {e : TypeId} {t : Nat} {xs : List AV} : lenT st (.slice e) (accA t sz xs) = some xs.length := by
 cases xs <;> rfl
end
section
variable {E : Env} {α : Type} {sz : Nat} {f : α -> AV} {s : GSl α} {t e : TypeId} {y ey : Ty}
theorem lenTy_av {st : St} (h1 : E.ty t = some y) (h2 : y.d = .slice e) : lenTy E st t (s.av sz f) = some (.int .i64 (s.xs.length : Int)) := by
 unfold lenTy
 rw [h1]
 dsimp only
 rw [h2, lenT_av]; rfl
theorem lenTy_acc {st : St} {tk : Nat} {xs : List AV} (h1 : E.ty t = some y) (h2 : y.d = .slice e) : lenTy E st t (accA tk sz xs) = some (.int .i64 (xs.length : Int)) := by
 unfold lenTy
 rw [h1]
 dsimp only
 rw [h2, lenT_acc]; rfl
theorem indexAddrA_nat {kd : IntKind} {i : Nat} {a : α} (h1 : E.ty t = some y) (h2 : y.d = .slice e) (h3 : E.ty e = some ey) (h4 : ey.size = sz) (ha : s.xs[i]? = some a) : indexAddrA E t (s.av sz f) (.int kd (i : Int)) = some (.ip (f a).cells) := by
 obtain ⟨h, rfl⟩ := List.getElem?_eq_some_iff.1 ha
 unfold indexAddrA
 rw [h1]
 dsimp only
 rw [h2]
 dsimp only
 rw [h3]
 dsimp only
 rw [h4, elemAddrA_av (by omega) (by simpa using h)]
 simp
theorem indexAddrA_int {kd : IntKind} {k : Int} {a : α} (h1 : E.ty t = some y) (h2 : y.d = .slice e) (h3 : E.ty e = some ey) (h4 : ey.size = sz) (h0 : 0 <= k) (ha : s.xs[k.toNat]? = some a) : indexAddrA E t (s.av sz f) (.int kd k) = some (.ip (f a).cells) := by
 obtain ⟨h, rfl⟩ := List.getElem?_eq_some_iff.1 ha
 unfold indexAddrA
 rw [h1]
 dsimp only
 rw [h2]
 dsimp only
 rw [h3]
 dsimp only
 rw [h4, elemAddrA_av h0 h]
theorem indexAddrA_acc {kd : IntKind} {tk : Nat} {xs : List AV} {k : Int} {a : AV} (h1 : E.ty t = some y) (h2 : y.d = .slice e) (h3 : E.ty e = some ey) (h4 : ey.size = sz) (h0 : 0 <= k) (ha : xs[k.toNat]? = some a) : indexAddrA E t (accA tk sz xs) (.int kd k) = some (.ip a.cells) := by
 obtain ⟨h, rfl⟩ := List.getElem?_eq_some_iff.1 ha
 unfold indexAddrA
 rw [h1]
 dsimp only
 rw [h2]
 dsimp only
 rw [h3]
 dsimp only
 rw [h4, elemAddrA_acc h0 h]
end
theorem wrap64 {n : Int} (h1 : -9223372036854775808 <= n) (h2 : n < 9223372036854775808) : IntKind.i64.wrap n = n := by
 have h : IntKind.i64.wrap n = (if (true && decide (n % 18446744073709551616 ≥ 9223372036854775808)) then n % 18446744073709551616 - 18446744073709551616 else n % 18446744073709551616) := rfl
 rw [h]
 split
 ·rename_i k
  simp at k
  omega
 ·rename_i k
  simp at k
  omega
theorem wrap_nat {i : Nat} (h : i < 9223372036854775808) : IntKind.i64.wrap (i : Int) = i := wrap64 (by omega) (by omega)
theorem wrap_succ {i : Nat} (h : i + 1 < 9223372036854775808) : IntKind.i64.wrap ((i : Int) + 1) = ((i + 1 : Nat) : Int) := by
 have := wrap_nat h
 rw [<- this]
 simp
section
variable {E : Env} {fid N : Nat} {l : List (Nat × AV)} {L : List (Nat × AObj)} {K : List (Nat × Bool)} {Q : AExit -> TM -> St -> Prop}
variable {c : Bool} {pol : Nat -> Nat} {ops : Array Oper} {o : Oper} {r : List Oper} {i : Nat}
theorem WS.refresh {a : Code} {t : Nat} {b v : Bool} (ht : lk l t = some (.bool b)) (hv : b = v) (h : WS E fid N a ((t, .bool v) :: l) L K Q) : WS E fid N a l L K Q := by
 subst hv
 refine .sub (fun i u hu => ?_) (.refl _) (.refl _) h
 simp only [lk] at hu
 cases hb' : Nat.beq t i with
 | true =>
  rw [hb'] at hu
  simp only [cond_true, Option.some.injEq] at hu
  have := Nat.eq_of_beq_eq_true hb'
  subst this; rw [ht, <- hu]
 | false => rw [hb'] at hu; exact hu
theorem WS.condB {t : Nat} {a b : Code} {v : Bool} (ht : lk l t = some (.bool v)) (h1 : v = true -> WS E fid N a ((t, .bool true) :: l) L K Q) (h2 : v = false -> WS E fid N b ((t, .bool false) :: l) L K Q) : WS E fid N (.cond (.tmp t) a b) l L K Q :=
 .cond ht (fun k => .refresh ht k (h1 k)) (fun k => .refresh ht k (h2 k))
theorem WS.condD {t : Nat} {a b : Code} {p : Prop} {inst : Decidable p} (ht : lk l t = some (.bool (decide p))) (h1 : p -> WS E fid N a ((t, .bool true) :: l) L K Q) (h2 : ¬ p -> WS E fid N b ((t, .bool false) :: l) L K Q) : WS E fid N (.cond (.tmp t) a b) l L K Q :=
 .condB ht (fun k => h1 (of_decide_eq_true k)) (fun k => h2 (of_decide_eq_false k))
theorem WS.condE {t : Nat} {a b : Code} {p q : Int} (ht : lk l t = some (.bool (p == q))) (h1 : p = q -> WS E fid N a ((t, .bool true) :: l) L K Q) (h2 : p ≠ q -> WS E fid N b ((t, .bool false) :: l) L K Q) : WS E fid N (.cond (.tmp t) a b) l L K Q :=
 .condB ht (fun k => h1 (by simpa using k)) (fun k => h2 (by simpa using k))
theorem WS.condNe {t : Nat} {a b : Code} {p q : Int} (ht : lk l t = some (.bool (p != q))) (h1 : p ≠ q -> WS E fid N a ((t, .bool true) :: l) L K Q) (h2 : p = q -> WS E fid N b ((t, .bool false) :: l) L K Q) : WS E fid N (.cond (.tmp t) a b) l L K Q :=
 .condB ht (fun k => h1 (by simpa using k)) (fun k => h2 (by simpa using k))
theorem WS.condN {t : Nat} {a b : Code} {v : Bool} (ht : lk l t = some (.bool (!v))) (h1 : v = false -> WS E fid N a ((t, .bool true) :: l) L K Q) (h2 : v = true -> WS E fid N b ((t, .bool false) :: l) L K Q) : WS E fid N (.cond (.tmp t) a b) l L K Q :=
 .condB ht (fun k => h1 (by simpa using k)) (fun k => h2 (by simpa using k))
theorem OS.splitD {j d : Nat} {want : Bool} {p : Prop} {inst : Decidable p} (hg : o.guard = some (j, want)) (hd : (ops.toList[j]?).bind (·.dst) = some d) (hb : lk l d = some (.bool (decide p)))
  (h1 : p -> OS E c pol ops (o :: r) i N ((d, .bool true) :: l) L K Q) (h2 : ¬ p -> OS E c pol ops (o :: r) i N ((d, .bool false) :: l) L K Q) : OS E c pol ops (o :: r) i N l L K Q :=
 .split hg hd hb (fun k => h1 (of_decide_eq_true k)) (fun k => h2 (of_decide_eq_false k))
theorem OS.splitNe {j d : Nat} {want : Bool} {p q : Int} (hg : o.guard = some (j, want)) (hd : (ops.toList[j]?).bind (·.dst) = some d) (hb : lk l d = some (.bool (p != q)))
  (h1 : p ≠ q -> OS E c pol ops (o :: r) i N ((d, .bool true) :: l) L K Q) (h2 : p = q -> OS E c pol ops (o :: r) i N ((d, .bool false) :: l) L K Q) : OS E c pol ops (o :: r) i N l L K Q :=
 .split hg hd hb (fun k => h1 (by simpa using k)) (fun k => h2 (by simpa using k))
theorem OS.splitN {j d : Nat} {want t : Bool} (hg : o.guard = some (j, want)) (hd : (ops.toList[j]?).bind (·.dst) = some d) (hb : lk l d = some (.bool (!t)))
  (h1 : t = false -> OS E c pol ops (o :: r) i N ((d, .bool true) :: l) L K Q) (h2 : t = true -> OS E c pol ops (o :: r) i N ((d, .bool false) :: l) L K Q) : OS E c pol ops (o :: r) i N l L K Q :=
 .split hg hd hb (fun k => h1 (by simpa using k)) (fun k => h2 (by simpa using k))
def argsL : List AV -> Nat -> List (Nat × AV)
 | [], _ => []
 | x :: xs, i => (i, x) :: argsL xs (i + 1)
theorem lk_argsL : ∀ (xs : List AV) (i j : Nat) (v : AV), lk (argsL xs i) j = some v -> i <= j /\ xs[j - i]? = some v
 | [], _, _, _, h => by simp [argsL, lk] at h
 | x :: xs, i, j, v, h => by
  simp only [argsL, lk] at h
  cases hb : Nat.beq i j with
  | true =>
   rw [hb] at h
   simp only [cond_true, Option.some.injEq] at h
   have := Nat.eq_of_beq_eq_true hb
   subst this; subst h
   simp
  | false =>
   rw [hb] at h
   have := lk_argsL xs (i + 1) j v h
   refine ⟨by omega, ?_⟩
   have e : j - i = (j - (i + 1)) + 1 := by omega
   rw [e]; simpa using this.2
theorem CW.start {f : FuncId} {fn : FnI} {args : List AV} {st : St} {Q : AV -> St -> Prop} (hp : E.prim f = none) (hf : E.fns f = some fn) (hn : max fn.ntmps args.length = N)
  (h : WS E f N fn.code (argsL args 0) [] [] (retQ E fn.results Q)) : CW E f args st Q := by
 refine .fn hp hf fun tm h1 h2 => h tm st ⟨by rw [h1, hn], fun i v hv => ?_, fun k b o hk => by simp at hk, fun k k' b o o' hk => by simp at hk, fun k t hk => by simp at hk, fun k k' t hk => by simp at hk⟩
 have := lk_argsL _ _ _ _ hv
 exact h2 i v (by simpa using this.2)
end
def addPrim (E : Env) (f : FuncId) (g : List AV -> St -> Option (AV × St)) : Env := { E with prim := fun x => bif Nat.beq x f then some g else E.prim x }
open Classical in
noncomputable def primOf (Rel : List AV -> AV -> Prop) (args : List AV) (st : St) : Option (AV × St) :=
 if h : ∃ r, Rel (AV.plainL args) r then some (h.choose, st)
 else if h : ∃ r, (∃ a, mapO (viewA st 9) args = some a /\ Rel a r) /\ AV.scal r = true then some (h.choose, st)
 else none
theorem primOf_eq {Rel : List AV -> AV -> Prop} (hu : ∀ a r r', Rel a r -> Rel a r' -> r = r') {args : List AV} {r : AV} (h : Rel (AV.plainL args) r) (st : St) : primOf Rel args st = some (r, st) := by
 unfold primOf
 have hx : ∃ r, Rel (AV.plainL args) r := ⟨r, h⟩
 rw [dif_pos hx, hu _ _ _ hx.choose_spec h]
theorem primOf_view {Rel : List AV -> AV -> Prop} (hu : ∀ a r r', Rel a r -> Rel a r' -> r = r') (hf : ∀ a r, Rel a r -> AV.freeL a = true) {args a : List AV} {r : AV} {st : St} (hv : mapO (viewA st 9) args = some a) (h : Rel a r) (hs : AV.scal r = true) : primOf Rel args st = some (r, st) := by
 unfold primOf
 split
 ·rename_i hx
  have h1 := hx.choose_spec
  have h2 := hf _ _ h1
  rw [freeL_plainL'] at h2
  rw [mapO_free 8 h2] at hv
  cases hv
  rw [hu _ _ _ h1 h]
 ·have hx : ∃ r, (∃ a, mapO (viewA st 9) args = some a /\ Rel a r) /\ AV.scal r = true := ⟨r, ⟨a, hv, h⟩, hs⟩
  rw [dif_pos hx]
  obtain ⟨⟨a', h1, h2⟩, _⟩ := hx.choose_spec
  rw [hv] at h1
  cases h1
  rw [hu _ _ _ h2 h]
section
variable {P : Program}
mutual
theorem plain_plain : ∀ x : AV, AV.plain (AV.plain x) = AV.plain x
 | .bool _ | .int _ _ | .str _ | .ptr _ _ _ | .nilptr | .gptr _ | .nilsl | .es | .sl _ _ _ _ | .map _ | .nilmap | .nilfn | .nilif | .junk => by simp [AV.plain]
 | .ip a => by simp [AV.plain, plainL_plainL a]
 | .vs _ o a => by cases o <;> simp [AV.plain, plainL_plainL a, Own.plain]
 | .fn _ a b => by simp [AV.plain, plainL_plainL a, plainL_plainL b]
 | .iface _ a => by simp [AV.plain, plain_plain a]
 | .agg a => by simp [AV.plain, plainL_plainL a]
 | .tup a => by simp [AV.plain, plainL_plainL a]
theorem plainL_plainL : ∀ x : List AV, AV.plainL (AV.plainL x) = AV.plainL x
 | [] => rfl
 | x :: xs => by simp [AV.plainL, plain_plain x, plainL_plainL xs]
end
mutual
theorem free_plain : ∀ x : AV, AV.free (AV.plain x) = AV.free x
 | .bool _ | .int _ _ | .str _ | .ptr _ _ _ | .nilptr | .gptr _ | .nilsl | .es | .sl _ _ _ _ | .map _ | .nilmap | .nilfn | .nilif | .junk => by simp [AV.plain, AV.free]
 | .ip a => by simp [AV.plain, AV.free, freeL_plainL a]
 | .vs _ o a => by simp [AV.plain, AV.free, freeL_plainL a]
 | .fn _ a b => by simp [AV.plain, AV.free, freeL_plainL a, freeL_plainL b]
 | .iface _ a => by simp [AV.plain, AV.free, free_plain a]
 | .agg a => by simp [AV.plain, AV.free, freeL_plainL a]
 | .tup a => by simp [AV.plain, AV.free, freeL_plainL a]
theorem freeL_plainL : ∀ x : List AV, AV.freeL (AV.plainL x) = AV.freeL x
 | [] => rfl
 | x :: xs => by simp [AV.plainL, AV.freeL, free_plain x, freeL_plainL xs]
end
theorem PrimOk.addPrim {E : Env} {B : Nat} {w0 : World} (h : PrimOk P E B w0) {f : FuncId} {g : List AV -> St -> Option (AV × St)} (hg : PrimDoes P B w0 f g) : PrimOk P (addPrim E f g) B w0 := by
 intro f' g' args st r st' hf hr
 have hf' : (bif Nat.beq f' f then some g else E.prim f') = some g' := hf
 cases hb : Nat.beq f' f with
 | true =>
  rw [hb] at hf'
  simp only [cond_true, Option.some.injEq] at hf'
  have := Nat.eq_of_beq_eq_true hb
  subst this; subst hf'
  exact hg args st r st' hr
 | false =>
  rw [hb] at hf'
  exact h f' g' args st r st' hf' hr
end
end Go.Abs
namespace Go.Abs
structure SFa (L : List (Nat × AObj)) (K : List (Nat × Bool)) (st : St) : Prop where
 obj : ∀ (k b : Nat) (o : AObj), L[k]? = some (b, o) -> st.get b = some o /\ b < st.next
 uniq : ∀ (k k' b : Nat) (o o' : AObj), L[k]? = some (b, o) -> L[k']? = some (b, o') -> k = k'
 tok : ∀ (k t : Nat), K[k]? = some (t, true) -> st.alive t = true /\ t < st.next
 uniqT : ∀ (k k' t : Nat), K[k]? = some (t, true) -> K[k']? = some (t, true) -> k = k'
section
variable {E : Env} {N : Nat} {l : List (Nat × AV)} {L : List (Nat × AObj)} {K : List (Nat × Bool)} {Q : AExit -> TM -> St -> Prop}
variable {pol : Nat -> Nat} {ops : Array Oper} {r : List Oper} {i : Nat}
variable {d : Nat} {ty : TypeId} {pos : String} {after : Array Edge} {guard : Option (Nat × Bool)}
theorem Fa.s {tm : TM} {st : St} (h : Fa N l L K tm st) : SFa L K st := ⟨h.obj, h.uniq, h.tok, h.uniqT⟩
theorem Fa.withS {tm : TM} {st st' : St} (h : Fa N l L K tm st) (hs : SFa L K st') : Fa N l L K tm st' := ⟨h.n, h.get, hs.obj, hs.uniq, hs.tok, hs.uniqT⟩
theorem CW.startS {f : FuncId} {fn : FnI} {args : List AV} {st : St} {Q : AV -> St -> Prop} (hp : E.prim f = none) (hf : E.fns f = some fn) (hn : max fn.ntmps args.length = N) (hS : SFa L K st)
  (h : WS E f N fn.code (argsL args 0) L K (retQ E fn.results Q)) : CW E f args st Q := by
 refine .fn hp hf fun tm h1 h2 => h tm st ⟨by rw [h1, hn], fun i v hv => ?_, hS.obj, hS.uniq, hS.tok, hS.uniqT⟩
 have := lk_argsL _ _ _ _ hv
 exact h2 i v (by simpa using this.2)
theorem QS.retRS {rs : List ResultVar} {v : AV} {Q : AV -> St -> Prop} (h : res1 l rs = some v) (hq : ∀ st, SFa L K st -> Q v st) : QS N .ret l L K (retQ E rs Q) :=
 fun _ st hF => retQ.ret (hF.res1 h) (hq st hF.s)
theorem OD.callS {f : Operand} {args : Array Operand} {argTypes : Array TypeId} {g : FuncId} {first cap vs : List AV} {v : AV} (hn : Nat.blt d N = true) (hf : evL l f = some (.fn g first cap)) (ha : evLs l args.toList = some vs)
  (hr : ∀ st, SFa L K st -> CW E g (first ++ vs ++ cap) st fun x st' => x = v /\ SFa L K st') (hz : ∀ st, freezeA st v = some (v, st))
  (k : OS E false pol ops r (i + 1) N ((d, v) :: l) L K Q) : OD E false pol ops { dst := some d, op := .call { callee := .value f, args := args, argTypes := argTypes }, type := ty, pos := pos, after := after, guard := guard } r i N l L K Q := by
 intro pre tm st hF hp' hw
 obtain ⟨n1, x, st', hc, rfl, hS⟩ := hr st hF.s
 obtain ⟨n, tr, tm1, st1, h1, _, h2⟩ := k pre (tm.put d x) st' ((hF.withS hS).put hn x) hp'
 refine ⟨Nat.max n n1, ⟨tm, st, st', x, true⟩ :: tr, tm1, st1, ?_, (fun hc => by cases hc), h2⟩
 have hl : Abs.loud E (callF E (Nat.max n n1)) (pol i) tm st { dst := some d, op := .call { callee := .value f, args := args, argTypes := argTypes }, type := ty, pos := pos, after := after, guard := guard } = some (x, st') := by
  have : Abs.loud E (callF E (Nat.max n n1)) (pol i) tm st { dst := some d, op := .call { callee := .value f, args := args, argTypes := argTypes }, type := ty, pos := pos, after := after, guard := guard } = (match evalO tm f with | .fn g first cap => callF E (Nat.max n n1) g (first ++ args.toList.map (evalO tm) ++ cap) st | _ => none) := rfl
  rw [this, hF.ev hf, hF.evs ha]
  exact callF_mono n1 (Nat.max n n1) (Nat.le_max_right _ _) _ _ _ _ hc
 have hst : stepPre E (callF E (Nat.max n n1)) pre (pol i) i tm st { dst := some d, op := .call { callee := .value f, args := args, argTypes := argTypes }, type := ty, pos := pos, after := after, guard := guard } = some (x, st') := by
  simp only [stepPre, stepOp, isLoud, if_true, hl, isFnCall, Bool.and_true, decide_eq_true_eq]
  split
  ·exact hz st'
  ·rfl
 simp only [runOpsT]
 rw [hw]
 dsimp only
 rw [hst]
 dsimp only [putO]
 rw [runOpsT_mono (callF_mono n (Nat.max n n1) (Nat.le_max_left _ _)) _ _ _ _ h1]
end
end Go.Abs
namespace Go.Abs
section
variable {E : Env} {fid N : Nat} {l : List (Nat × AV)} {L : List (Nat × AObj)} {K : List (Nat × Bool)} {Q : AExit -> TM -> St -> Prop}
end
end Go.Abs
namespace Go.Abs
section
variable {α : Type} {xs : List α} {f : α -> Bool} {i : Nat}
theorem all_take_succ (h : i < xs.length) (h1 : (xs.take i).all f = true) (h2 : f xs[i] = true) : (xs.take (i + 1)).all f = true := by
 rw [List.take_succ_eq_append_getElem h]
 simp only [List.all_append, h1, List.all_cons, h2, List.all_nil, Bool.and_self]
theorem all_of_take (h : ¬ i < xs.length) (h1 : (xs.take i).all f = true) : xs.all f = true := by
 rw [List.take_of_length_le (by omega)] at h1; exact h1
theorem all_false (h : i < xs.length) (h2 : f xs[i] = false) : xs.all f = false := by
 apply Bool.eq_false_iff.2
 intro k
 rw [List.all_eq_true] at k
 have := k xs[i] (List.getElem_mem h)
 rw [h2] at this; cases this
end
end Go.Abs
namespace Go.Abs
section
variable {P : Program}
end
section
variable {α : Type} {sz : Nat} {f : α -> AV} {s : GSl α}
theorem plainL_map (hf : ∀ a, AV.plain (f a) = f a) : ∀ l : List α, AV.plainL (l.map f) = l.map f
 | [] => rfl
 | x :: l => by simp [AV.plainL, hf, plainL_map hf l]
theorem freeL_map (hf : ∀ a, AV.free (f a) = true) : ∀ l : List α, AV.freeL (l.map f) = true
 | [] => rfl
 | x :: l => by simp [AV.freeL, hf, freeL_map hf l]
theorem plain_av (hf : ∀ a, AV.plain (f a) = f a) : AV.plain (s.av sz f) = s.av sz f := by
 rcases s.cases f sz with ⟨_, h2 | h2⟩ | h2 <;> rw [h2]
 ·rfl
 ·rfl
 ·simp [AV.plain, Own.plain, plainL_map hf]
theorem free_av (hf : ∀ a, AV.free (f a) = true) : AV.free (s.av sz f) = true := by
 rcases s.cases f sz with ⟨_, h2 | h2⟩ | h2 <;> rw [h2]
 ·rfl
 ·rfl
 ·simp [AV.free, freeL_map hf]
def GSl.of (xs : List α) : GSl α := ⟨bif xs.isEmpty then some true else none, xs, fun h => by cases xs with | nil => rfl | cons x xs => simp at h⟩
theorem plain_acc {t : Nat} {xs : List α} (hf : ∀ a, AV.plain (f a) = f a) : AV.plain (accA t sz (xs.map f)) = (GSl.of xs).av sz f := by
 cases xs with
 | nil => rfl
 | cons x xs =>
  simp only [List.map_cons, accA, AV.plain, Own.plain, GSl.av, GSl.of, List.isEmpty_cons, cond_false]
  rw [<- List.map_cons, plainL_map hf]
end
end Go.Abs
namespace Go.Abs
def quietS (E : Env) (l : List (Nat × AV)) (op : Op) : Option AV :=
 match op with
 | .move x => evL l x
 | .assign x => evL l x
 | .pick c a b =>
  match evL l c with
  | some (.bool true) => evL l a
  | some (.bool false) => evL l b
  | _ => none
 | .load t a =>
  match evL l a with
  | some (.ip cs) => partA E t cs 0
  | _ => none
 | .binOp op t x y _ =>
  match evL l x, evL l y with
  | some a, some b => binA E op t x y a b
  | _, _ => none
 | .unOp op _ x =>
  match evL l x with
  | some a => unA op a
  | none => none
 | .convert s t x =>
  match evL l x with
  | some a => convertA E s t a
  | none => none
 | .makeFunc (.func f) first cap =>
  match evLs l first.toList, evLs l cap.toList with
  | some a, some b => some (.fn f a b)
  | _, _ => none
 | .fieldAddr s x f =>
  match evL l x with
  | some a => fieldAddrA E s a f
  | none => none
 | .field s x f =>
  match evL l x with
  | some a => fieldA E s a f
  | none => none
 | .extract x j =>
  match evL l x with
  | some (.tup xs) => xs[j]?
  | _ => none
 | .build t ps =>
  match evPs l ps.toList with
  | some vs => buildA E t vs
  | none => none
 | .buildSlice t n ps =>
  match evPs l ps.toList with
  | some vs => buildSliceA E t n vs
  | none => none
 | _ => none
section
variable {E : Env} {N : Nat} {l : List (Nat × AV)} {L : List (Nat × AObj)} {K : List (Nat × Bool)} {Q : AExit -> TM -> St -> Prop}
variable {c : Bool} {pol : Nat -> Nat} {ops : Array Oper} {r : List Oper} {i : Nat}
variable {d : Nat} {op : Op} {ty : TypeId} {pos : String} {after : Array Edge} {guard : Option (Nat × Bool)}
theorem OD.auto {v : AV} (hn : Nat.blt d N = true) (h : quietS E l op = some v) (k : OS E c pol ops r (i + 1) N ((d, v) :: l) L K Q) : OD E c pol ops { dst := some d, op := op, type := ty, pos := pos, after := after, guard := guard } r i N l L K Q := by
 cases op with
 | move x => exact .move hn h k
 | assign x => exact .assign hn h k
 | pick x y z =>
  simp only [quietS] at h
  split at h
  ·rename_i hx; exact .pickT hn hx h k
  ·rename_i hx; exact .pickF hn hx h k
  ·cases h
 | load t a =>
  simp only [quietS] at h
  split at h
  ·rename_i hx; exact .load hn hx h k
  ·cases h
 | binOp op t x y t2 =>
  simp only [quietS] at h
  split at h
  ·rename_i hx hy; exact .bin hn hx hy h k
  ·cases h
 | unOp op t x =>
  simp only [quietS] at h
  split at h
  ·rename_i hx; exact .un hn hx h k
  ·cases h
 | convert s t x =>
  simp only [quietS] at h
  split at h
  ·rename_i hx; exact .convert hn hx h k
  ·cases h
 | makeFunc f first cap =>
  cases f with
  | func f =>
   simp only [quietS] at h
   split at h
   ·rename_i hx hy; cases h; exact .makeFunc hn hx hy k
   ·cases h
  | _ => simp [quietS] at h
 | fieldAddr s x f =>
  simp only [quietS] at h
  split at h
  ·rename_i hx; exact .fieldAddr hn hx h k
  ·cases h
 | field s x f =>
  simp only [quietS] at h
  split at h
  ·rename_i hx; exact .field hn hx h k
  ·cases h
 | extract x j =>
  simp only [quietS] at h
  split at h
  ·rename_i hx; exact .extract hn hx h k
  ·cases h
 | build t ps =>
  simp only [quietS] at h
  split at h
  ·rename_i hx; exact .build hn hx h k
  ·cases h
 | buildSlice t n ps =>
  simp only [quietS] at h
  split at h
  ·rename_i hx; exact .buildSlice hn hx h k
  ·cases h
 | _ => simp [quietS] at h
end
end Go.Abs
namespace Go.Abs
theorem accA_nil (t sz : Nat) : accA t sz [] = .nilsl := rfl
end Go.Abs
namespace Go.Abs
theorem indexAddrA_accm {E : Env} {α : Type} {f : α -> AV} {sz : Nat} {t e : TypeId} {y ey : Ty} {kd : IntKind} {tk : Nat} {xs : List α} {k : Int} {a : α} (h1 : E.ty t = some y) (h2 : y.d = .slice e) (h3 : E.ty e = some ey) (h4 : ey.size = sz) (h0 : 0 <= k) (ha : xs[k.toNat]? = some a) :
  indexAddrA E t (accA tk sz (xs.map f)) (.int kd k) = some (.ip (f a).cells) :=
 indexAddrA_acc h1 h2 h3 h4 h0 (by rw [List.getElem?_map, ha]; rfl)
end Go.Abs
namespace Go.Abs
section
variable {E : Env} {N : Nat} {l : List (Nat × AV)} {L : List (Nat × AObj)} {K : List (Nat × Bool)} {Q : AExit -> TM -> St -> Prop}
variable {pol : Nat -> Nat} {ops : Array Oper} {r : List Oper} {i : Nat}
variable {d : Nat} {ty : TypeId} {pos : String} {after : Array Edge} {guard : Option (Nat × Bool)}
theorem OD.callP {f : Operand} {args : Array Operand} {argTypes : Array TypeId} {g : FuncId} {first cap vs : List AV} (p : AV -> Prop) (hn : Nat.blt d N = true) (hf : evL l f = some (.fn g first cap)) (ha : evLs l args.toList = some vs)
  (hr : ∀ st, SFa L K st -> CW E g (first ++ vs ++ cap) st fun x st' => p x /\ SFa L K st') (hz : ∀ v st, p v -> freezeA st v = some (v, st))
  (k : ∀ v, p v -> OS E false pol ops r (i + 1) N ((d, v) :: l) L K Q) : OD E false pol ops { dst := some d, op := .call { callee := .value f, args := args, argTypes := argTypes }, type := ty, pos := pos, after := after, guard := guard } r i N l L K Q := by
 intro pre tm st hF hp' hw
 obtain ⟨n1, x, st', hc, hx, hS⟩ := hr st hF.s
 obtain ⟨n, tr, tm1, st1, h1, _, h2⟩ := k x hx pre (tm.put d x) st' ((hF.withS hS).put hn x) hp'
 refine ⟨Nat.max n n1, ⟨tm, st, st', x, true⟩ :: tr, tm1, st1, ?_, (fun hc => by cases hc), h2⟩
 have hl : Abs.loud E (callF E (Nat.max n n1)) (pol i) tm st { dst := some d, op := .call { callee := .value f, args := args, argTypes := argTypes }, type := ty, pos := pos, after := after, guard := guard } = some (x, st') := by
  have : Abs.loud E (callF E (Nat.max n n1)) (pol i) tm st { dst := some d, op := .call { callee := .value f, args := args, argTypes := argTypes }, type := ty, pos := pos, after := after, guard := guard } = (match evalO tm f with | .fn g first cap => callF E (Nat.max n n1) g (first ++ args.toList.map (evalO tm) ++ cap) st | _ => none) := rfl
  rw [this, hF.ev hf, hF.evs ha]
  exact callF_mono n1 (Nat.max n n1) (Nat.le_max_right _ _) _ _ _ _ hc
 have hst : stepPre E (callF E (Nat.max n n1)) pre (pol i) i tm st { dst := some d, op := .call { callee := .value f, args := args, argTypes := argTypes }, type := ty, pos := pos, after := after, guard := guard } = some (x, st') := by
  simp only [stepPre, stepOp, isLoud, if_true, hl, isFnCall, Bool.and_true, decide_eq_true_eq]
  split
  ·exact hz x st' hx
  ·rfl
 simp only [runOpsT]
 rw [hw]
 dsimp only
 rw [hst]
 dsimp only [putO]
 rw [runOpsT_mono (callF_mono n (Nat.max n n1) (Nat.le_max_left _ _)) _ _ _ _ h1]
end
theorem indexAddrA_accn {E : Env} {α : Type} {f : α -> AV} {sz : Nat} {t e : TypeId} {y ey : Ty} {kd : IntKind} {tk : Nat} {xs : List α} {k : Nat} {a : α} (h1 : E.ty t = some y) (h2 : y.d = .slice e) (h3 : E.ty e = some ey) (h4 : ey.size = sz) (ha : xs[k]? = some a) :
  indexAddrA E t (accA tk sz (xs.map f)) (.int kd (k : Int)) = some (.ip (f a).cells) :=
 indexAddrA_accm h1 h2 h3 h4 (by omega) (by simpa using ha)
theorem lenTy_accm {E : Env} {α : Type} {f : α -> AV} {sz : Nat} {t e : TypeId} {y : Ty} {st : St} {tk : Nat} {xs : List α} (h1 : E.ty t = some y) (h2 : y.d = .slice e) : lenTy E st t (accA tk sz (xs.map f)) = some (.int .i64 (xs.length : Int)) := by
 rw [lenTy_acc h1 h2, List.length_map]
end Go.Abs
namespace Go.Abs
open Go.RowKit
section
variable {H : Type} {enc : TypeId × Value -> H} {P : Program} {w : World} {base : Nat} {spare : Nat -> Bool} {held : Bool} {fuel n : Nat} {t e : TypeId} {cs : List Value} {x : DataW H × List MemPlace} {Γ : Ghost}
theorem cells_some {b o k sz : Nat} {l : List Value} (h : w.cells? base ((⟨b, o, none⟩ : Addr).add k) sz = some l) : l.length = sz /\ ∀ (j : Nat) (v : Value), l[j]? = some v -> w.cell? ⟨b, o + k + j, none⟩ = some v := by
 unfold World.cells? at h
 split at h
 ·have hl := mapM_some_length h
  simp only [List.length_range] at hl
  refine ⟨hl, fun j v hj => ?_⟩
  have hlt : j < sz := by have := (List.getElem?_eq_some_iff.1 hj).1; omega
  have := mapM_some_get h j j (by simp [hlt])
  rw [hj, add_mk, add_mk] at this
  exact this
 ·cases h
theorem cells_spot {a : Addr} {sz : Nat} {l : List Value} (hz : 0 < sz) (h : w.cells? base (a.add 0) sz = some l) : a.spot = none := by
 unfold World.cells? at h
 split at h
 ·have hl := mapM_some_length h
  simp only [List.length_range] at hl
  have := mapM_some_get h 0 0 (by simp [hz])
  rw [List.getElem?_eq_getElem (by omega)] at this
  have h0 : (a.add 0).add 0 = a := by simp [Addr.add]
  rw [h0] at this
  unfold World.cell? at this
  split at this
  ·split at this
   ·cases this
   ·rename_i hs; cases hsp : a.spot with
    | none => rfl
    | some s => rw [hsp] at hs; simp at hs
  ·cases this
 ·cases h
end
end Go.Abs
namespace Go.Abs
section
variable {α : Type} {E : Env} {t e : TypeId} {y ey : Ty} {kd : IntKind} {sz : Nat} {f : α -> AV}
end
end Go.Abs
namespace Go.Abs
open Go.RowKit
section
variable {P : Program}
theorem pure_calls2 {E : Env} (hE : EnvOk P E) (hp : ∀ B w0, PrimOk P E B w0) {f : FuncId} {n : Nat} {args : List AV} {x r : AV} {st1 st2 : St} (hf : AV.freeL args = true) (hz : freezeA st1 x = some (r, st2)) (hr : AV.free r = true)
  (h : callF E n f (AV.plainL args) St.empty = some (x, st1)) {B : Nat} {w0 : World} {Γ : Ghost} {st : St} {w : World} {vargs : Array Value} (hI : Inv B w0 Γ st w) (hargs : RL Γ args vargs.toList) :
  Calls P f vargs w fun e w' => ∃ v Γ', e = .returned v /\ Out B w0 Γ st Γ' st w' /\ R Γ' (AV.plain r) v := by
 refine ((callF_sound hE (hp w.heap.size w) n f _ St.empty x st1 h).2 _ w vargs hI.inner (RL.plain (Γ := Γ) (Δ := ⟨Γ.inert, fun _ => none, fun _ => none, fun _ => none, fun _ => none, Γ.inert⟩) (fun _ _ _ k => k) args _ hf hargs)).mono ?_
 rintro e w' ⟨v, Γ1, he, out, hv⟩
 obtain ⟨Γ2, out2, hv2⟩ := freeze_sound out.inv hz hv
 refine ⟨v, _, he, hI.back out2.inv, R.plain (fun b o u k => ?_) r v hr hv2⟩
 simp only [Ghost.back]
 split
 ·rename_i hlt
  have := out2.inv.old b o u hlt k
  rw [out2.le.old, out.le.old] at this
  exact this
 ·exact k
structure Con2 (E : Env) (f : FuncId) (Rel : List AV -> AV -> Prop) : Prop where
 free : ∀ a r, Rel a r -> AV.freeL a = true
 run : ∀ a r, Rel a r -> CW E f a St.empty fun x st => ∃ r' st', freezeA st x = some (r', st') /\ AV.plain r' = r /\ AV.free r' = true
theorem Con2.uniq {E : Env} {f : FuncId} {Rel : List AV -> AV -> Prop} (h : Con2 E f Rel) (a : List AV) (r r' : AV) (h1 : Rel a r) (h2 : Rel a r') : r = r' := by
 obtain ⟨n, x, st, e1, q1, _, z1, e2, _⟩ := h.run a r h1
 obtain ⟨m, y, st', e3, q2, _, z2, e4, _⟩ := h.run a r' h2
 have e5 := callF_mono n (Nat.max n m) (Nat.le_max_left _ _) _ _ _ _ e1
 have e6 := callF_mono m (Nat.max n m) (Nat.le_max_right _ _) _ _ _ _ e3
 rw [e5] at e6
 cases e6
 rw [z1] at z2
 cases z2
 rw [<- e2, <- e4]
theorem Con2.does {E : Env} {f : FuncId} {Rel : List AV -> AV -> Prop} (h : Con2 E f Rel) (hE : EnvOk P E) (hp : ∀ B w0, PrimOk P E B w0) (hent : ∀ (w : World) (vargs : Array Value), (callFunc f vargs).run P w = .ok (.enter f vargs) w) (B : Nat) (w0 : World) : PrimDoes P B w0 f (primOf Rel) := by
 intro args st r st' hg
 refine ⟨hent, fun Γ w vargs hI hargs => ?_⟩
 unfold primOf at hg
 split at hg
 ·rename_i hx
  simp only [Option.some.injEq, Prod.mk.injEq] at hg
  obtain ⟨hr, hst⟩ := hg
  subst hst
  have hs := hx.choose_spec
  rw [hr] at hs
  obtain ⟨n, x, st1, h1, r', st2, hz, h2, h3⟩ := h.run _ _ hs
  have hfree : AV.freeL args = true := by rw [<- freeL_plainL]; exact h.free _ _ hs
  refine (pure_calls2 hE hp hfree hz h3 h1 hI hargs).mono ?_
  rintro e w' ⟨v, Γ', he, out, hv⟩
  exact ⟨v, Γ', he, out, by rw [<- h2]; exact hv⟩
 ·split at hg
  ·rename_i hx
   simp only [Option.some.injEq, Prod.mk.injEq] at hg
   obtain ⟨hr, hst⟩ := hg
   subst hst
   obtain ⟨⟨a, hv, hs⟩, hsc⟩ := hx.choose_spec
   rw [hr] at hs hsc
   obtain ⟨n, x, st1, h1, r', st2, hz, h2, h3⟩ := h.run _ _ hs
   exact view_calls2 hE hp hv h1 hz h2 h3 hsc hI hargs
  ·cases hg
end
section
variable {E : Env} {N : Nat} {l : List (Nat × AV)} {L : List (Nat × AObj)} {K : List (Nat × Bool)} {Q : AExit -> TM -> St -> Prop}
variable {pol : Nat -> Nat} {ops : Array Oper} {r : List Oper} {i : Nat} {c : Bool}
variable {d : Nat} {ty : TypeId} {pos : String} {after : Array Edge} {guard : Option (Nat × Bool)}
theorem OD.makeSlice {t e : TypeId} {x y : Operand} {ty1 et : Ty} {n : Nat} (hn : Nat.blt d N = true) (hx : evL l x = some (.int .i64 (n : Int))) (hy : evL l y = some (.int .i64 (n : Int))) (hc : isConstO x = false) (ht : E.ty t = some ty1) (hd : ty1.d = .slice e) (he : E.ty e = some et) (hs : Nat.blt 0 et.size = true) (hroom : roomA et n = true)
  (k : ∀ b, OS E false pol ops r (i + 1) N ((d, .sl et.size b 0 n) :: l) ((b, .row et.size (List.replicate n et.zeroV)) :: L) K Q) :
  OD E false pol ops { dst := some d, op := .makeSlice t x y, type := ty, pos := pos, after := after, guard := guard } r i N l L K Q := by
 refine .loud rfl rfl (fun _ h => by cases h) fun tm st hF => ⟨.sl et.size st.next 0 n, st.new (.row et.size (List.replicate n et.zeroV)), _, _, _, ?_, (hF.new _).put hn _, k st.next⟩
 show makeSliceA E st (isConstO x) t (evalO tm x) (evalO tm y) = _
 unfold makeSliceA
 rw [ht, hF.ev hx, hF.ev hy, hc]
 dsimp only
 rw [hd]
 dsimp only
 rw [he]
 dsimp only
 rw [if_pos ⟨Eq.mp Nat.blt_eq hs, by omega, by omega, by simpa using hroom⟩]
 simp
theorem indexAddrA_sl {t e : TypeId} {y ey : Ty} {kd : IntKind} {sz b len k : Nat} (h1 : E.ty t = some y) (h2 : y.d = .slice e) (h3 : E.ty e = some ey) (h4 : ey.size = sz) (h : k < len) : indexAddrA E t (.sl sz b 0 len) (.int kd (k : Int)) = some (.ptr b k 0) := by
 unfold indexAddrA
 rw [h1]
 dsimp only
 rw [h2]
 dsimp only
 rw [h3]
 dsimp only
 simp only [elemAddrA]
 rw [if_pos ⟨h4, by omega, by omega⟩]
 simp
theorem OD.storeI (kk : Nat) {t : TypeId} {x z : Operand} {y : Ty} {b sz j : Nat} {xs : List AV} {ka kb : IntKind} {m v : Int} (hx : evL l x = some (.ptr b j 0)) (hz : evL l z = some (.int kb v)) (ht : E.ty t = some y) (h1 : y.size = 1) (hL : L[kk]? = some (b, .row sz xs)) (hj : xs[j]? = some (.int ka m))
  (k : OS E false pol ops r (i + 1) N l (L.set kk (b, .row sz (xs.set j (.int kb v)))) K Q) :
  OD E false pol ops { dst := none, op := .store t x z, type := ty, pos := pos, after := after, guard := guard } r i N l L K Q := by
 refine .loud rfl rfl (fun _ h => by cases h) fun tm st hF => ⟨.junk, st.put b (.row sz (xs.set j (.int kb v))), _, _, _, ?_, hF.set hL _, k⟩
 have : Abs.loud E noCall (pol i) tm st { dst := none, op := .store t x z, type := ty, pos := pos, after := after, guard := guard } = (match E.ty t with | some ty => if (evalO tm z).cells.length = ty.size then (storeA st (evalO tm x) (evalO tm z)).map fun s => (.junk, s) else none | none => none) := rfl
 rw [this, ht, hF.ev hx, hF.ev hz]
 dsimp only
 rw [if_pos (by rw [h1]; rfl)]
 simp [storeA, (hF.obj kk b _ hL).1, hj, AV.ok, AV.cellOk, AV.cells]
theorem OD.loadI (kk : Nat) {t : TypeId} {x : Operand} {b j sz : Nat} {xs : List AV} {e v : AV} (hn : Nat.blt d N = true) (hx : evL l x = some (.ptr b j 0)) (hL : L[kk]? = some (b, .row sz xs)) (he : xs[j]? = some e) (hp : partA E t e.cells 0 = some v) (k : OS E c pol ops r (i + 1) N ((d, v) :: l) L K Q) :
  OD E c pol ops { dst := some d, op := .load t x, type := ty, pos := pos, after := after, guard := guard } r i N l L K Q :=
 .loadP kk hn hx hL he rfl (by simpa using hp) k
theorem plain_vs {α : Type} {f : α -> AV} (hf : ∀ a, AV.plain (f a) = f a) (sz tk : Nat) (l : List α) : AV.plain (.vs sz (.tok tk) (l.map f)) = (GSl.mk none l (fun k => absurd rfl k)).av sz f := by
 simp [AV.plain, Own.plain, plainL_map hf, GSl.av]
end
end Go.Abs
namespace Go.Abs
open Go.RowKit
def tabFind : List (List AV × AV) -> List AV -> Option AV
 | [], _ => none
 | (b, r) :: t, a => bif AV.beqL a b then some r else tabFind t a
theorem tabFind_mem : ∀ {tab : List (List AV × AV)} {a : List AV} {r : AV}, tabFind tab a = some r -> (a, r) ∈ tab
 | [], _, _, h => by simp [tabFind] at h
 | (b, q) :: t, a, r, h => by
  simp only [tabFind] at h
  cases hb : AV.beqL a b with
  | true =>
   rw [hb] at h
   simp only [cond_true, Option.some.injEq] at h
   rw [AV.eqL_of_beq a b hb, h]
   exact List.mem_cons_self
  | false =>
   rw [hb] at h
   exact List.mem_cons_of_mem _ (tabFind_mem h)
def tabPrim (tab : List (List AV × AV)) (args : List AV) (st : St) : Option (AV × St) :=
 match tabFind tab (AV.plainL args) with
 | some r => some (r, st)
 | none => none
def runIs (E : Env) (n : Nat) (f : FuncId) (a : List AV) (r : AV) : Bool :=
 AV.freeL a && match callF E n f a St.empty with
  | some (x, st) => match freezeA st x with
   | some (y, _) => AV.free y && AV.beq (AV.plain y) r
   | none => false
  | none => false
theorem runIs_spec {E : Env} {n : Nat} {f : FuncId} {a : List AV} {r : AV} (h : runIs E n f a r = true) : AV.freeL a = true /\ ∃ x st y st', callF E n f a St.empty = some (x, st) /\ freezeA st x = some (y, st') /\ AV.free y = true /\ AV.plain y = r := by
 unfold runIs at h
 rw [Bool.and_eq_true] at h
 refine ⟨h.1, ?_⟩
 have h2 := h.2
 split at h2
 ·rename_i x st hc
  split at h2
  ·rename_i y st' hz
   rw [Bool.and_eq_true] at h2
   exact ⟨x, st, y, st', hc, hz, h2.1, AV.eq_of_beq _ _ h2.2⟩
  ·cases h2
 ·cases h2
def TabOk (E : Env) (f : FuncId) (tab : List (List AV × AV)) : Prop := ∀ e ∈ tab, ∃ n, runIs E n f e.1 e.2 = true
theorem TabOk.nil {E : Env} {f : FuncId} : TabOk E f [] := fun e h => by simp at h
theorem TabOk.cons {E : Env} {f : FuncId} {a : List AV} {r : AV} {tab : List (List AV × AV)} (n : Nat) (h : runIs E n f a r = true) (k : TabOk E f tab) : TabOk E f ((a, r) :: tab) := by
 intro e he
 rcases List.mem_cons.1 he with rfl | he
 ·exact ⟨n, h⟩
 ·exact k e he
section
variable {P : Program}
theorem TabOk.does {E : Env} {f : FuncId} {tab : List (List AV × AV)} (h : TabOk E f tab) (hE : EnvOk P E) (hp : ∀ B w0, PrimOk P E B w0) (hent : ∀ (w : World) (vargs : Array Value), (callFunc f vargs).run P w = .ok (.enter f vargs) w) (B : Nat) (w0 : World) : PrimDoes P B w0 f (tabPrim tab) := by
 intro args st r st' hg
 refine ⟨hent, fun Γ w vargs hI hargs => ?_⟩
 unfold tabPrim at hg
 split at hg
 ·rename_i q hq
  simp only [Option.some.injEq, Prod.mk.injEq] at hg
  obtain ⟨hr, hst⟩ := hg
  subst hst; subst hr
  obtain ⟨n, hn⟩ := h _ (tabFind_mem hq)
  obtain ⟨hf, x, st1, y, st2, hc, hz, hy, hpl⟩ := runIs_spec hn
  rw [freeL_plainL] at hf
  refine (pure_calls2 hE hp hf hz hy hc hI hargs).mono ?_
  rintro e w' ⟨v, Γ', he, out, hv⟩
  have hq' : AV.plain y = q := hpl
  exact ⟨v, Γ', he, out, by rw [<- hq']; exact hv⟩
 ·cases hg
end
end Go.Abs
namespace Go.Abs
section
variable {E : Env} {fid N : Nat} {l : List (Nat × AV)} {L : List (Nat × AObj)} {K : List (Nat × Bool)} {Q : AExit -> TM -> St -> Prop}
variable {c : Bool} {pol : Nat -> Nat} {ops : Array Oper} {r : List Oper} {i : Nat}
variable {d : Nat} {ty : TypeId} {pos : String} {after : Array Edge} {guard : Option (Nat × Bool)}
theorem Fa.withS2 {L' : List (Nat × AObj)} {K' : List (Nat × Bool)} {tm : TM} {st st' : St} (h : Fa N l L K tm st) (hs : SFa L' K' st') : Fa N l L' K' tm st' := ⟨h.n, h.get, hs.obj, hs.uniq, hs.tok, hs.uniqT⟩
theorem SFa.swap {st : St} (h : SFa L K st) {kk b : Nat} {o : AObj} (hk : L[kk]? = some (b, o)) (o' : AObj) : SFa (L.set kk (st.next, o')) K ((st.drop b).new o') := by
 have hl := (List.getElem?_eq_some_iff.1 hk).1
 have hget : ∀ j, ((st.drop b).new o').get j = if st.next = j then some o' else if b = j then none else st.get j := by
  intro j; rw [St.get_new, St.next_drop, St.get_drop]
 have hnext : ((st.drop b).new o').next = st.next + 1 := by simp
 refine ⟨fun k b1 o1 h1 => ?_, fun k1 k2 b1 o1 o2 h1 h2 => ?_, fun k t hk => ⟨by simpa using (h.tok k t hk).1, by rw [hnext]; have := (h.tok k t hk).2; omega⟩, h.uniqT⟩
 ·rw [List.getElem?_set] at h1
  rw [hnext, hget]
  by_cases e : kk = k
  ·subst e
   rw [if_pos rfl, if_pos hl] at h1
   simp only [Option.some.injEq, Prod.mk.injEq] at h1
   obtain ⟨rfl, rfl⟩ := h1
   exact ⟨by rw [if_pos rfl], by omega⟩
  ·rw [if_neg e] at h1
   have h2 := h.obj k b1 o1 h1
   refine ⟨?_, by omega⟩
   rw [if_neg (by omega), if_neg]
   ·exact h2.1
   ·rintro rfl
    exact e (h.uniq kk k b _ _ hk h1)
 ·rw [List.getElem?_set] at h1 h2
  by_cases e1 : kk = k1
  ·by_cases e2 : kk = k2
   ·omega
   ·rw [if_pos e1, if_pos hl] at h1
    rw [if_neg e2] at h2
    simp only [Option.some.injEq, Prod.mk.injEq] at h1
    have := (h.obj k2 b1 o2 h2).2
    omega
  ·by_cases e2 : kk = k2
   ·rw [if_neg e1] at h1
    rw [if_pos e2, if_pos hl] at h2
    simp only [Option.some.injEq, Prod.mk.injEq] at h2
    have := (h.obj k1 b1 o1 h1).2
    omega
   ·rw [if_neg e1] at h1
    rw [if_neg e2] at h2
    exact h.uniq _ _ _ _ _ h1 h2
theorem SFa.freeze {st : St} {b : Nat} {o : AObj} (h : SFa ((b, o) :: L) K st) : SFa L K (st.drop b).newTok := by
 refine ⟨fun k b1 o1 h1 => ?_, fun k1 k2 b1 o1 o2 h1 h2 => ?_, fun k t hk => ?_, fun k1 k2 t h1 h2 => h.uniqT k1 k2 t h1 h2⟩
 ·have h2 := h.obj (k + 1) b1 o1 h1
  refine ⟨?_, by simp; omega⟩
  have hne : b ≠ b1 := by
   rintro rfl
   have := h.uniq 0 (k + 1) b o o1 rfl h1
   omega
  simp [hne, h2.1]
 ·have := h.uniq (k1 + 1) (k2 + 1) b1 o1 o2 h1 h2
  omega
 ·have h2 := h.tok k t hk
  exact ⟨by simp [h2.1], by simp; omega⟩
theorem SFa.tail {st : St} {p : Nat × AObj} (h : SFa (p :: L) K st) : SFa L K st :=
 ⟨fun k b o hk => h.obj (k + 1) b o hk, fun k k' b o o' h1 h2 => by have := h.uniq (k + 1) (k' + 1) b o o' h1 h2; omega, h.tok, h.uniqT⟩
theorem OD.appendSl (kk : Nat) {ts tx e : TypeId} {s x : Operand} {sz sz' b len : Nat} {xs ys : List AV} {a : AV} {tys tyx et : Ty} (hn : Nat.blt d N = true) (hs : evL l s = some (.sl sz b 0 len)) (hx : evL l x = some a) (hL : L[kk]? = some (b, .row sz xs)) (hlen : len <= xs.length)
  (h1 : E.ty ts = some tys) (h2 : E.ty tx = some tyx) (h3 : tys.d = .slice e) (h4 : E.ty e = some et) (h5 : Nat.blt 0 et.size = true) (h6 : sz = et.size) (h7 : (∃ e', tyx.d = .slice e') /\ isStrA a = false) (h8 : ∀ st, SFa L K st -> elemsA st a = some (sz', ys)) (h9 : okElems et ys = true) (h10 : ys.isEmpty || Nat.beq sz' et.size)
  (hroom : roomA et (len + ys.length) = true) (k : ∀ b', OS E false pol ops r (i + 1) N ((d, .sl sz b' 0 (len + ys.length)) :: l) (L.set kk (b', .row sz (xs.take len ++ ys))) K Q) :
  OD E false pol ops { dst := some d, op := .call { callee := .builtin .append, args := #[s, x], argTypes := #[ts, tx] }, type := ty, pos := pos, after := after, guard := guard } r i N l L K Q := by
 subst h6
 refine .loud rfl rfl (fun _ h => by cases h) fun tm st hF => ?_
 have h0 : Abs.loud E noCall (pol i) tm st { dst := some d, op := .call { callee := .builtin .append, args := #[s, x], argTypes := #[ts, tx] }, type := ty, pos := pos, after := after, guard := guard } = appendOpA E (pol i == 1) st ts tx (evalO tm s) (evalO tm x) := rfl
 rw [h0, hF.ev hs, hF.ev hx]
 have hg := (hF.obj kk b _ hL).1
 refine ⟨.sl et.size st.next 0 (len + ys.length), (st.drop b).new (.row et.size (xs.take len ++ ys)), _, L.set kk (st.next, _), K, ?_, (hF.withS2 (hF.s.swap hL _)).put hn _, k st.next⟩
 unfold appendOpA
 rw [h1, h2]
 dsimp only
 rw [h3]
 dsimp only
 rw [h4]
 dsimp only
 rw [if_pos (Eq.mp Nat.blt_eq h5)]
 obtain ⟨⟨e', h7⟩, h7'⟩ := h7
 have h10' : (ys.isEmpty || sz' == et.size) = true := by
  cases hy : ys.isEmpty with
  | true => rfl
  | false =>
   rw [hy] at h10
   simp only [Bool.false_or] at h10
   simp [Nat.eq_of_beq_eq_true h10]
 rw [h7]; dsimp only; rw [h8 st hF.s]; dsimp only; rw [if_pos ⟨h9, h10', by simp [h7']⟩]
 simp only [appendA, hg]
 rw [if_pos ⟨trivial, trivial, by omega, hroom⟩, List.drop_zero]
end
end Go.Abs
namespace Go.Abs
section
variable {E : Env} {fid N : Nat} {l : List (Nat × AV)} {L : List (Nat × AObj)} {K : List (Nat × Bool)} {Q : AExit -> TM -> St -> Prop}
variable {c : Bool} {pol : Nat -> Nat} {ops : Array Oper} {r : List Oper} {i : Nat}
variable {d : Nat} {ty : TypeId} {pos : String} {after : Array Edge} {guard : Option (Nat × Bool)}
theorem quietS_sound {op : Op} {v : AV} (h : quietS E l op = some v) {tm : TM} {st : St} (hF : Fa N l L K tm st) : quiet E tm st { dst := some d, op := op, type := ty, pos := pos, after := after, guard := guard } = some v := by
 cases op with
 | move x =>
  show some (evalO tm x) = some v
  rw [hF.ev h]
 | assign x =>
  show some (evalO tm x) = some v
  rw [hF.ev h]
 | load t a =>
  simp only [quietS] at h
  split at h
  ·rename_i hx
   have : Abs.quiet E tm st { dst := some d, op := .load t a, type := ty, pos := pos, after := after, guard := guard } = (match loadCells st (evalO tm a) with | none => none | some cs => partA E t cs 0) := rfl
   rw [this, hF.ev hx]; exact h
  ·cases h
 | binOp op t x y t2 =>
  simp only [quietS] at h
  split at h
  ·rename_i hx hy
   show binA E op t x y (evalO tm x) (evalO tm y) = some v
   rw [hF.ev hx, hF.ev hy]; exact h
  ·cases h
 | fieldAddr s x f =>
  simp only [quietS] at h
  split at h
  ·rename_i hx
   show fieldAddrA E s (evalO tm x) f = some v
   rw [hF.ev hx]; exact h
  ·cases h
 | pick x y z =>
  simp only [quietS] at h
  have e : Abs.quiet E tm st { dst := some d, op := .pick x y z, type := ty, pos := pos, after := after, guard := guard } = (match evalO tm x with | .bool t => some (if t then evalO tm y else evalO tm z) | _ => none) := rfl
  split at h
  ·rename_i hx; rw [e, hF.ev hx, <- hF.ev h]; rfl
  ·rename_i hx; rw [e, hF.ev hx, <- hF.ev h]; rfl
  ·cases h
 | unOp op t x =>
  simp only [quietS] at h
  split at h
  ·rename_i hx
   show unA op (evalO tm x) = some v
   rw [hF.ev hx]; exact h
  ·cases h
 | convert s t x =>
  simp only [quietS] at h
  split at h
  ·rename_i hx
   show convertA E s t (evalO tm x) = some v
   rw [hF.ev hx]; exact h
  ·cases h
 | makeFunc f first cap =>
  cases f with
  | func f =>
   simp only [quietS] at h
   split at h
   ·rename_i hx hy
    cases h
    show some (AV.fn f (first.toList.map (evalO tm)) (cap.toList.map (evalO tm))) = _
    rw [hF.evs hx, hF.evs hy]
   ·cases h
  | _ => simp [quietS] at h
 | field s x f =>
  simp only [quietS] at h
  split at h
  ·rename_i hx
   show fieldA E s (evalO tm x) f = some v
   rw [hF.ev hx]; exact h
  ·cases h
 | extract x j =>
  simp only [quietS] at h
  split at h
  ·rename_i hx
   have : Abs.quiet E tm st { dst := some d, op := .extract x j, type := ty, pos := pos, after := after, guard := guard } = (match evalO tm x with | .tup xs => xs[j]? | _ => none) := rfl
   rw [this, hF.ev hx]; exact h
  ·cases h
 | build t ps =>
  simp only [quietS] at h
  split at h
  ·rename_i hx
   show buildA E t (ps.toList.map fun (p : Nat × Operand) => (p.1, evalO tm p.2)) = some v
   rw [hF.evps hx]; exact h
  ·cases h
 | buildSlice t n ps =>
  simp only [quietS] at h
  split at h
  ·rename_i hx
   show buildSliceA E t n (ps.toList.map fun (p : Nat × Operand) => (p.1, evalO tm p.2)) = some v
   rw [hF.evps hx]; exact h
  ·cases h
 | _ => simp [quietS] at h
theorem quiet_loadP (kk : Nat) {t : TypeId} {x : Operand} {b j off sz : Nat} {xs : List AV} {e v : AV} (hx : evL l x = some (.ptr b j off)) (hL : L[kk]? = some (b, .row sz xs)) (he : xs[j]? = some e) (ho : Nat.ble off e.cells.length = true)
  (hp : partA E t (e.cells.drop off) 0 = some v) {tm : TM} {st : St} (hF : Fa N l L K tm st) : quiet E tm st { dst := some d, op := .load t x, type := ty, pos := pos, after := after, guard := guard } = some v := by
 have : Abs.quiet E tm st { dst := some d, op := .load t x, type := ty, pos := pos, after := after, guard := guard } = (match loadCells st (evalO tm x) with | none => none | some cs => partA E t cs 0) := rfl
 rw [this, hF.ev hx]
 simp only [loadCells, (hF.obj kk b _ hL).1, he]
 rw [if_pos (Nat.le_of_ble_eq_true ho)]
 exact hp
theorem quiet_indexAddr {t : TypeId} {x y : Operand} {a b v : AV} (hx : evL l x = some a) (hy : evL l y = some b) (h : indexAddrA E t a b = some v) {tm : TM} {st : St} (hF : Fa N l L K tm st) :
  quiet E tm st { dst := some d, op := .indexAddr t x y, type := ty, pos := pos, after := after, guard := guard } = some v := by
 show indexAddrA E t (evalO tm x) (evalO tm y) = some v
 rw [hF.ev hx, hF.ev hy]; exact h
def Seg (E : Env) (ops : Array Oper) (N : Nat) (L : List (Nat × AObj)) (K : List (Nat × Bool)) (r : List Oper) (l l' : List (Nat × AV)) : Prop :=
 ∀ (tm : TM) (s0 : St), Fa N l L K tm s0 -> ∃ tr tm', (∀ n pre pol i, runOpsT E (callF E (n + 1)) pre pol ops r i tm s0 = some (tr, tm', s0)) /\ Fa N l' L K tm' s0 /\
  ∀ (k : Nat) (t : Tr) (o : Oper), tr[k]? = some t -> r[k]? = some o -> (t.was = s0 /\ t.now = s0) /\ (isLoud o.op = false -> ∀ s, SFa L K s -> quiet E t.tm s o = some t.v)
theorem Seg.nil : Seg E ops N L K [] l l := fun tm s0 hF => ⟨[], tm, fun _ _ _ _ => rfl, hF, fun k t o h => by simp at h⟩
theorem runOpsT_append {call : Call1} {pre : Pre} : ∀ (a b : List Oper) (i : Nat) (tm : TM) (st : St) {tr : List Tr} {tm1 tm2 : TM} {st1 st2 : St} {tr2 : List Tr}, runOpsT E call pre pol ops a i tm st = some (tr, tm1, st1) -> runOpsT E call pre pol ops b (i + a.length) tm1 st1 = some (tr2, tm2, st2) ->
  runOpsT E call pre pol ops (a ++ b) i tm st = some (tr ++ tr2, tm2, st2)
 | [], b, i, tm, st, tr, tm1, tm2, st1, st2, tr2, h1, h2 => by
  simp only [runOpsT, Option.some.injEq, Prod.mk.injEq] at h1
  obtain ⟨rfl, rfl, rfl⟩ := h1
  exact h2
 | o :: a, b, i, tm, st, tr, tm1, tm2, st1, st2, tr2, h1, h2 => by
  have hi : i + (o :: a).length = i + 1 + a.length := by simp; omega
  rw [hi] at h2
  simp only [runOpsT] at h1
  simp only [List.cons_append, runOpsT]
  split at h1
  ·rename_i hw
   split at h1
   ·rename_i v st' hs
    split at h1
    ·rename_i l' q hq
     simp only [Option.some.injEq, Prod.mk.injEq] at h1
     obtain ⟨rfl, rfl⟩ := h1
     rw [runOpsT_append a b (i + 1) _ _ hq h2]
     rfl
    ·cases h1
   ·cases h1
  ·rename_i hw
   split at h1
   ·rename_i l' q hq
    simp only [Option.some.injEq, Prod.mk.injEq] at h1
    obtain ⟨rfl, rfl⟩ := h1
    rw [runOpsT_append a b (i + 1) _ _ hq h2]
    rfl
   ·cases h1
  ·cases h1
theorem runOpsT_len {call : Call1} {pre : Pre} {a : List Oper} {i : Nat} {tm : TM} {st : St} {tr : List Tr} {q : TM × St} (h : runOpsT E call pre pol ops a i tm st = some (tr, q)) : tr.length = a.length := (runOps_of_T a i tm st h).2
end
end Go.Abs
namespace Go.Abs
section
variable {E : Env} {fid N : Nat} {l : List (Nat × AV)} {L : List (Nat × AObj)} {K : List (Nat × Bool)} {Q : AExit -> TM -> St -> Prop}
variable {c : Bool} {pol : Nat -> Nat} {ops : Array Oper} {r : List Oper} {i : Nat} {o : Oper}
variable {d : Nat} {op : Op} {ty : TypeId} {pos : String} {after : Array Edge}
def SegK (E : Env) (ops : Array Oper) (N : Nat) (L : List (Nat × AObj)) (K : List (Nat × Bool)) (r : List Oper) (l : List (Nat × AV)) (k : List (Nat × AV) -> Prop) : Prop := ∃ l', Seg E ops N L K r l l' /\ k l'
theorem SegK.nil {k : List (Nat × AV) -> Prop} (h : k l) : SegK E ops N L K [] l k := ⟨l, .nil, h⟩
end
end Go.Abs
namespace Go.Abs
open Go.RowKit
section
variable {H : Type} {enc : TypeId × Value -> H} {P : Program} {w : World} {base : Nat} {spare : Nat -> Bool} {held : Bool} {fuel n : Nat} {t e : TypeId} {cs : List Value} {x : DataW H × List MemPlace} {Γ : Ghost}
theorem weigh_field {fs : Array Field} {xs : List (DataW H × List MemPlace)} (ht : P.underlying t = some (.struct fs)) (hw : ∀ m ∈ (DataW.agg (xs.map (·.1))).weights P t, m <= reachBytes) {i : Nat} {f : Field} {y : DataW H × List MemPlace} (hf : fs[i]? = some f) (hy : xs[i]? = some y) : ∀ m ∈ y.1.weights P f.type, m <= reachBytes := by
 intro m hm
 refine hw m ?_
 simp only [DataW.weights, ht]
 exact DataW.weights_mem_each (j := i) (by simp [hf]) (by rw [List.getElem?_map, hy]; rfl) m hm
theorem weigh_arg {ts : List TypeId} {ds : List (DataW H)} (h : (DataW.weightsEach P ts ds).all (· <= reachBytes) = true) {j : Nat} {d : DataW H} (ht : ts[j]? = some t) (hd : ds[j]? = some d) : ∀ m ∈ d.weights P t, m <= reachBytes := by
 intro m hm
 have := List.all_eq_true.1 h _ (DataW.weights_mem_each ht hd m hm)
 simpa using this
end
end Go.Abs
namespace Go.Abs
open Go.RowKit
section
variable {H : Type} {enc : TypeId × Value -> H} {P : Program} {w : World} {base : Nat} {spare : Nat -> Bool} {held : Bool} {fuel n : Nat} {t e : TypeId} {cs : List Value} {x : DataW H × List MemPlace} {Γ : Ghost}
theorem weights_all {d : DataW H} : ∀ {l : List (DataW H)}, d ∈ l -> ∀ m ∈ d.weights P e, m ∈ DataW.weightsAll P e l
 | [], h, _, _ => by cases h
 | c :: l, h, m, hm => by
  simp only [DataW.weightsAll, List.mem_append]
  rcases List.mem_cons.1 h with rfl | h
  ·exact .inl hm
  ·exact .inr (weights_all h m hm)
theorem slice_readV {α : Type} (f : α -> AV) (sz : Nat) (good : α -> Prop) (hsz : 0 < sz) (ht : P.underlying t = some (.slice e)) (hc : P.cellsOf e = sz)
  (hby : 1 <= P.bytesOf e) (hw : ∀ m ∈ x.1.weights P t, m <= reachBytes)
  (hel : ∀ n cs y, DataW.trod enc P w base spare held n e cs = some y -> (∀ m ∈ y.1.weights P e, m <= reachBytes) -> ∃ a, good a /\ (f a).ok = true /\ ∃ v : Value, v.cells.toList = cs /\ R (Ghost.all w) (f a) v)
  (h : DataW.trod enc P w base spare held fuel t cs = some x) : ∃ s : GSl α, (∃ v, cs = [v] /\ R (Ghost.all w) (s.av sz f) v) /\ (∀ a ∈ s.xs, good a) /\ s.xs.length <= reachBytes := by
 rcases DataW.trod_slice ht h with ⟨rfl, _⟩ | ⟨a, len, cap, elems, rest, n, _, rfl, hxd, _, hlc, hcm, hel', hget, _, _⟩
 ·exact ⟨⟨some true, [], fun _ => rfl⟩, ⟨_, rfl, by simp only [GSl.av, R]⟩, (fun _ h => by cases h), Nat.zero_le _⟩
 ·have hwe : ∀ y ∈ elems, ∀ m ∈ y.1.weights P e, m <= reachBytes := fun y hy m hm => by
   refine hw m ?_
   rw [hxd]
   simp only [DataW.weights, ht, List.mem_cons, List.mem_append]
   exact .inr (.inl (weights_all (List.mem_map_of_mem (f := fun q : DataW H × List MemPlace => q.1) hy) m hm))
  have hwl : elems.length <= reachBytes := by
   have h1 := hw ((elems.length + rest.length) * P.bytesOf e) (by rw [hxd]; simp [DataW.weights, ht])
   have h2 : elems.length * 1 <= (elems.length + rest.length) * P.bytesOf e := Nat.mul_le_mul (by omega) hby
   omega
  by_cases h0 : len = 0
  ·subst h0
   exact ⟨⟨some false, [], fun _ => rfl⟩, ⟨_, rfl, by simp only [GSl.av, R]; exact ⟨a, cap, rfl⟩⟩, (fun _ h => by cases h), Nat.zero_le _⟩
  ·have hb : ∀ i, i < len -> ∃ l y, w.cells? base (a.add (i * sz)) sz = some l /\ DataW.trod enc P w base spare held n e l = some y /\ y ∈ elems := fun i hi => by
    have := hget i hi
    rw [List.getElem?_eq_getElem (by omega), hc] at this
    obtain ⟨l, h1, h2⟩ := Option.bind_eq_some_iff.1 this
    exact ⟨l, _, h1, h2, List.getElem_mem _⟩
   have hspot : a.spot = none := by
    obtain ⟨l, y, h1, _, _⟩ := hb 0 (by omega)
    rw [Nat.zero_mul] at h1
    exact cells_spot hsz h1
   obtain ⟨b, o, sp⟩ := a
   dsimp only at hspot
   subst hspot
   have hch : ∀ i : Fin len, ∃ a : α, good a /\ (f a).ok = true /\ ∃ v : Value, v.cells.size = sz /\ R (Ghost.all w) (f a) v /\ ∀ (j : Nat) (u : Value), v.cells.toList[j]? = some u -> w.cell? ⟨b, o + i * sz + j, none⟩ = some u := fun i => by
    obtain ⟨l, y, h1, h2, hy⟩ := hb i i.2
    obtain ⟨a, ha, hok, v, hv, hr⟩ := hel n l y h2 (fun m hm => hwe y hy m hm)
    obtain ⟨h3, h4⟩ := cells_some h1
    exact ⟨a, ha, hok, v, by rw [<- Array.length_toList, hv]; exact h3, hr, fun j u hj => h4 j u (by rw [<- hv]; exact hj)⟩
   refine ⟨⟨none, List.ofFn fun i => Classical.choose (hch i), fun k => absurd rfl k⟩, ⟨_, rfl, ?_⟩, fun a ha => ?_, ?_⟩
   ·simp only [GSl.av, R]
    refine ⟨b, o, cap, by simp, by simpa using hlc, hsz, by simp only [OwnOk], ?_⟩
    refine RE.mk fun i u hi => ?_
    rw [List.getElem?_map, List.getElem?_ofFn] at hi
    split at hi
    ·rename_i hlt
     simp only [Option.map_some, Option.some.injEq] at hi
     subst hi
     obtain ⟨_, h2, v, h3, h4, h5⟩ := Classical.choose_spec (hch ⟨i, hlt⟩)
     exact ⟨v, h4, h2, h3, fun j u hj => h5 j u hj⟩
    ·simp at hi
   ·rw [List.mem_ofFn] at ha
    obtain ⟨i, rfl⟩ := ha
    exact (Classical.choose_spec (hch i)).1
   ·simp only [List.length_ofFn]; omega
theorem weigh_string {s : ByteArray} {d : DataW H} (hd : d = .lit (.string s.data.toList)) (hw : ∀ m ∈ d.weights P t, m <= reachBytes) : s.size <= reachBytes := by
 subst hd
 have := hw s.data.toList.length (by simp [DataW.weights])
 simpa using this
end
end Go.Abs
namespace Go.Abs
section
variable {E : Env} {N : Nat} {l : List (Nat × AV)} {L : List (Nat × AObj)} {K : List (Nat × Bool)} {Q : AExit -> TM -> St -> Prop}
variable {pol : Nat -> Nat} {ops : Array Oper} {r : List Oper} {i : Nat}
variable {d : Nat} {ty : TypeId} {pos : String} {after : Array Edge} {guard : Option (Nat × Bool)}
theorem OD.callM {D : Type} {f : Operand} {args : Array Operand} {argTypes : Array TypeId} {g : FuncId} {first cap vs : List AV} (p : D -> Prop) (vf : D -> AV) (Lf : D -> List (Nat × AObj)) (Kf : D -> List (Nat × Bool)) (hn : Nat.blt d N = true) (hf : evL l f = some (.fn g first cap)) (ha : evLs l args.toList = some vs)
  (hr : ∀ st, SFa L K st -> CW E g (first ++ vs ++ cap) st fun x st' => ∃ dd, p dd /\ x = vf dd /\ SFa (Lf dd) (Kf dd) st') (hz : ∀ dd st, p dd -> freezeA st (vf dd) = some (vf dd, st))
  (k : ∀ dd, p dd -> OS E false pol ops r (i + 1) N ((d, vf dd) :: l) (Lf dd) (Kf dd) Q) : OD E false pol ops { dst := some d, op := .call { callee := .value f, args := args, argTypes := argTypes }, type := ty, pos := pos, after := after, guard := guard } r i N l L K Q := by
 intro pre tm st hF hp' hw
 obtain ⟨n1, x, st', hc, dd, hx, rfl, hS⟩ := hr st hF.s
 obtain ⟨n, tr, tm1, st1, h1, _, h2⟩ := k dd hx pre (tm.put d (vf dd)) st' ((hF.withS2 hS).put hn (vf dd)) hp'
 refine ⟨Nat.max n n1, ⟨tm, st, st', vf dd, true⟩ :: tr, tm1, st1, ?_, (fun hc => by cases hc), h2⟩
 have hl : Abs.loud E (callF E (Nat.max n n1)) (pol i) tm st { dst := some d, op := .call { callee := .value f, args := args, argTypes := argTypes }, type := ty, pos := pos, after := after, guard := guard } = some (vf dd, st') := by
  have : Abs.loud E (callF E (Nat.max n n1)) (pol i) tm st { dst := some d, op := .call { callee := .value f, args := args, argTypes := argTypes }, type := ty, pos := pos, after := after, guard := guard } = (match evalO tm f with | .fn g first cap => callF E (Nat.max n n1) g (first ++ args.toList.map (evalO tm) ++ cap) st | _ => none) := rfl
  rw [this, hF.ev hf, hF.evs ha]
  exact callF_mono n1 (Nat.max n n1) (Nat.le_max_right _ _) _ _ _ _ hc
 have hst : stepPre E (callF E (Nat.max n n1)) pre (pol i) i tm st { dst := some d, op := .call { callee := .value f, args := args, argTypes := argTypes }, type := ty, pos := pos, after := after, guard := guard } = some (vf dd, st') := by
  simp only [stepPre, stepOp, isLoud, if_true, hl, isFnCall, Bool.and_true, decide_eq_true_eq]
  split
  ·exact hz dd st' hx
  ·rfl
 simp only [runOpsT]
 rw [hw]
 dsimp only
 rw [hst]
 dsimp only [putO]
 rw [runOpsT_mono (callF_mono n (Nat.max n n1) (Nat.le_max_left _ _)) _ _ _ _ h1]
end
end Go.Abs
namespace Go.OptEnv
open Go Go.Proofs Go.Abs Go.RowKit
abbrev Prims := FuncId -> Option (List AV -> St -> Option (AV × St))
def pol0 : Nat -> Nat -> Nat -> Nat := polOf [(61,7,5,1),(61,12,2,1),(61,29,13,1),(137,3,2,1),(118,1,5,0),(81,6,4,0),(80,3,2,1),(96,8,2,0),(19,18,12,1),(19,10,4,1),(19,21,10,1),(39,44,4,1),(39,49,2,1),(39,55,5,1),(39,63,4,1),(39,72,2,0),(22,8,4,1),(46,1,7,1),(46,1,15,1),(53,15,1,0),(52,3,1,0),(63,6,5,1),(63,11,2,1),(63,27,8,1),(63,13,4,1),(55,13,4,1),(23,11,4,1),(33,1,1,0)]
noncomputable def En (pr : Prims) : Env := { ty := tys.find, fns := fns.find, prim := pr, pol := pol0, dyn := dyn, mks := mks }
theorem En_ok (pr : Prims) : EnvOk Tryz.prog (En pr) := EnvOk.of_trees rfl rfl tys_ok fns_ok mixed
structure Good (pr : Prims) : Prop where
 ok : ∀ B w0, PrimOk Tryz.prog (En pr) B w0
def addP (pr : Prims) (f : FuncId) (g : List AV -> St -> Option (AV × St)) : Prims := fun x => bif Nat.beq x f then some g else pr x
theorem Good.addT {pr : Prims} (h : Good pr) {f : FuncId} {g : List AV -> St -> Option (AV × St)} (hg : ∀ B w0, PrimDoes Tryz.prog B w0 f g) : Good (addP pr f g) :=
 ⟨fun B w0 => (h.ok B w0).addPrim (hg B w0)⟩
def ap0 : Prims := fun _ => none
theorem good0 : Good ap0 := ⟨fun _ _ f g args st r st' hg _ => by cases hg⟩
theorem hent {f : FuncId} {fn : Func} (h : Tryz.prog.funcs[f]? = some fn) {c : Code} (hb : fn.body = some c := by rfl) (hn : (fn.name == "runtime.NumGoroutine") = false := by rfl) (w : World) (vargs : Array Value) : (callFunc f vargs).run Tryz.prog w = .ok (.enter f vargs) w := enters h hb hn w vargs
def isT (x : Option (AV × St)) : Bool := match x with | some (.bool true, _) => true | _ => false
theorem isT_spec {x : Option (AV × St)} (h : isT x = true) : ∃ st, x = some (.bool true, st) := by
 unfold isT at h
 split at h
 ·rename_i st; exact ⟨st, rfl⟩
 ·cases h
end Go.OptEnv
