/- Own text of this claim: part 1 of an interpreter that is proved sound against the model, and of what it shows of the law. -/
import Derived.Orders
import Derived.Below
namespace Go.Abs
inductive Own where
 | full
 | any
 | tok (t : Nat)
 deriving DecidableEq, Repr, Inhabited
inductive AV where
 | bool (b : Bool)
 | int (k : IntKind) (n : Int)
 | str (s : ByteArray)
 | ptr (b i off : Nat)
 | ip (cells : List AV)
 | nilptr
 | gptr (g : Nat)
 | nilsl
 | es
 | vs (sz : Nat) (own : Own) (xs : List AV)
 | sl (sz b off len : Nat)
 | map (b : Nat)
 | nilmap
 | fn (f : FuncId) (first cap : List AV)
 | nilfn
 | iface (t : TypeId) (v : AV)
 | nilif
 | agg (cells : List AV)
 | tup (xs : List AV)
 | junk
 deriving Inhabited
mutual
def AV.beq : AV -> AV -> Bool
 | .bool a, .bool b => a == b
 | .int k a, .int l b => k == l && a == b
 | .str a, .str b => decide (a = b)
 | .ptr a b c, .ptr d e f => a == d && b == e && c == f
 | .ip a, .ip b => AV.beqL a b
 | .nilptr, .nilptr => true
 | .gptr a, .gptr b => a == b
 | .nilsl, .nilsl => true
 | .es, .es => true
 | .vs a o x, .vs b p y => a == b && o == p && AV.beqL x y
 | .sl a b c d, .sl e f g h => a == e && b == f && c == g && d == h
 | .map a, .map b => a == b
 | .nilmap, .nilmap => true
 | .fn f a b, .fn g c d => f == g && AV.beqL a c && AV.beqL b d
 | .nilfn, .nilfn => true
 | .iface t a, .iface u b => t == u && AV.beq a b
 | .nilif, .nilif => true
 | .agg a, .agg b => AV.beqL a b
 | .tup a, .tup b => AV.beqL a b
 | .junk, .junk => true
 | _, _ => false
def AV.beqL : List AV -> List AV -> Bool
 | [], [] => true
 | x :: xs, y :: ys => AV.beq x y && AV.beqL xs ys
 | _, _ => false
end
mutual
theorem AV.beq_refl : ∀ x : AV, AV.beq x x = true
 | .bool _ | .int _ _ | .str _ | .ptr _ _ _ | .nilptr | .gptr _ | .nilsl | .es | .sl _ _ _ _ | .map _ | .nilmap | .nilfn | .nilif | .junk => by simp [AV.beq]
 | .ip a => by simp [AV.beq, AV.beqL_refl a]
 | .vs _ _ a => by simp [AV.beq, AV.beqL_refl a]
 | .fn _ a b => by simp [AV.beq, AV.beqL_refl a, AV.beqL_refl b]
 | .iface _ a => by simp [AV.beq, AV.beq_refl a]
 | .agg a => by simp [AV.beq, AV.beqL_refl a]
 | .tup a => by simp [AV.beq, AV.beqL_refl a]
theorem AV.beqL_refl : ∀ x : List AV, AV.beqL x x = true
 | [] => rfl
 | x :: xs => by simp [AV.beqL, AV.beq_refl x, AV.beqL_refl xs]
end
mutual
theorem AV.eq_of_beq : ∀ x y : AV, AV.beq x y = true -> x = y
 | .bool a, y, h => by cases y <;> simp_all [AV.beq]
 | .int a b, y, h => by cases y <;> simp_all [AV.beq]
 | .str a, y, h => by cases y <;> simp_all [AV.beq]
 | .ptr a b c, y, h => by cases y <;> simp_all [AV.beq]
 | .nilptr, y, h => by cases y <;> simp_all [AV.beq]
 | .gptr a, y, h => by cases y <;> simp_all [AV.beq]
 | .nilsl, y, h => by cases y <;> simp_all [AV.beq]
 | .es, y, h => by cases y <;> simp_all [AV.beq]
 | .sl a b c d, y, h => by cases y <;> simp_all [AV.beq]
 | .map a, y, h => by cases y <;> simp_all [AV.beq]
 | .nilmap, y, h => by cases y <;> simp_all [AV.beq]
 | .nilfn, y, h => by cases y <;> simp_all [AV.beq]
 | .nilif, y, h => by cases y <;> simp_all [AV.beq]
 | .junk, y, h => by cases y <;> simp_all [AV.beq]
 | .ip a, y, h => by
  cases y <;> simp [AV.beq] at h
  rename_i b; rw [AV.eqL_of_beq a b h]
 | .vs s o a, y, h => by
  cases y <;> simp [AV.beq] at h
  rename_i s' o' b; obtain ⟨⟨rfl, rfl⟩, h⟩ := h; rw [AV.eqL_of_beq a b h]
 | .fn f a b, y, h => by
  cases y <;> simp [AV.beq] at h
  rename_i f' c d; obtain ⟨⟨rfl, h⟩, h'⟩ := h; rw [AV.eqL_of_beq a c h, AV.eqL_of_beq b d h']
 | .iface t a, y, h => by
  cases y <;> simp [AV.beq] at h
  rename_i t' b; obtain ⟨rfl, h⟩ := h; rw [AV.eq_of_beq a b h]
 | .agg a, y, h => by
  cases y <;> simp [AV.beq] at h
  rename_i b; rw [AV.eqL_of_beq a b h]
 | .tup a, y, h => by
  cases y <;> simp [AV.beq] at h
  rename_i b; rw [AV.eqL_of_beq a b h]
theorem AV.eqL_of_beq : ∀ x y : List AV, AV.beqL x y = true -> x = y
 | [], [], _ => rfl
 | [], _ :: _, h => by simp [AV.beqL] at h
 | _ :: _, [], h => by simp [AV.beqL] at h
 | x :: xs, y :: ys, h => by
  simp [AV.beqL] at h
  rw [AV.eq_of_beq x y h.1, AV.eqL_of_beq xs ys h.2]
end
def AV.cells : AV -> List AV
 | .agg cs => cs
 | x => [x]
def AV.cellOk : AV -> Bool
 | .agg _ | .tup _ | .junk => false
 | _ => true
def AV.ok : AV -> Bool
 | .agg cs => cs.all AV.cellOk
 | x => x.cellOk
inductive TD where
 | bool | int (k : IntKind) | string
 | pointer (e : TypeId) | slice (e : TypeId) | array (n : Nat) (e : TypeId) | map (k e : TypeId)
 | struct | func | iface
 | other
 deriving DecidableEq, Repr, Inhabited
structure Ty where
 d : TD
 size : Nat
 bytes : Nat
 agg : Bool
 zero : List AV
 fs : List (TypeId × Nat) := []
 eqOk : Bool := false
 deriving Inhabited
def Ty.zeroV (t : Ty) : AV := if t.agg then .agg t.zero else t.zero.headD .junk
inductive AObj where
 | row (sz : Nat) (xs : List AV)
 | map (kt et : TypeId) (es : List (AV × AV))
 deriving Inhabited
def getL (l : List (Nat × AObj)) (b : Nat) : Option AObj :=
 match l with
 | [] => none
 | (c, o) :: r => if c = b then some o else getL r b
def updL (l : List (Nat × AObj)) (b : Nat) (o : AObj) : List (Nat × AObj) :=
 match l with
 | [] => [(b, o)]
 | (c, p) :: r => if c = b then (c, o) :: r else (c, p) :: updL r b o
def remL (l : List (Nat × AObj)) (b : Nat) : List (Nat × AObj) :=
 match l with
 | [] => []
 | (c, p) :: r => if c = b then remL r b else (c, p) :: remL r b
def remN (l : List Nat) (b : Nat) : List Nat :=
 match l with
 | [] => []
 | c :: r => if c = b then remN r b else c :: remN r b
structure St where
 next : Nat
 objs : List (Nat × AObj)
 toks : List Nat
 tys : List (Nat × TypeId) := []
 deriving Inhabited
def St.get (s : St) (b : Nat) : Option AObj := getL s.objs b
def St.alive (s : St) (t : Nat) : Bool := s.toks.contains t
def St.new (s : St) (o : AObj) : St := { s with next := s.next + 1, objs := (s.next, o) :: s.objs }
def St.put (s : St) (b : Nat) (o : AObj) : St := { s with objs := updL s.objs b o }
def St.drop (s : St) (b : Nat) : St := { s with objs := remL s.objs b }
def St.newTok (s : St) : St := { s with next := s.next + 1, toks := s.next :: s.toks }
def St.dropTok (s : St) (t : Nat) : St := { s with toks := remN s.toks t }
def tyL (l : List (Nat × TypeId)) (b : Nat) : Option TypeId :=
 match l with
 | [] => none
 | (c, t) :: r => if c = b then some t else tyL r b
def St.ty (s : St) (b : Nat) : Option TypeId := tyL s.tys (2 * b)
def St.tag (s : St) (b : Nat) (t : TypeId) : St := { s with tys := (2 * b, t) :: s.tys }
def St.tty (s : St) (b : Nat) : Option TypeId := tyL s.tys (2 * b + 1)
def St.ttag (s : St) (b : Nat) (t : TypeId) : St := { s with tys := (2 * b + 1, t) :: s.tys }
def tokOnA (st : St) (t : Nat) (e : TypeId) : St :=
 match st.tty t with
 | some e' => if e' = e then ((st.dropTok t).newTok).ttag st.next e else (st.dropTok t).newTok
 | none => (st.dropTok t).newTok
structure FnI where
 code : Code
 ntmps : Nat
 results : List ResultVar
abbrev Call1 := FuncId -> List AV -> St -> Option (AV × St)
structure Env where
 ty : TypeId -> Option Ty
 fns : FuncId -> Option FnI
 prim : FuncId -> Option (List AV -> St -> Option (AV × St))
 pol : Nat -> Nat -> Nat -> Nat
 dyn : Nat -> Nat -> List (Nat × Nat)
 mks : Nat -> Nat -> Bool := fun _ _ => false
def ofCell : Value -> AV
 | .bool b => .bool b
 | .int k n => .int k n
 | .string s => .str s
 | .pointer none => .nilptr
 | .slice none 0 0 => .nilsl
 | .map none => .nilmap
 | .nilFunc => .nilfn
 | .nilIface => .nilif
 | _ => .junk
def ofValue : Value -> AV
 | .agg cs => .agg (cs.toList.map ofCell)
 | v => ofCell v
inductive Tri where
 | nil
 | node (v : AV) (l r : Tri)
 deriving Inhabited
def Tri.get : Tri -> Nat -> AV
 | .nil, _ => .junk
 | .node v _ _, 0 => v
 | .node _ l r, i + 1 => bif Nat.beq (i % 2) 0 then l.get (i / 2) else r.get (i / 2)
def Tri.setF : Nat -> Tri -> Nat -> AV -> Tri
 | 0, t, _, _ => t
 | _ + 1, .nil, 0, v => .node v .nil .nil
 | f + 1, .nil, i + 1, v => bif Nat.beq (i % 2) 0 then .node .junk (Tri.setF f .nil (i / 2) v) .nil else .node .junk .nil (Tri.setF f .nil (i / 2) v)
 | _ + 1, .node _ l r, 0, v => .node v l r
 | f + 1, .node u l r, i + 1, v => bif Nat.beq (i % 2) 0 then .node u (Tri.setF f l (i / 2) v) r else .node u l (Tri.setF f r (i / 2) v)
structure TM where
 n : Nat
 t : Tri
 deriving Inhabited
def TM.get (tm : TM) (i : Nat) : AV := tm.t.get i
def TM.put (tm : TM) (d : Nat) (v : AV) : TM := bif Nat.blt d tm.n then ⟨tm.n, Tri.setF (d + 1) tm.t d v⟩ else tm
def Tri.ofL : List AV -> Nat -> Tri -> Tri
 | [], _, t => t
 | x :: xs, i, t => Tri.ofL xs (i + 1) (Tri.setF (i + 1) t i x)
def TM.of (args : List AV) (n : Nat) : TM := ⟨max n args.length, Tri.ofL args 0 .nil⟩
def evalO (tm : TM) : Operand -> AV
 | .tmp t => tm.get t
 | .const v => ofValue v
 | .global g => .gptr g
 | .func f => .fn f [] []
def putO (tm : TM) (d : Option Tmp) (v : AV) : TM :=
 match d with
 | some d => tm.put d v
 | none => tm
def bits (op : BinOp) (k : IntKind) (x y : Int) : Option Int :=
 let a := BitVec.ofInt k.bits x
 let b := BitVec.ofInt k.bits y
 match op with
 | .and => some (k.wrap (a &&& b).toNat)
 | .or => some (k.wrap (a ||| b).toNat)
 | .xor => some (k.wrap (a ^^^ b).toNat)
 | .andNot => some (k.wrap (a &&& ~~~b).toNat)
 | _ => none
def intBin (op : BinOp) (k : IntKind) (x y : Int) : Option AV :=
 match op with
 | .add => some (.int k (k.wrap (x + y)))
 | .sub => some (.int k (k.wrap (x - y)))
 | .mul => some (.int k (k.wrap (x * y)))
 | .quo => if y = 0 then none else some (.int k (k.wrap (x.tdiv y)))
 | .rem => if y = 0 then none else some (.int k (x.tmod y))
 | .and | .or | .xor | .andNot => (bits op k x y).map (.int k ·)
 | .eql => some (.bool (x == y))
 | .neq => some (.bool (x != y))
 | .lss => some (.bool (decide (x < y)))
 | .leq => some (.bool (decide (x <= y)))
 | .gtr => some (.bool (decide (x > y)))
 | .geq => some (.bool (decide (x ≥ y)))
 | _ => none
def shiftA (op : BinOp) (k : IntKind) (x : Int) (y : Int) : Option AV :=
 if y < 0 then none else
 match op with
 | .shl => some (.int k (k.wrap (x * 2 ^ (min y.toNat k.bits))))
 | .shr => some (.int k (x.fdiv (2 ^ (min y.toNat k.bits))))
 | _ => none
def strBin (op : BinOp) (x y : ByteArray) : Option AV :=
 match op with
 | .add => if ((x.size + y.size : Nat) : Int) > IntKind.i64.max then none else some (.str (x ++ y))
 | .eql => some (.bool (x.toList == y.toList))
 | .neq => some (.bool (!(x.toList == y.toList)))
 | .lss => some (.bool (Op.bytesLess x.toList y.toList))
 | .leq => some (.bool (Op.bytesLess x.toList y.toList || x.toList == y.toList))
 | .gtr => some (.bool (!(Op.bytesLess x.toList y.toList || x.toList == y.toList)))
 | .geq => some (.bool (!Op.bytesLess x.toList y.toList))
 | _ => none
def partA (E : Env) (t : TypeId) (cs : List AV) (off : Nat) : Option AV :=
 match E.ty t with
 | none => none
 | some ty =>
  if off + ty.size <= cs.length then
   if ty.agg then some (.agg ((cs.drop off).take ty.size)) else cs[off]?
  else none
def eqFs (E : Env) (eq : TypeId -> AV -> AV -> Option Bool) (xs ys : List AV) : List (TypeId × Nat) -> Option Bool
 | [] => some true
 | (ft, off) :: r =>
  match partA E ft xs off, partA E ft ys off with
  | some a, some b =>
   match eq ft a b with
   | some true => eqFs E eq xs ys r
   | some false => some false
   | none => none
  | _, _ => none
def eqEls (E : Env) (eq : TypeId -> AV -> AV -> Option Bool) (e size : Nat) (xs ys : List AV) (i : Nat) : Nat -> Option Bool
 | 0 => some true
 | m + 1 =>
  match partA E e xs (i * size), partA E e ys (i * size) with
  | some a, some b =>
   match eq e a b with
   | some true => eqEls E eq e size xs ys (i + 1) m
   | some false => some false
   | none => none
  | _, _ => none
def eqA (E : Env) : Nat -> TypeId -> AV -> AV -> Option Bool
 | 0, _, _, _ => none
 | d + 1, t, x, y =>
  match E.ty t with
  | none => none
  | some ty =>
   match ty.d, x, y with
   | .bool, .bool a, .bool b => some (a == b)
   | .int _, .int k a, .int l b => if k = l then some (a == b) else none
   | .string, .str a, .str b => some (decide (a = b))
   | .pointer _, .nilptr, .nilptr => some true
   | .pointer _, .nilptr, .ptr _ _ _ | .pointer _, .ptr _ _ _, .nilptr => some false
   | .iface, .nilif, .nilif => some true
   | .iface, .nilif, .iface _ _ | .iface, .iface _ _, .nilif => some false
   | .slice _, .nilsl, .nilsl => some true
   | .slice _, .nilsl, .vs _ _ _ | .slice _, .vs _ _ _, .nilsl | .slice _, .nilsl, .sl _ _ _ _ | .slice _, .sl _ _ _ _, .nilsl | .slice _, .nilsl, .es | .slice _, .es, .nilsl => some false
   | .map _ _, .nilmap, .nilmap => some true
   | .map _ _, .nilmap, .map _ | .map _ _, .map _, .nilmap => some false
   | .func, .nilfn, .nilfn => some true
   | .func, .nilfn, .fn _ _ _ | .func, .fn _ _ _, .nilfn => some false
   | .struct, .agg xs, .agg ys => if ty.eqOk then eqFs E (eqA E d) xs ys ty.fs else none
   | .array n e, .agg xs, .agg ys =>
    if ty.eqOk then
     match E.ty e with
     | some et => eqEls E (eqA E d) e et.size xs ys 0 n
     | none => none
    else none
   | _, _, _ => none
def isConstO : Operand -> Bool
 | .const _ => true
 | _ => false
def AV.isNilIf : AV -> Bool
 | .nilif => true
 | _ => false
def binA (E : Env) (op : BinOp) (t : TypeId) (xo yo : Operand) (x y : AV) : Option AV :=
 match x, y with
 | .int k a, .int l b =>
  match op with
  | .shl => shiftA .shl k a b
  | .shr => shiftA .shr k a b
  | op => if k = l then intBin op k a b else none
 | .str a, .str b => strBin op a b
 | x, y =>
  match op with
  | .eql => if x.isNilIf && y.isNilIf && !isConstO xo && !isConstO yo then none else (eqA E 20 t x y).map fun b => .bool b
  | .neq => if x.isNilIf && y.isNilIf && !isConstO xo && !isConstO yo then none else (eqA E 20 t x y).map fun b => .bool (!b)
  | _ => none
def unA (op : UnOp) (x : AV) : Option AV :=
 match op, x with
 | .neg, .int k n => some (.int k (k.wrap (0 - n)))
 | .xor, .int k n => (bits .xor k (if k.signed then -1 else k.max) n).map (.int k ·)
 | .not, .bool b => some (.bool !b)
 | _, _ => none
def asNat (x : AV) (y : Nat) : Option Nat :=
 match x with
 | .int _ i => if 0 <= i /\ i <= y then some i.toNat else none
 | _ => none
def optNat (x : Option AV) (y dflt : Nat) : Option Nat :=
 match x with
 | none => some dflt
 | some x => asNat x y
def cutA (len : Nat) (lo hi mx : Option AV) : Option (Nat × Nat × Bool) :=
 match mx with
 | none =>
  match optNat hi len len with
  | none => none
  | some h =>
   match optNat lo h 0 with
   | none => none
   | some l => some (l, h, false)
 | some m =>
  match asNat m len, hi with
  | some m, some hi =>
   match asNat hi m with
   | none => none
   | some h =>
    match optNat lo h 0 with
    | none => none
    | some l => if m = h then some (l, h, true) else none
  | _, _ => none
def sliceA (E : Env) (t : TypeId) (x : AV) (lo hi mx : Option AV) : Option AV :=
 match E.ty t with
 | none => none
 | some ty =>
  match ty.d, x with
  | .string, .str s =>
   match mx with
   | some _ => none
   | none =>
    match cutA s.size lo hi none with
    | some (l, h, _) => some (.str (s.extract l h))
    | none => none
  | .array n e, .ip cells =>
   match E.ty e with
   | some et =>
    if et.size = 1 /\ n <= cells.length /\ cells.all AV.cellOk then
     match lo, hi, mx with
     | none, none, none => some (.vs 1 .full (cells.take n))
     | _, _, _ => none
    else none
   | none => none
  | .slice e, .nilsl =>
   match E.ty e, cutA 0 lo hi mx with
   | some _, some _ => some .nilsl
   | _, _ => none
  | .slice e, .es =>
   match E.ty e, cutA 0 lo hi mx with
   | some _, some _ => some .es
   | _, _ => none
  | .slice e, .vs sz own xs =>
   match E.ty e with
   | none => none
   | some et =>
    if et.size = sz then
     match cutA xs.length lo hi mx with
     | some (l, h, true) => some (.vs sz .full ((xs.drop l).take (h - l)))
     | some (l, h, false) => some (.vs sz (if h = xs.length then own else .any) ((xs.drop l).take (h - l)))
     | none => none
    else none
  | .slice e, .sl sz b off len =>
   match E.ty e with
   | none => none
   | some et =>
    if et.size = sz then
     match cutA len lo hi mx with
     | some (l, h, _) => some (.sl sz b (off + l) (h - l))
     | none => none
    else none
  | _, _ => none
def fillA (place : Nat -> Option (Nat × Nat)) (cells : List AV) : List (Nat × AV) -> Option (List AV)
 | [] => some cells
 | (i, v) :: rest =>
  match place i with
  | none => none
  | some (off, size) =>
   if v.ok && v.cells.length == size && decide (off + size <= cells.length) then
    fillA place (cells.take off ++ v.cells ++ cells.drop (off + size)) rest
   else none
def fieldPlaces (E : Env) (fs : List (TypeId × Nat)) (i : Nat) : Option (Nat × Nat) :=
 match fs[i]? with
 | none => none
 | some (t, off) => (E.ty t).map fun ty => (off, ty.size)
def buildA (E : Env) (t : TypeId) (parts : List (Nat × AV)) : Option AV :=
 match E.ty t with
 | none => none
 | some ty =>
  match ty.d with
  | .struct => if ty.fs.all (fun f => (E.ty f.1).isSome) then (fillA (fieldPlaces E ty.fs) ty.zero parts).map .agg else none
  | .array _ e =>
   match E.ty e with
   | none => none
   | some et => (fillA (fun i => some (i * et.size, et.size)) ty.zero parts).map .agg
  | _ => none
def litA (et : Ty) : Nat -> Nat -> List (Nat × AV) -> Option (List AV)
 | _, 0, [] => some []
 | _, 0, _ :: _ => none
 | i, n + 1, (j, v) :: rest =>
  if j = i then
   if v.ok && v.cells.length == et.size then (litA et (i + 1) n rest).map (v :: ·) else none
  else (litA et (i + 1) n ((j, v) :: rest)).map (et.zeroV :: ·)
 | i, n + 1, [] => (litA et (i + 1) n []).map (et.zeroV :: ·)
def loadCells (st : St) : AV -> Option (List AV)
 | .ip cells => some cells
 | .ptr b i off =>
  match st.get b with
  | some (.row _ xs) =>
   match xs[i]? with
   | some e => if off <= e.cells.length then some (e.cells.drop off) else none
   | none => none
  | _ => none
 | _ => none
def keyOkA (E : Env) (kty : Ty) (k : AV) : Bool :=
 match kty.d, k with
 | .int l, .int m _ => l = m
 | .bool, .bool _ | .string, .str _ => true
 | .array n e, .agg cs =>
  match E.ty e with
  | some et => (match et.d with | .int l => cs.length == n && et.size == 1 && cs.all (fun c => match c with | .int m _ => decide (l = m) | _ => false) | _ => false)
  | none => false
 | _, _ => false
def findA (eq : AV -> AV -> Option Bool) (k : AV) : List (AV × AV) -> Nat -> Option (Option (Nat × AV))
 | [], _ => some none
 | (j, v) :: r, i =>
  match eq k j with
  | some true => some (some (i, v))
  | some false => findA eq k r (i + 1)
  | none => none
def lookA (E : Env) (st : St) (kty : Ty) (kt et : TypeId) (zero : AV) (ok : Bool) (m k : AV) : Option AV :=
 if keyOkA E kty k then
  match m with
  | .nilmap => some (if ok then .tup [zero, .bool false] else zero)
  | .map b =>
   match st.get b with
   | some (.map kt' et' es) =>
    if kt' = kt /\ et' = et then
     match findA (eqA E 20 kt) k es 0 with
     | some (some (_, v)) => some (if ok then .tup [v, .bool true] else v)
     | some none => some (if ok then .tup [zero, .bool false] else zero)
     | none => none
    else none
   | _ => none
  | _ => none
 else none
def lenT (st : St) (d : TD) (x : AV) : Option Nat :=
 match d, x with
 | .string, .str s => some s.size
 | .slice _, .nilsl => some 0
 | .slice _, .es => some 0
 | .slice _, .vs _ _ xs => some xs.length
 | .slice _, .sl _ _ _ n => some n
 | .map _ _, .nilmap => some 0
 | .map _ _, .map b =>
  match st.get b with
  | some (.map _ _ es) => some es.length
  | _ => none
 | .array n _, _ => some n
 | _, _ => none
def bytesA (s : ByteArray) : List AV := s.data.toList.map fun b => .int .u8 b.toNat
def elemsA (st : St) : AV -> Option (Nat × List AV)
 | .str s => some (1, bytesA s)
 | .nilsl => some (0, [])
 | .es => some (0, [])
 | .vs sz _ xs => some (sz, xs)
 | .sl sz b off len =>
  match st.get b with
  | some (.row _ xs) => if off + len <= xs.length then some (sz, (xs.drop off).take len) else none
  | _ => none
 | _ => none
def movedA (x : AV) (off : Nat) : Option AV :=
 match x with
 | .ptr b i o => some (.ptr b i (o + off))
 | .ip cs => some (.ip (cs.drop off))
 | _ => none
def elemAddrA (size : Nat) (x : AV) (i : Int) : Option AV :=
 match x with
 | .vs sz _ xs =>
  if size = sz /\ 0 <= i then
   match xs[i.toNat]? with
   | some v => some (.ip v.cells)
   | none => none
  else none
 | .sl sz b off len => if size = sz /\ 0 <= i /\ i < len then some (.ptr b (off + i.toNat) 0) else none
 | _ => none
def quiet (E : Env) (tm : TM) (st : St) (o : Oper) : Option AV :=
 let ρ := evalO tm
 match o.op with
 | .move x | .assign x => some (ρ x)
 | .pick c a b =>
  match ρ c with
  | .bool t => some (if t then ρ a else ρ b)
  | _ => none
 | .load t a =>
  match loadCells st (ρ a) with
  | none => none
  | some cs => partA E t cs 0
 | .nilCheck x =>
  match ρ x with
  | .ptr b i off => some (.ptr b i off)
  | .ip cs => some (.ip cs)
  | .gptr g => some (.gptr g)
  | .fn f [] cap => some (.fn f [] cap)
  | _ => none
 | .binOp op t x y _ => binA E op t x y (ρ x) (ρ y)
 | .unOp op _ x => unA op (ρ x)
 | .convert src dst x =>
  match E.ty src, E.ty dst with
  | some _, some ty =>
   match ty.d, ρ x with
   | .int k, .int _ n => some (.int k (k.wrap n))
   | .string, .str s => some (.str s)
   | .slice e, .str s =>
    match E.ty e with
    | some et => if et.d = .int .u8 then some (.vs 1 .any (bytesA s)) else none
    | none => none
   | _, _ => none
  | _, _ => none
 | .makeInterface t x =>
  match E.ty t with
  | some ty => if ty.d = .iface then none else some (.iface t (ρ x))
  | none => none
 | .makeFunc (.func f) first cap => some (.fn f (first.toList.map ρ) (cap.toList.map ρ))
 | .slice t x lo hi mx => sliceA E t (ρ x) (lo.map ρ) (hi.map ρ) (mx.map ρ)
 | .fieldAddr s x f =>
  match E.ty s with
  | some sty =>
   match sty.fs[f]? with
   | some (ft, off) =>
    match E.ty ft with
    | some fty => if fty.size = 0 then none else movedA (ρ x) off
    | none => none
   | none => none
  | none => none
 | .field t x f =>
  match E.ty t with
  | some sty =>
   match sty.fs[f]?, ρ x with
   | some (ft, off), .agg cs => partA E ft cs off
   | _, _ => none
  | none => none
 | .indexAddr t x ix =>
  match E.ty t, ρ ix with
  | some ty, .int _ i =>
   match ty.d with
   | .slice e =>
    match E.ty e with
    | some et => elemAddrA et.size (ρ x) i
    | none => none
   | .array n e =>
    match E.ty e with
    | some et => if 0 <= i /\ i < n then movedA (ρ x) (i.toNat * et.size) else none
    | none => none
   | _ => none
  | _, _ => none
 | .index t x ix =>
  match E.ty t, ρ ix with
  | some ty, .int _ i =>
   match ty.d, ρ x with
   | .array n e, .agg cs =>
    match E.ty e with
    | some et => if 0 <= i /\ i < n then partA E e cs (i.toNat * et.size) else none
    | none => none
   | .string, .str s =>
    if 0 <= i then
     match s[i.toNat]? with
     | some b => some (.int .u8 b.toNat)
     | none => none
    else none
   | _, _ => none
  | _, _ => none
 | .lookup t x ix ok =>
  match E.ty t with
  | some ty =>
   match ty.d with
   | .map kt et =>
    match E.ty kt, E.ty et with
    | some kty, some ety => lookA E st kty kt et ety.zeroV ok (ρ x) (ρ ix)
    | _, _ => none
   | _ => none
  | none => none
 | .extract t ix =>
  match ρ t with
  | .tup xs => xs[ix]?
  | _ => none
 | .build t parts => buildA E t (parts.toList.map fun (p : Nat × Operand) => (p.1, ρ p.2))
 | .buildSlice t len parts =>
  match E.ty t with
  | some ty =>
   match ty.d with
   | .slice e =>
    match E.ty e with
    | some et =>
     if 0 < et.size /\ len * et.size <= 2 ^ 24 then
      (litA et 0 len (parts.toList.map fun (p : Nat × Operand) => (p.1, ρ p.2))).map (.vs et.size .full ·)
     else none
    | none => none
   | _ => none
  | none => none
 | .call { callee := .builtin .len, args, argTypes } =>
  match args.toList, argTypes.toList with
  | [x], [t] =>
   match E.ty t with
   | some ty => (lenT st ty.d (ρ x)).map fun (n : Nat) => AV.int .i64 (n : Int)
   | none => none
  | _, _ => none
 | .call { callee := .builtin .cap, args, argTypes } =>
  match args.toList, argTypes.toList with
  | [x], [t] =>
   match E.ty t with
   | some ty =>
    match ty.d, ρ x with
    | .slice _, .nilsl => some (.int .i64 0)
    | _, _ => none
   | none => none
  | _, _ => none
 | .call { callee := .builtin .max, args, .. } =>
  match args.toList.map ρ with
  | [.int k x, .int l y] => if k = l then some (.int k (if y > x then y else x)) else none
  | _ => none
 | .call { callee := .builtin .min, args, .. } =>
  match args.toList.map ρ with
  | [.int k x, .int l y] => if k = l then some (.int k (if y < x then y else x)) else none
  | _ => none
 | _ => none
def isLoud : Op -> Bool
 | .alloc _ | .box .. | .store .. | .makeMap .. | .makeSlice .. | .mapUpdate .. | .insert .. | .mapEntry .. | .entryStore .. => true
 | .call { callee := .builtin .len, .. } | .call { callee := .builtin .cap, .. } | .call { callee := .builtin .max, .. } | .call { callee := .builtin .min, .. } => false
 | .call _ => true
 | _ => false
def storeA (st : St) (a : AV) (v : AV) : Option St :=
 match a with
 | .ptr b i off =>
  match st.get b with
  | some (.row sz xs) =>
   match xs[i]? with
   | some e =>
    if v.ok && decide (off + v.cells.length <= e.cells.length) then
     match e with
     | .agg cs => some (st.put b (.row sz (xs.set i (.agg (cs.take off ++ v.cells ++ cs.drop (off + v.cells.length))))))
     | _ => if v matches .agg _ then none else some (st.put b (.row sz (xs.set i v)))
    else none
   | none => none
  | _ => none
 | _ => none
def roomA (et : Ty) (n : Nat) : Bool := decide (n * et.bytes <= 140737488355328) && decide (n <= 9223372036854775807)
def appendA (obj : Bool) (e : TypeId) (et : Ty) (st : St) (s : AV) (ys : List AV) : Option (AV × St) :=
 match s with
 | .nilsl =>
  match ys with
  | [] => some (.nilsl, st)
  | _ :: _ =>
   if roomA et ys.length then
    if obj then some (.sl et.size st.next 0 ys.length, st.new (.row et.size ys))
    else some (.vs et.size (.tok st.next) ys, st.newTok.ttag st.next e)
   else none
 | .es => if ys.isEmpty then some (.es, st) else none
 | .vs sz .full xs =>
  if sz = et.size /\ roomA et (xs.length + ys.length) then
   if obj then
    (match xs, ys with
     | [], _ => some (.sl et.size st.next 0 ys.length, st.new (.row et.size ys))
     | _ :: _, [] => none
     | x :: xs, y :: ys => some (.sl et.size st.next 0 ((x :: xs).length + (y :: ys).length), st.new (.row et.size (x :: xs ++ y :: ys))))
   else
    (match ys with
     | [] => some (.vs sz .full xs, st)
     | _ :: _ => some (.vs sz (.tok st.next) (xs ++ ys), st.newTok.ttag st.next e))
  else none
 | .vs sz .any xs => if ys.isEmpty then some (.vs sz .any xs, st) else none
 | .vs sz (.tok t) xs =>
  if sz = et.size /\ st.alive t /\ roomA et (xs.length + ys.length) then
   some (.vs sz (.tok st.next) (xs ++ ys), tokOnA st t e)
  else none
 | .sl sz b off len =>
  match st.get b with
  | some (.row sz' xs) =>
   if sz = et.size /\ sz' = sz /\ off + len <= xs.length /\ roomA et (len + ys.length) then
    some (.sl sz st.next 0 (len + ys.length), (st.drop b).new (.row sz ((xs.drop off).take len ++ ys)))
   else none
  | _ => none
 | _ => none
def mapPutA (E : Env) (st : St) (kty : Ty) (kt et : TypeId) (b : Nat) (k x : AV) : Option St :=
 match st.get b with
 | some (.map kt' et' es) =>
  if kt' = kt /\ et' = et /\ keyOkA E kty k /\ k.ok /\ x.ok then
   match findA (eqA E 20 kt) k es 0 with
   | some none => some (st.put b (.map kt et (es ++ [(k, x)])))
   | some (some (i, _)) =>
    match es[i]? with
    | some (j, _) => if j.beq k then some (st.put b (.map kt et (es.set i (k, x)))) else none
    | none => none
   | none => none
  else none
 | _ => none
def okElems (et : Ty) (ys : List AV) : Bool := ys.all fun y => y.ok && y.cells.length == et.size
def isStrA : AV -> Bool
 | .str _ => true
 | _ => false
def allocA (E : Env) (st : St) (t : TypeId) : Option (AV × St) :=
 match E.ty t with
 | some ty => if 0 < ty.size then some (.ptr st.next 0 0, (st.new (.row ty.size [ty.zeroV])).tag st.next t) else none
 | none => none
def boxA (E : Env) (st : St) (t : TypeId) (x : AV) : Option (AV × St) :=
 match E.ty t with
 | some ty => if 0 < ty.size /\ x.ok /\ x.cells.length = ty.size then some (.ptr st.next 0 0, st.new (.row ty.size [x])) else none
 | none => none
def makeSliceA (E : Env) (st : St) (lit : Bool) (t : TypeId) (l c : AV) : Option (AV × St) :=
 match E.ty t with
 | none => none
 | some ty =>
  match ty.d, l, c with
  | .slice e, .int .i64 l, .int .i64 c =>
   match E.ty e with
   | none => none
   | some et =>
    if 0 < et.size /\ 0 <= l /\ l <= c /\ roomA et c.toNat then
     if lit && l == 0 then some (.vs et.size (.tok st.next) [], st.newTok)
     else some (.sl et.size st.next 0 l.toNat, st.new (.row et.size (List.replicate l.toNat et.zeroV)))
    else none
  | _, _, _ => none
def appendOpA (E : Env) (obj : Bool) (st : St) (ts tx : TypeId) (s x : AV) : Option (AV × St) :=
 match E.ty ts, E.ty tx with
 | some tys, some tyx =>
  match tys.d with
  | .slice e =>
   match E.ty e with
   | none => none
   | some et =>
    if 0 < et.size then
     match tyx.d with
     | .int _ =>
      match s, x with
      | .nilsl, .int .i64 n =>
       if 0 < n /\ roomA et n.toNat then some (.sl et.size st.next 0 n.toNat, st.new (.row et.size (List.replicate n.toNat et.zeroV))) else none
      | _, _ => none
     | .slice _ | .string =>
      match elemsA st x with
      | some (sz', ys) => if okElems et ys /\ (ys.isEmpty || sz' == et.size) /\ (decide (tyx.d = .string) == isStrA x) then appendA obj e et st s ys else none
      | none => none
     | _ => none
    else none
  | _ => none
 | _, _ => none
def copyA (E : Env) (st : St) (td tx : TypeId) (d x : AV) : Option (AV × St) :=
 match E.ty td, E.ty tx with
 | some tyd, some tyx =>
  match tyd.d, tyx.d, d with
  | .slice e, .slice _, .sl sz b off len =>
   match E.ty e with
   | none => none
   | some et =>
    match st.get b, elemsA st x with
    | some (.row sz' xs), some (sz2, ys) =>
     if et.size = 1 /\ sz = 1 /\ sz' = 1 /\ off + len <= xs.length /\ okElems et ys /\ (ys.isEmpty || sz2 == 1) /\ isStrA x = false then
      if min ys.length len = 0 then some (.int .i64 0, st)
      else some (.int .i64 ((min ys.length len : Nat) : Int), st.put b (.row 1 (xs.take off ++ ys.take (min ys.length len) ++ xs.drop (off + min ys.length len))))
     else none
    | _, _ => none
  | _, _, _ => none
 | _, _ => none
def mapOpA (E : Env) (st : St) (t : TypeId) (m k x : AV) : Option (AV × St) :=
 match E.ty t with
 | some ty =>
  match ty.d, m with
  | .map kt et, .map b =>
   match E.ty kt with
   | some kty => (mapPutA E st kty kt et b k x).map fun s => (.junk, s)
   | none => none
  | _, _ => none
 | none => none
def mapEntryA (E : Env) (st : St) (t : TypeId) (m k : AV) : Option (AV × St) :=
 match E.ty t with
 | some ty =>
  match ty.d, m with
  | .map kt et, .map b =>
   match E.ty kt, E.ty et with
   | some kty, some ety =>
    match st.get b with
    | some (.map kt' et' es) =>
     if kt' = kt /\ et' = et /\ keyOkA E kty k /\ k.ok then
      match findA (eqA E 20 kt) k es 0 with
      | some none => some (.tup [ety.zeroV, .int .i64 es.length], st.put b (.map kt et (es ++ [(k, ety.zeroV)])))
      | some (some (i, v)) =>
       match es[i]? with
       | some (j, _) => if j.beq k then some (.tup [v, .int .i64 i], st.put b (.map kt et es)) else none
       | none => none
      | none => none
     else none
    | _ => none
   | _, _ => none
  | _, _ => none
 | none => none
def entryStoreA (st : St) (m s x : AV) : Option (AV × St) :=
 match m, s with
 | .map b, .int _ i =>
  match st.get b with
  | some (.map kt et es) =>
   if 0 <= i /\ x.ok then
    match es[i.toNat]? with
    | some (j, _) => some (.junk, st.put b (.map kt et (es.set i.toNat (j, x))))
    | none => none
   else none
  | _ => none
 | _, _ => none
def loud (E : Env) (call : Call1) (pol : Nat) (tm : TM) (st : St) (o : Oper) : Option (AV × St) :=
 let ρ := evalO tm
 match o.op with
 | .alloc t => allocA E st t
 | .box t x => boxA E st t (ρ x)
 | .store t a x =>
  match E.ty t with
  | some ty => if (ρ x).cells.length = ty.size then (storeA st (ρ a) (ρ x)).map fun s => (.junk, s) else none
  | none => none
 | .makeMap t none =>
  match E.ty t with
  | some ty => match ty.d with | .map kt et => some (.map st.next, st.new (.map kt et [])) | _ => none
  | none => none
 | .makeMap t (some x) =>
  match E.ty t, ρ x with
  | some ty, .int _ _ => match ty.d with | .map kt et => some (.map st.next, st.new (.map kt et [])) | _ => none
  | _, _ => none
 | .makeSlice t l c => makeSliceA E st (isConstO l) t (ρ l) (ρ c)
 | .mapUpdate t m k x | .insert t m k x => mapOpA E st t (ρ m) (ρ k) (ρ x)
 | .mapEntry t m k => mapEntryA E st t (ρ m) (ρ k)
 | .entryStore _ m s x => entryStoreA st (ρ m) (ρ s) (ρ x)
 | .call { callee := .builtin .append, args, argTypes } =>
  match args.toList, argTypes.toList with
  | [s, x], [ts, tx] => appendOpA E (pol == 1) st ts tx (ρ s) (ρ x)
  | _, _ => none
 | .call { callee := .builtin .copy, args, argTypes } =>
  match args.toList, argTypes.toList with
  | [d, x], [td, tx] => copyA E st td tx (ρ d) (ρ x)
  | _, _ => none
 | .call { callee := .value f, args, .. } =>
  match ρ f with
  | .fn g first cap => call g (first ++ args.toList.map ρ ++ cap) st
  | _ => none
 | _ => none
def wantedA (ops : Array Oper) (tm : TM) (o : Oper) : Option Bool :=
 match o.guard with
 | none => some true
 | some (j, want) =>
  match (ops[j]?).bind (·.dst) with
  | none => some false
  | some d =>
   match tm.get d with
   | .bool b => some (b == want)
   | .junk => none
   | _ => some false
end Go.Abs
namespace Go.Abs
def freezeC (st : St) : AV -> Option (AV × St)
 | .sl sz b off len =>
  match st.get b with
  | some (.row sz' xs) =>
   if sz' = sz /\ off + len <= xs.length then
    if off + len = xs.length then some (.vs sz (.tok st.next) ((xs.drop off).take len), (st.drop b).newTok)
    else some (.vs sz .any ((xs.drop off).take len), (st.drop b).newTok)
   else none
  | _ => none
 | v => some (v, st)
def freezeL (st : St) : List AV -> Option (List AV × St)
 | [] => some ([], st)
 | x :: xs =>
  match freezeC st x with
  | none => none
  | some (y, st) =>
   match freezeL st xs with
   | none => none
   | some (ys, st) => some (y :: ys, st)
def freezeB (st : St) : AV -> Option (AV × St)
 | .agg xs => (freezeL st xs).map fun (ys, st) => (.agg ys, st)
 | v => freezeC st v
def freezeM (st : St) : List AV -> Option (List AV × St)
 | [] => some ([], st)
 | x :: xs =>
  match freezeB st x with
  | none => none
  | some (y, st) =>
   match freezeM st xs with
   | none => none
   | some (ys, st) => some (y :: ys, st)
def freezeA (st : St) : AV -> Option (AV × St)
 | .tup xs => (freezeM st xs).map fun (ys, st) => (.tup ys, st)
 | .agg xs => (freezeL st xs).map fun (ys, st) => (.agg ys, st)
 | v => freezeC st v
def isFnCall : Op -> Bool
 | .call { callee := .value _, .. } => true
 | _ => false
def stepOp (E : Env) (call : Call1) (pol : Nat) (tm : TM) (st : St) (o : Oper) : Option (AV × St) :=
 if isLoud o.op then
  match loud E call pol tm st o with
  | some (v, st') => if pol = 2 && isFnCall o.op then freezeA st' v else some (v, st')
  | none => none
 else (quiet E tm st o).map fun v => (v, st)
abbrev Pre := Option (Nat × Bool)
def isMake : Op -> Bool
 | .makeSlice .. | .makeMap _ none => true
 | _ => false
def makePre (E : Env) (b : Nat) (lit : Bool) (t : TypeId) (l c : AV) : Option AV :=
 match E.ty t with
 | none => none
 | some ty =>
  match ty.d, l, c with
  | .slice e, .int .i64 l, .int .i64 c =>
   match E.ty e with
   | none => none
   | some et => if (0 < et.size /\ 0 <= l /\ l <= c /\ roomA et c.toNat) /\ lit = false then some (.sl et.size b 0 l.toNat) else none
  | _, _, _ => none
def mapPre (E : Env) (b : Nat) (t : TypeId) : Option AV :=
 match E.ty t with
 | some ty => match ty.d with | .map _ _ => some (.map b) | _ => none
 | none => none
def stepPre (E : Env) (call : Call1) (pre : Pre) (pol : Nat) (i : Nat) (tm : TM) (st : St) (o : Oper) : Option (AV × St) :=
 match pre, o.op with
 | some (base, _), .alloc _ => some (.ptr (base + i) 0 0, st)
 | some (base, true), .makeSlice t l c => (makePre E (base + i) (isConstO l) t (evalO tm l) (evalO tm c)).map fun v => (v, st)
 | some (base, true), .makeMap t none => (mapPre E (base + i) t).map fun v => (v, st)
 | _, _ => stepOp E call pol tm st o
def runOps (E : Env) (call : Call1) (pre : Pre) (pol : Nat -> Nat) (ops : Array Oper) : List Oper -> Nat -> TM -> St -> Option (TM × St)
 | [], _, tm, st => some (tm, st)
 | o :: r, i, tm, st =>
  match wantedA ops tm o with
  | some true =>
   match stepPre E call pre (pol i) i tm st o with
   | some (v, st') => runOps E call pre pol ops r (i + 1) (putO tm o.dst v) st'
   | none => none
  | some false => runOps E call pre pol ops r (i + 1) (putO tm o.dst (.tup [])) st
  | none => none
def readsSt : Op -> Bool
 | .load .. | .lookup .. => true
 | .call { callee := .builtin .len, .. } => true
 | _ => false
def turns (f : Bool) : Op -> Bool
 | .alloc _ => false
 | op => isLoud op && !(f && isMake op)
structure Tr where
 tm : TM
 was : St
 now : St
 v : AV
 did : Bool
def runOpsT (E : Env) (call : Call1) (pre : Pre) (pol : Nat -> Nat) (ops : Array Oper) : List Oper -> Nat -> TM -> St -> Option (List Tr × TM × St)
 | [], _, tm, st => some ([], tm, st)
 | o :: r, i, tm, st =>
  match wantedA ops tm o with
  | some true =>
   match stepPre E call pre (pol i) i tm st o with
   | some (v, st') =>
    match runOpsT E call pre pol ops r (i + 1) (putO tm o.dst v) st' with
    | some (l, q) => some (⟨tm, st, st', v, true⟩ :: l, q)
    | none => none
   | none => none
  | some false =>
   match runOpsT E call pre pol ops r (i + 1) (putO tm o.dst (.tup [])) st with
   | some (l, q) => some (⟨tm, st, st, .tup [], false⟩ :: l, q)
   | none => none
  | none => none
def preObjs (E : Env) (base : Nat) : List Oper -> Nat -> List (Nat × AObj) -> Option (List (Nat × AObj))
 | [], _, acc => some acc
 | o :: r, i, acc =>
  match o.op with
  | .alloc t =>
   match E.ty t with
   | some ty => if 0 < ty.size then preObjs E base r (i + 1) ((base + i, .row ty.size [ty.zeroV]) :: acc) else none
   | none => none
  | _ => preObjs E base r (i + 1) acc
def fillMakes (E : Env) (base : Nat) : List Oper -> List Tr -> Nat -> St -> St
 | o :: r, e :: l, i, st =>
  match o.op, e.v with
  | .makeSlice t _ _, .sl sz _ _ n =>
   match E.ty t with
   | some ty =>
    match ty.d with
    | .slice a => match E.ty a with | some et => fillMakes E base r l (i + 1) (st.put (base + i) (.row sz (List.replicate n et.zeroV))) | none => fillMakes E base r l (i + 1) st
    | _ => fillMakes E base r l (i + 1) st
   | none => fillMakes E base r l (i + 1) st
  | .makeMap t none, .map _ =>
   match E.ty t with
   | some ty =>
    match ty.d with
    | .map kt et => fillMakes E base r l (i + 1) (st.put (base + i) (.map kt et []))
    | _ => fillMakes E base r l (i + 1) st
   | none => fillMakes E base r l (i + 1) st
  | _, _ => fillMakes E base r l (i + 1) st
 | _, _, _, st => st
def makeOk (E : Env) (base : Nat) (st : St) (i : Nat) (o : Oper) (e : Tr) : Bool :=
 !e.did ||
 match o.op, e.v with
 | .makeSlice t _ _, .sl sz _ _ n =>
  match E.ty t, st.get (base + i) with
  | some ty, some (.row sz' xs) =>
   match ty.d with
   | .slice a => match E.ty a with | some et => sz' == sz && AV.beqL xs (List.replicate n et.zeroV) | none => false
   | _ => false
  | _, _ => false
 | .makeMap t none, _ =>
  match E.ty t, st.get (base + i) with
  | some ty, some (.map kt' et' es) =>
   match ty.d with
   | .map kt et => kt' == kt && et' == et && es.isEmpty
   | _ => false
  | _, _ => false
 | .makeSlice .., _ => false
 | _, _ => true
def makesOk (E : Env) (base : Nat) (st : St) : List Oper -> List Tr -> Nat -> Bool
 | o :: r, e :: l, i => makeOk E base st i o e && makesOk E base st r l (i + 1)
 | _, _, _ => true
def isBefore (b : Array Nat) (i j : Nat) : Bool := (b.getD j 0).testBit i
def namesOf (ops : Array Oper) (o : Oper) : List Tmp := o.dst.toList ++ o.looksAt ops
def drawStatic (f : Bool) (ops : Array Oper) : Bool :=
 let b := Region.before ops
 let l := ops.toList.zipIdx
 (l.all fun (o, i) => o.after.all fun e => !Region.binds .any e || decide (e.on < i)) &&
 (l.all fun (o, j) => l.all fun (p, i) => decide (j <= i) || isBefore b i j ||
  ((match p.dst with | some d => !(namesOf ops o).contains d | none => true) &&
   (match o.dst with | some d => !(namesOf ops p).contains d | none => true) &&
   !(turns f o.op && turns f p.op)))
def dynPairs (f : Bool) (ops : Array Oper) : List (Nat × Nat) :=
 let b := Region.before ops
 let l := ops.toList.zipIdx
 l.flatMap fun (o, i) => if turns f o.op then l.filterMap fun (p, j) =>
  if readsSt p.op && i != j && !(decide (i < j) && isBefore b i j) && !(decide (j < i) && isBefore b j i) then some (i, j) else none else []
def dynOk (E : Env) (ops : Array Oper) (l : List Tr) (p : Nat × Nat) : Bool :=
 match l[p.1]?, l[p.2]?, ops[p.2]? with
 | some e, some q, some o =>
  !e.did || !q.did ||
   (match quiet E q.tm e.was o, quiet E q.tm e.now o with
    | some a, some b => a.beq q.v && b.beq q.v
    | _, _ => false)
 | _, _, _ => false
inductive AExit where
 | normal | exit (id : Nat) | ret
 deriving DecidableEq, Repr, Inhabited
def codeOk (dy : Nat -> List (Nat × Nat)) (mk : Nat -> Bool) : Code -> Bool
 | .region id ops true => drawStatic (mk id) ops && decide (dynPairs (mk id) ops = dy id)
 | .seq a b => codeOk dy mk a && codeOk dy mk b
 | .cond _ a b => codeOk dy mk a && codeOk dy mk b
 | .block _ c => codeOk dy mk c
 | .loop c => codeOk dy mk c
 | _ => true
def makeEnd : List Oper -> Nat -> Nat -> Nat
 | [], _, n => n
 | o :: r, i, n => makeEnd r (i + 1) (if isMake o.op then i + 1 else n)
def execReg (E : Env) (call : Call1) (pol : Nat -> Nat) (dy : List (Nat × Nat)) (mk : Bool) (ops : Array Oper) (draw : Bool) (tm : TM) (st : St) : Option (TM × St) :=
 if draw then
  match preObjs E st.next ops.toList 0 st.objs with
  | none => none
  | some objs =>
   let st' : St := { st with next := st.next + ops.size, objs := objs }
   match mk with
   | true =>
    match runOpsT E call (some (st.next, true)) pol ops (ops.toList.take (makeEnd ops.toList 0 0)) 0 tm st' with
    | some (l1, _) =>
     let st2 := fillMakes E st.next ops.toList l1 0 st'
     match runOpsT E call (some (st.next, true)) pol ops ops.toList 0 tm st2 with
     | some (l, q) => if dy.all (dynOk E ops l) && makesOk E st.next st2 ops.toList l 0 then some q else none
     | none => none
    | none => none
   | false =>
    match dy with
    | [] => runOps E call (some (st.next, false)) pol ops ops.toList 0 tm st'
    | d :: ds =>
     match runOpsT E call (some (st.next, false)) pol ops ops.toList 0 tm st' with
     | some (l, q) => if (d :: ds).all (dynOk E ops l) then some q else none
     | none => none
 else runOps E call none pol ops ops.toList 0 tm st
def exec (E : Env) (call : Call1) (fid : Nat) : Nat -> Code -> TM -> St -> Option (AExit × TM × St)
 | 0, _, _, _ => none
 | n + 1, c, tm, st =>
  match c with
  | .skip => some (.normal, tm, st)
  | .ret => some (.ret, tm, st)
  | .exit id => some (.exit id, tm, st)
  | .region id ops draw =>
   match execReg E call (E.pol fid id) (E.dyn fid id) (E.mks fid id) ops draw tm st with
   | some (tm, st) => some (.normal, tm, st)
   | none => none
  | .seq a b =>
   match exec E call fid n a tm st with
   | some (.normal, tm, st) => exec E call fid n b tm st
   | r => r
  | .cond c a b =>
   match evalO tm c with
   | .bool true => exec E call fid n a tm st
   | .bool false => exec E call fid n b tm st
   | _ => none
  | .block id c =>
   match exec E call fid n c tm st with
   | some (.exit i, tm, st) => if i = id then some (.normal, tm, st) else some (.exit i, tm, st)
   | r => r
  | .loop c =>
   match exec E call fid n c tm st with
   | some (.normal, tm, st) => exec E call fid n (.loop c) tm st
   | r => r
  | _ => none
def resA (E : Env) (tm : TM) (st : St) : ResultVar -> Option AV
 | .tmp t => some (tm.get t)
 | .cell a t =>
  match loadCells st (tm.get a) with
  | some cs => partA E t cs 0
  | none => none
def resL (E : Env) (tm : TM) (st : St) : List ResultVar -> Option (List AV)
 | [] => some []
 | r :: rs =>
  match resA E tm st r, resL E tm st rs with
  | some v, some vs => some (v :: vs)
  | _, _ => none
def resultsA (E : Env) (rs : List ResultVar) (tm : TM) (st : St) : Option AV :=
 match resL E tm st rs with
 | some [v] => some v
 | some vs => some (.tup vs)
 | none => none
def callF (E : Env) : Nat -> Call1
 | 0, _, _, _ => none
 | n + 1, f, args, st =>
  match E.prim f with
  | some g => g args st
  | none =>
   match E.fns f with
   | none => none
   | some fn =>
    match exec E (callF E n) f n fn.code (TM.of args fn.ntmps) st with
    | some (.normal, tm, st') | some (.ret, tm, st') => (resultsA E fn.results tm st').map fun v => (v, st')
    | _ => none
end Go.Abs
namespace Go.Abs
def tdOf : TypeDesc -> TD
 | .bool => .bool
 | .int k => .int k
 | .string => .string
 | .pointer e => .pointer e
 | .slice e => .slice e
 | .array n e => .array n e
 | .map k e => .map k e
 | .struct _ => .struct
 | .func .. => .func
 | .interface _ => .iface
 | _ => .other
def isAggD : TypeDesc -> Bool
 | .struct _ | .array _ _ => true
 | _ => false
def fsOf : TypeDesc -> List (TypeId × Nat)
 | .struct fs => fs.toList.map fun f => (f.type, f.offset)
 | _ => []
def tyOf (P : Program) (t : TypeId) : Option Ty :=
 match P.underlying t, P.info? t with
 | some u, some i =>
  match i.zero with
  | some z =>
   let cs := z.cells.toList.map ofCell
   if (isAggD u == (match z with | .agg _ => true | _ => false)) && cs.length == i.size && cs.all AV.cellOk then
    some { d := tdOf u, size := i.size, bytes := i.bytes, agg := isAggD u, zero := cs, fs := fsOf u }
   else none
  | none => none
 | _, _ => none
def eqFine (P : Program) (t : TypeId) : Bool :=
 !P.eqGuardType P.depth t &&
 (match P.underlying t with
  | some (.struct fs) => !P.stoodInHeld t && fs.toList.all (fun f => f.name != "_")
  | _ => true)
end Go.Abs
namespace Go.Abs
open Go.RowKit
structure Ghost where
 inert : Nat -> Nat -> Option Value
 obj : Nat -> Option (Nat × Nat × Nat × Nat)
 mp : Nat -> Option Nat
 tk : Nat -> Option (Nat × Nat × Nat)
 ety : Nat -> Option TypeId
 old : Nat -> Nat -> Option Value
structure Ghost.Le (Γ Δ : Ghost) : Prop where
 inert : ∀ b o v, Γ.inert b o = some v -> Δ.inert b o = some v
 obj : ∀ i x, Γ.obj i = some x -> Δ.obj i = some x
 mp : ∀ i x, Γ.mp i = some x -> Δ.mp i = some x
 tk : ∀ i x, Γ.tk i = some x -> Δ.tk i = some x
 ety : ∀ i x, Γ.ety i = some x -> Δ.ety i = some x
 old : Δ.old = Γ.old
theorem Ghost.Le.refl (Γ : Ghost) : Γ.Le Γ := ⟨fun _ _ _ h => h, fun _ _ h => h, fun _ _ h => h, fun _ _ h => h, fun _ _ h => h, rfl⟩
theorem Ghost.Le.trans {a b c : Ghost} (h : a.Le b) (k : b.Le c) : a.Le c :=
 ⟨fun _ _ _ x => k.inert _ _ _ (h.inert _ _ _ x), fun _ _ x => k.obj _ _ (h.obj _ _ x), fun _ _ x => k.mp _ _ (h.mp _ _ x), fun _ _ x => k.tk _ _ (h.tk _ _ x), fun _ _ x => k.ety _ _ (h.ety _ _ x), k.old.trans h.old⟩
def OwnOk (Γ : Ghost) (own : Own) (blk o sz n cap : Nat) : Prop :=
 match own with
 | .full => cap = n
 | .any => True
 | .tok t => cap = 0 \/ ∃ e tot, Γ.tk t = some (blk, e, tot) /\ o + n * sz = e /\ o + cap * sz <= tot
def CellsAt (f : Nat -> Option Value) (o : Nat) (vs : List Value) : Prop := ∀ j v, vs[j]? = some v -> f (o + j) = some v
mutual
def R (Γ : Ghost) : AV -> Value -> Prop
 | .bool b, v => v = .bool b
 | .int k n, v => v = .int k n
 | .str s, v => v = .string s
 | .ptr b i off, v => ∃ blk base sz tot, Γ.obj b = some (blk, base, sz, tot) /\ v = .pointer (some ⟨blk, base + i * sz + off, none⟩)
 | .ip cells, v => ∃ blk o vs, v = .pointer (some ⟨blk, o, none⟩) /\ RL Γ cells vs /\ CellsAt (Γ.inert blk) o vs
 | .nilptr, v => v = .pointer none
 | .gptr g, v => v = .pointer (some ⟨g, 0, none⟩)
 | .nilsl, v => v = .slice none 0 0
 | .es, v => ∃ a cap, v = .slice (some a) 0 cap
 | .vs sz own xs, v => ∃ blk o cap, v = .slice (some ⟨blk, o, none⟩) xs.length cap /\ xs.length <= cap /\ 0 < sz /\ OwnOk Γ own blk o sz xs.length cap /\ RE Γ xs (Γ.inert blk) o sz
 | .sl sz b off len, v => ∃ blk base tot o cap, Γ.obj b = some (blk, base, sz, tot) /\ v = .slice (some ⟨blk, o, none⟩) len cap /\ len <= cap /\ (cap = 0 \/ (o = base + off * sz /\ off + cap <= tot))
 | .map b, v => ∃ blk, Γ.mp b = some blk /\ v = .map (some blk)
 | .nilmap, v => v = .map none
 | .fn f first cap, v => ∃ vf vc : Array Value, v = .func (.func f) vf vc /\ RL Γ first vf.toList /\ RL Γ cap vc.toList
 | .nilfn, v => v = .nilFunc
 | .iface t x, v => ∃ y, v = .iface t y /\ R Γ x y
 | .nilif, v => v = .nilIface
 | .agg cells, v => ∃ vs : Array Value, v = .agg vs /\ RL Γ cells vs.toList
 | .tup xs, v => ∃ vs : Array Value, v = .tuple vs /\ RL Γ xs vs.toList
 | .junk, _ => True
def RL (Γ : Ghost) : List AV -> List Value -> Prop
 | [], l => l = []
 | x :: xs, l => ∃ v r, l = v :: r /\ R Γ x v /\ RL Γ xs r
def RE (Γ : Ghost) : List AV -> (Nat -> Option Value) -> Nat -> Nat -> Prop
 | [], _, _, _ => True
 | x :: xs, f, o, sz => (∃ v, R Γ x v /\ x.ok = true /\ v.cells.size = sz /\ CellsAt f o v.cells.toList) /\ RE Γ xs f (o + sz) sz
end
theorem OwnOk.mono {Γ Δ : Ghost} (h : Γ.Le Δ) {own : Own} {blk o sz n cap : Nat} (k : OwnOk Γ own blk o sz n cap) : OwnOk Δ own blk o sz n cap := by
 cases own with
 | full => exact k
 | any => trivial
 | tok t =>
  rcases k with k | ⟨e, tot, k1, k2⟩
  ·exact .inl k
  ·exact .inr ⟨e, tot, h.tk _ _ k1, k2⟩
theorem CellsAt.mono {f g : Nat -> Option Value} (h : ∀ k v, f k = some v -> g k = some v) {o : Nat} {vs : List Value} (k : CellsAt f o vs) : CellsAt g o vs :=
 fun j v hj => h _ _ (k j v hj)
mutual
theorem R.mono {Γ Δ : Ghost} (h : Γ.Le Δ) : ∀ (x : AV) (v : Value), R Γ x v -> R Δ x v
 | .bool _, _, k | .int _ _, _, k | .str _, _, k | .nilptr, _, k | .gptr _, _, k | .nilsl, _, k | .es, _, k | .nilmap, _, k | .nilfn, _, k | .nilif, _, k => by simpa only [R] using k
 | .junk, _, _ => by simp only [R]
 | .ptr b i off, v, k => by
  simp only [R] at k ⊢
  obtain ⟨blk, base, sz, tot, k1, k2⟩ := k
  exact ⟨blk, base, sz, tot, h.obj _ _ k1, k2⟩
 | .ip cells, v, k => by
  simp only [R] at k ⊢
  obtain ⟨blk, o, vs, k1, k2, k3⟩ := k
  exact ⟨blk, o, vs, k1, RL.mono h cells vs k2, k3.mono (h.inert blk)⟩
 | .vs sz own xs, v, k => by
  simp only [R] at k ⊢
  obtain ⟨blk, o, cap, k1, k2, k3, k4, k5⟩ := k
  exact ⟨blk, o, cap, k1, k2, k3, k4.mono h, RE.mono h xs _ _ o sz (h.inert blk) k5⟩
 | .sl sz b off len, v, k => by
  simp only [R] at k ⊢
  obtain ⟨blk, base, tot, o, cap, k1, k2⟩ := k
  exact ⟨blk, base, tot, o, cap, h.obj _ _ k1, k2⟩
 | .map b, v, k => by
  simp only [R] at k ⊢
  obtain ⟨blk, k1, k2⟩ := k
  exact ⟨blk, h.mp _ _ k1, k2⟩
 | .fn f a b, v, k => by
  simp only [R] at k ⊢
  obtain ⟨vf, vc, k1, k2, k3⟩ := k
  exact ⟨vf, vc, k1, RL.mono h a _ k2, RL.mono h b _ k3⟩
 | .iface t x, v, k => by
  simp only [R] at k ⊢
  obtain ⟨y, k1, k2⟩ := k
  exact ⟨y, k1, R.mono h x y k2⟩
 | .agg cells, v, k => by
  simp only [R] at k ⊢
  obtain ⟨vs, k1, k2⟩ := k
  exact ⟨vs, k1, RL.mono h cells _ k2⟩
 | .tup cells, v, k => by
  simp only [R] at k ⊢
  obtain ⟨vs, k1, k2⟩ := k
  exact ⟨vs, k1, RL.mono h cells _ k2⟩
theorem RL.mono {Γ Δ : Ghost} (h : Γ.Le Δ) : ∀ (xs : List AV) (vs : List Value), RL Γ xs vs -> RL Δ xs vs
 | [], _, k => by simpa only [RL] using k
 | x :: xs, _, k => by
  simp only [RL] at k ⊢
  obtain ⟨v, r, k1, k2, k3⟩ := k
  exact ⟨v, r, k1, R.mono h x v k2, RL.mono h xs r k3⟩
theorem RE.mono {Γ Δ : Ghost} (h : Γ.Le Δ) : ∀ (xs : List AV) (f g : Nat -> Option Value) (o sz : Nat), (∀ k v, f k = some v -> g k = some v) -> RE Γ xs f o sz -> RE Δ xs g o sz
 | [], _, _, _, _, _, _ => by simp only [RE]
 | x :: xs, f, g, o, sz, hf, k => by
  simp only [RE] at k ⊢
  obtain ⟨⟨v, k1, k2, k3, k4⟩, k5⟩ := k
  exact ⟨⟨v, R.mono h x v k1, k2, k3, k4.mono hf⟩, RE.mono h xs f g (o + sz) sz hf k5⟩
end
theorem RL.nil (Γ : Ghost) : RL Γ [] [] := by simp only [RL]
theorem RL.cons {Γ : Ghost} {x : AV} {v : Value} {xs : List AV} {vs : List Value} (h : R Γ x v) (k : RL Γ xs vs) : RL Γ (x :: xs) (v :: vs) := by
 simp only [RL]; exact ⟨v, vs, rfl, h, k⟩
theorem RL.of_cons {Γ : Ghost} {x : AV} {xs : List AV} {l : List Value} (h : RL Γ (x :: xs) l) : ∃ v r, l = v :: r /\ R Γ x v /\ RL Γ xs r := by
 simpa only [RL] using h
theorem RL.of_nil {Γ : Ghost} {l : List Value} (h : RL Γ [] l) : l = [] := by simpa only [RL] using h
theorem RL.length {Γ : Ghost} : ∀ {xs : List AV} {vs : List Value}, RL Γ xs vs -> vs.length = xs.length
 | [], _, h => by rw [h.of_nil]; rfl
 | x :: xs, l, h => by
  obtain ⟨v, r, rfl, _, k⟩ := h.of_cons
  simp [k.length]
theorem RL.get {Γ : Ghost} : ∀ {xs : List AV} {vs : List Value}, RL Γ xs vs -> ∀ (i : Nat) (x : AV), xs[i]? = some x -> ∃ v, vs[i]? = some v /\ R Γ x v
 | [], _, _, i, x, hx => by simp at hx
 | x :: xs, l, h, i, y, hy => by
  obtain ⟨v, r, rfl, hv, k⟩ := h.of_cons
  cases i with
  | zero => simp at hy; subst hy; exact ⟨v, by simp, hv⟩
  | succ i => simp at hy; obtain ⟨u, hu, hr⟩ := k.get i y hy; exact ⟨u, by simpa using hu, hr⟩
theorem RL.append {Γ : Ghost} : ∀ {xs ys : List AV} {vs us : List Value}, RL Γ xs vs -> RL Γ ys us -> RL Γ (xs ++ ys) (vs ++ us)
 | [], _, _, _, h, k => by rw [h.of_nil]; exact k
 | x :: xs, ys, l, us, h, k => by
  obtain ⟨v, r, rfl, hv, h'⟩ := h.of_cons
  exact RL.cons hv (h'.append k)
theorem RL.drop {Γ : Ghost} : ∀ {xs : List AV} {vs : List Value} (n : Nat), RL Γ xs vs -> RL Γ (xs.drop n) (vs.drop n)
 | xs, vs, 0, h => by simpa using h
 | [], _, n + 1, h => by rw [h.of_nil]; simpa using RL.nil Γ
 | x :: xs, l, n + 1, h => by
  obtain ⟨v, r, rfl, hv, h'⟩ := h.of_cons
  simpa using h'.drop n
theorem RL.take {Γ : Ghost} : ∀ {xs : List AV} {vs : List Value} (n : Nat), RL Γ xs vs -> RL Γ (xs.take n) (vs.take n)
 | xs, vs, 0, h => by simpa using RL.nil Γ
 | [], _, n + 1, h => by rw [h.of_nil]; simpa using RL.nil Γ
 | x :: xs, l, n + 1, h => by
  obtain ⟨v, r, rfl, hv, h'⟩ := h.of_cons
  simpa using RL.cons hv (h'.take n)
theorem Value.cells_of_ne {v : Value} (h : ∀ cs, v ≠ .agg cs) : v.cells = #[v] := by cases v <;> first | rfl | exact absurd rfl (h _)
theorem R.cells {Γ : Ghost} {x : AV} {v : Value} (h : R Γ x v) (hx : x ≠ .junk) : RL Γ x.cells v.cells.toList := by
 cases x with
 | agg cells =>
  simp only [R] at h
  obtain ⟨vs, rfl, k⟩ := h
  exact k
 | junk => exact absurd rfl hx
 | bool b => simp only [R] at h; subst h; exact RL.cons (by simp only [R]) (RL.nil _)
 | int k n => simp only [R] at h; subst h; exact RL.cons (by simp only [R]) (RL.nil _)
 | str s => simp only [R] at h; subst h; exact RL.cons (by simp only [R]) (RL.nil _)
 | nilptr => simp only [R] at h; subst h; exact RL.cons (by simp only [R]) (RL.nil _)
 | gptr g => simp only [R] at h; subst h; exact RL.cons (by simp only [R]) (RL.nil _)
 | nilsl => simp only [R] at h; subst h; exact RL.cons (by simp only [R]) (RL.nil _)
 | es => have h' := h; simp only [R] at h; obtain ⟨_, _, rfl⟩ := h; exact RL.cons h' (RL.nil _)
 | nilmap => simp only [R] at h; subst h; exact RL.cons (by simp only [R]) (RL.nil _)
 | nilfn => simp only [R] at h; subst h; exact RL.cons (by simp only [R]) (RL.nil _)
 | nilif => simp only [R] at h; subst h; exact RL.cons (by simp only [R]) (RL.nil _)
 | ptr b i off =>
  have h' := h; simp only [R] at h; obtain ⟨_, _, _, _, _, rfl⟩ := h; exact RL.cons h' (RL.nil _)
 | ip cs =>
  have h' := h; simp only [R] at h; obtain ⟨_, _, _, rfl, _⟩ := h; exact RL.cons h' (RL.nil _)
 | vs sz o xs =>
  have h' := h; simp only [R] at h; obtain ⟨_, _, _, rfl, _⟩ := h; exact RL.cons h' (RL.nil _)
 | sl sz b o n =>
  have h' := h; simp only [R] at h; obtain ⟨_, _, _, _, _, _, rfl, _⟩ := h; exact RL.cons h' (RL.nil _)
 | map b =>
  have h' := h; simp only [R] at h; obtain ⟨_, _, rfl⟩ := h; exact RL.cons h' (RL.nil _)
 | fn f a b =>
  have h' := h; simp only [R] at h; obtain ⟨_, _, rfl, _⟩ := h; exact RL.cons h' (RL.nil _)
 | iface t y =>
  have h' := h; simp only [R] at h; obtain ⟨_, rfl, _⟩ := h; exact RL.cons h' (RL.nil _)
 | tup xs =>
  have h' := h; simp only [R] at h; obtain ⟨_, rfl, _⟩ := h; exact RL.cons h' (RL.nil _)
theorem AV.ne_junk_of_ok {x : AV} (h : x.ok = true) : x ≠ .junk := by rintro rfl; simp [AV.ok, AV.cellOk] at h
theorem AV.cells_ok {x : AV} (h : x.ok = true) : ∀ y ∈ x.cells, y.cellOk = true := by
 cases x <;> simp_all [AV.ok, AV.cells]
theorem R.oneCell {Γ : Ghost} {x : AV} {v : Value} (h : R Γ x v) (hx : x.cellOk = true) : (∀ cs, v ≠ .agg cs) /\ ∀ cs, v ≠ .tuple cs := by
 have fin : ∀ u : Value, (match u with | .agg _ => False | .tuple _ => False | _ => True) -> v = u -> (∀ cs, v ≠ .agg cs) /\ ∀ cs, v ≠ .tuple cs := by
  rintro u hu rfl
  exact ⟨fun cs e => by rw [e] at hu; exact hu, fun cs e => by rw [e] at hu; exact hu⟩
 cases x with
 | agg | tup | junk => simp [AV.cellOk] at hx
 | bool | int | str | nilptr | gptr | nilsl | nilmap | nilfn | nilif => simp only [R] at h; exact fin _ trivial h
 | es => simp only [R] at h; obtain ⟨_, _, h⟩ := h; exact fin _ trivial h
 | ptr b i off => simp only [R] at h; obtain ⟨_, _, _, _, _, h⟩ := h; exact fin _ trivial h
 | ip cs => simp only [R] at h; obtain ⟨_, _, _, h, _⟩ := h; exact fin _ trivial h
 | vs sz o xs => simp only [R] at h; obtain ⟨_, _, _, h, _⟩ := h; exact fin _ trivial h
 | sl sz b o n => simp only [R] at h; obtain ⟨_, _, _, _, _, _, h, _⟩ := h; exact fin _ trivial h
 | map b => simp only [R] at h; obtain ⟨_, _, h⟩ := h; exact fin _ trivial h
 | fn f a b => simp only [R] at h; obtain ⟨_, _, h, _⟩ := h; exact fin _ trivial h
 | iface t y => simp only [R] at h; obtain ⟨_, h, _⟩ := h; exact fin _ trivial h
def tagV : Value -> Nat
 | .bool _ => 0 | .int _ _ => 1 | .string _ => 2 | .pointer _ => 3 | .slice _ _ _ => 4 | .map _ => 5 | .func _ _ _ => 6 | .nilFunc => 7
 | .iface _ _ => 8 | .nilIface => 9 | .agg _ => 10 | .tuple _ => 11 | .float _ _ => 12 | .complex _ _ _ => 13 | .chan _ => 14
def tagA : AV -> Nat
 | .bool _ => 0 | .int _ _ => 1 | .str _ => 2 | .ptr _ _ _ => 3 | .ip _ => 3 | .nilptr => 3 | .gptr _ => 3 | .nilsl => 4 | .es => 4 | .vs _ _ _ => 4 | .sl _ _ _ _ => 4
 | .map _ => 5 | .nilmap => 5 | .fn _ _ _ => 6 | .nilfn => 7 | .iface _ _ => 8 | .nilif => 9 | .agg _ => 10 | .tup _ => 11 | .junk => 99
theorem R.tag {Γ : Ghost} {x : AV} {v : Value} (h : R Γ x v) (hx : x ≠ .junk) : tagA x = tagV v := by
 cases x with
 | junk => exact absurd rfl hx
 | bool | int | str | nilptr | gptr | nilsl | nilmap | nilfn | nilif => simp only [R] at h; rw [h]; rfl
 | es => simp only [R] at h; obtain ⟨_, _, h⟩ := h; rw [h]; rfl
 | ptr b i off => simp only [R] at h; obtain ⟨_, _, _, _, _, h⟩ := h; rw [h]; rfl
 | ip cs => simp only [R] at h; obtain ⟨_, _, _, h, _⟩ := h; rw [h]; rfl
 | vs sz o xs => simp only [R] at h; obtain ⟨_, _, _, h, _⟩ := h; rw [h]; rfl
 | sl sz b o n => simp only [R] at h; obtain ⟨_, _, _, _, _, _, h, _⟩ := h; rw [h]; rfl
 | map b => simp only [R] at h; obtain ⟨_, _, h⟩ := h; rw [h]; rfl
 | fn f a b => simp only [R] at h; obtain ⟨_, _, h, _⟩ := h; rw [h]; rfl
 | iface t y => simp only [R] at h; obtain ⟨_, h, _⟩ := h; rw [h]; rfl
 | agg cs => simp only [R] at h; obtain ⟨_, h, _⟩ := h; rw [h]; rfl
 | tup cs => simp only [R] at h; obtain ⟨_, h, _⟩ := h; rw [h]; rfl
theorem RE.get {Γ : Ghost} {f : Nat -> Option Value} {sz : Nat} : ∀ {xs : List AV} {o : Nat}, RE Γ xs f o sz -> ∀ (i : Nat) (x : AV), xs[i]? = some x ->
  ∃ v, R Γ x v /\ x.ok = true /\ v.cells.size = sz /\ CellsAt f (o + i * sz) v.cells.toList
 | [], _, _, i, x, hx => by simp at hx
 | y :: xs, o, h, i, x, hx => by
  simp only [RE] at h
  cases i with
  | zero => simp at hx; subst hx; simpa using h.1
  | succ i =>
   simp at hx
   obtain ⟨v, h1, h2, h3, h4⟩ := RE.get h.2 i x hx
   exact ⟨v, h1, h2, h3, by rw [Nat.succ_mul, Nat.add_comm (i * sz), <- Nat.add_assoc]; exact h4⟩
theorem RE.mk {Γ : Ghost} {f : Nat -> Option Value} {sz : Nat} : ∀ {xs : List AV} {o : Nat}, (∀ (i : Nat) (x : AV), xs[i]? = some x ->
  ∃ v, R Γ x v /\ x.ok = true /\ v.cells.size = sz /\ CellsAt f (o + i * sz) v.cells.toList) -> RE Γ xs f o sz
 | [], _, _ => by simp only [RE]
 | y :: xs, o, h => by
  simp only [RE]
  refine ⟨by simpa using h 0 y rfl, RE.mk fun i x hx => ?_⟩
  obtain ⟨v, h1, h2, h3, h4⟩ := h (i + 1) x (by simpa using hx)
  exact ⟨v, h1, h2, h3, by rw [Nat.succ_mul, Nat.add_comm (i * sz), <- Nat.add_assoc] at h4; exact h4⟩
theorem RE.drop {Γ : Ghost} {f : Nat -> Option Value} {sz o : Nat} {xs : List AV} (n : Nat) (h : RE Γ xs f o sz) : RE Γ (xs.drop n) f (o + n * sz) sz :=
 RE.mk fun i x hx => by
  rw [List.getElem?_drop] at hx
  obtain ⟨v, h1, h2, h3, h4⟩ := h.get _ x hx
  exact ⟨v, h1, h2, h3, by rw [Nat.add_mul, <- Nat.add_assoc] at h4; exact h4⟩
theorem RE.take {Γ : Ghost} {f : Nat -> Option Value} {sz o : Nat} {xs : List AV} (n : Nat) (h : RE Γ xs f o sz) : RE Γ (xs.take n) f o sz :=
 RE.mk fun i x hx => by
  rw [List.getElem?_take] at hx
  split at hx
  ·exact h.get _ x hx
  ·exact absurd hx (by simp)
theorem RE.append {Γ : Ghost} {f : Nat -> Option Value} {sz o : Nat} {xs ys : List AV} (h : RE Γ xs f o sz) (k : RE Γ ys f (o + xs.length * sz) sz) : RE Γ (xs ++ ys) f o sz :=
 RE.mk fun i x hx => by
  rw [List.getElem?_append] at hx
  split at hx
  ·exact h.get _ x hx
  ·rename_i hi
   obtain ⟨v, h1, h2, h3, h4⟩ := k.get _ x hx
   refine ⟨v, h1, h2, h3, ?_⟩
   have e : o + xs.length * sz + (i - xs.length) * sz = o + i * sz := by
    rw [Nat.add_assoc, <- Nat.add_mul]; congr 2; omega
   rw [e] at h4; exact h4
end Go.Abs
namespace Go.Abs
open Go.RowKit
theorem cell_mk (w : World) (b o : Nat) : w.cell? ⟨b, o, none⟩ = match w.heap[b]? with | some (.cells c _ _) => c[o]? | _ => none := by
 unfold World.cell?
 cases w.heap[b]? with
 | none => rfl
 | some x => cases x <;> rfl
theorem cell_of_heap {w : World} {b : Nat} {c : Array Value} {T : TypeId} {fr : Nat × Nat} (h : w.heap[b]? = some (.cells c T fr)) (o : Nat) : w.cell? ⟨b, o, none⟩ = c[o]? := by
 rw [cell_mk, h]
theorem cell_same {w w' : World} {b : Nat} (h : w'.heap[b]? = w.heap[b]?) (o : Nat) : w'.cell? ⟨b, o, none⟩ = w.cell? ⟨b, o, none⟩ := by
 rw [cell_mk, cell_mk, h]
theorem lt_of_cell {w : World} {b o : Nat} {v : Value} (h : w.cell? ⟨b, o, none⟩ = some v) : b < w.heap.size := by
 rw [cell_mk] at h
 cases hb : w.heap[b]? with
 | none => rw [hb] at h; simp at h
 | some x => exact (Array.getElem?_eq_some_iff.1 hb).1
theorem add_mk (b o n : Nat) : (⟨b, o, none⟩ : Addr).add n = ⟨b, o + n, none⟩ := by
 unfold Addr.add; split
 ·rename_i h; subst h; rfl
 ·rfl
def RowOk (Γ : Ghost) (w : World) (blk base sz' tot sz : Nat) (xs : List AV) : Prop :=
 sz' = sz /\ 0 < sz /\ xs.length <= tot /\ (0 < tot -> (∃ c T, w.heap[blk]? = some (.cells c T (0, 0)) /\ base + tot * sz <= c.size /\ RE Γ xs (fun k => c[k]?) base sz) /\ ∀ o, Γ.inert blk o = none)
def TokOk (Γ : Ghost) (w : World) (blk e tot : Nat) : Prop :=
 (∃ c T, w.heap[blk]? = some (.cells c T (0, 0)) /\ tot <= c.size) /\ ∀ o, e <= o -> Γ.inert blk o = none
def MapOk (Γ : Ghost) (w : World) (blk : Nat) (es : List (AV × AV)) : Prop :=
 ∃ en : Array MapEntry, ∃ clock : { n : Nat // n = es.length }, w.heap[blk]? = some (.map en clock.1) /\ en.size = es.length /\
  ∀ (i : Nat) (k v : AV), es[i]? = some (k, v) -> ∃ e : MapEntry, en[i]? = some e /\ R Γ k e.key /\ R Γ v e.val /\ k.ok = true /\ v.ok = true /\ e.born = i
def OwnB (Γ : Ghost) (st : St) (i blk : Nat) : Prop :=
 (∃ sz xs base sz' tot, st.get i = some (.row sz xs) /\ Γ.obj i = some (blk, base, sz', tot) /\ 0 < tot) \/
 (∃ kt et es, st.get i = some (.map kt et es) /\ Γ.mp i = some blk) \/
 (st.alive i = true /\ ∃ e tot, Γ.tk i = some (blk, e, tot))
def TyAt (w : World) (blk : Nat) (T : TypeId) : Prop := ∃ c fr, w.heap[blk]? = some (.cells c T fr)
theorem TyAt.lt {w : World} {blk : Nat} {T : TypeId} (h : TyAt w blk T) : blk < w.heap.size := by
 obtain ⟨c, fr, h⟩ := h
 exact (Array.getElem?_eq_some_iff.1 h).1
theorem TyAt.same {w w' : World} {blk : Nat} {T : TypeId} {c c' : Array Value} {fr fr' : Nat × Nat} (h : w.heap[blk]? = some (.cells c T fr)) (h' : w'.heap[blk]? = some (.cells c' T fr')) :
  ∀ T', TyAt w blk T' -> TyAt w' blk T' := by
 rintro T' ⟨c0, fr0, h0⟩
 rw [h] at h0; cases h0
 exact ⟨c', fr', h'⟩
def Typed (Γ : Ghost) (j : Nat) (T : TypeId) : Prop := ∃ blk sz tot, Γ.obj j = some (blk, 0, sz, tot) /\ Γ.ety blk = some T
def TTyped (Γ : Ghost) (j : Nat) (T : TypeId) : Prop := ∃ blk e tot, Γ.tk j = some (blk, e, tot) /\ Γ.ety blk = some T
theorem Typed.mono {Γ Δ : Ghost} (h : Γ.Le Δ) {j : Nat} {T : TypeId} (k : Typed Γ j T) : Typed Δ j T := by
 obtain ⟨blk, sz, tot, h1, h2⟩ := k
 exact ⟨blk, sz, tot, h.obj _ _ h1, h.ety _ _ h2⟩
theorem TTyped.mono {Γ Δ : Ghost} (h : Γ.Le Δ) {j : Nat} {T : TypeId} (k : TTyped Γ j T) : TTyped Δ j T := by
 obtain ⟨blk, e, tot, h1, h2⟩ := k
 exact ⟨blk, e, tot, h.tk _ _ h1, h.ety _ _ h2⟩
structure Inv (B : Nat) (w0 : World) (Γ : Ghost) (st : St) (w : World) : Prop where
 below : Below B w0 w
 base : B <= w.heap.size
 inert : ∀ b o v, Γ.inert b o = some v -> w.cell? ⟨b, o, none⟩ = some v
 fresh : ∀ i, st.next <= i -> Γ.obj i = none /\ Γ.mp i = none /\ Γ.tk i = none /\ st.get i = none /\ st.alive i = false
 rows : ∀ i sz xs blk bs sz' tot, st.get i = some (.row sz xs) -> Γ.obj i = some (blk, bs, sz', tot) -> RowOk Γ w blk bs sz' tot sz xs
 maps : ∀ i kt et es blk, st.get i = some (.map kt et es) -> Γ.mp i = some blk -> MapOk Γ w blk es
 toks : ∀ i blk e tot, st.alive i = true -> Γ.tk i = some (blk, e, tot) -> TokOk Γ w blk e tot
 uniq : ∀ i j blk, OwnB Γ st i blk -> OwnB Γ st j blk -> i = j
 above : ∀ i blk, OwnB Γ st i blk -> B <= blk
 disj : ∀ i, st.alive i = true -> st.get i = none
 ety : ∀ blk T, Γ.ety blk = some T -> TyAt w blk T
 tys : ∀ j T, st.ty j = some T -> Typed Γ j T
 ttys : ∀ j T, st.tty j = some T -> TTyped Γ j T
 old : ∀ b o v, b < B -> Γ.inert b o = some v -> Γ.old b o = some v
def Keep (Γ : Ghost) (st : St) (Γ' : Ghost) (st' : St) : Prop :=
 st.next <= st'.next /\ ∀ j, j < st.next -> Γ.obj j = none -> Γ.mp j = none -> Γ'.obj j = none /\ Γ'.mp j = none /\ st'.get j = st.get j
theorem Keep.refl (Γ : Ghost) (st : St) : Keep Γ st Γ st := ⟨Nat.le_refl _, fun _ _ h k => ⟨h, k, rfl⟩⟩
theorem Keep.trans {Γ Δ Θ : Ghost} {a b c : St} (h : Keep Γ a Δ b) (k : Keep Δ b Θ c) : Keep Γ a Θ c :=
 ⟨Nat.le_trans h.1 k.1, fun j hj h1 h2 => by
  obtain ⟨x1, x2, x3⟩ := h.2 j hj h1 h2
  obtain ⟨y1, y2, y3⟩ := k.2 j (Nat.lt_of_lt_of_le hj h.1) x1 x2
  exact ⟨y1, y2, y3.trans x3⟩⟩
structure Out (B : Nat) (w0 : World) (Γ : Ghost) (st : St) (Γ' : Ghost) (st' : St) (w' : World) : Prop where
 le : Γ.Le Γ'
 inv : Inv B w0 Γ' st' w'
 keep : Keep Γ st Γ' st'
theorem Out.trans {B : Nat} {w0 : World} {Γ Δ Θ : Ghost} {a b c : St} {w w' : World} (h : Out B w0 Γ a Δ b w) (k : Out B w0 Δ b Θ c w') : Out B w0 Γ a Θ c w' :=
 ⟨h.le.trans k.le, k.inv, h.keep.trans k.keep⟩
theorem Inv.lt {B : Nat} {w0 w : World} {Γ : Ghost} {st : St} (h : Inv B w0 Γ st w) {i blk : Nat} (o : OwnB Γ st i blk) : blk < w.heap.size := by
 rcases o with ⟨sz, xs, bs, sz', tot, h1, h2, h3⟩ | ⟨kt, et, es, h1, h2⟩ | ⟨h1, e, tot, h2⟩
 ·obtain ⟨⟨c, T, hc, _⟩, _⟩ := (h.rows i sz xs blk bs sz' tot h1 h2).2.2.2 h3
  exact (Array.getElem?_eq_some_iff.1 hc).1
 ·obtain ⟨en, clock, hc, _⟩ := h.maps i kt et es blk h1 h2
  exact (Array.getElem?_eq_some_iff.1 hc).1
 ·obtain ⟨⟨c, T, hc, _⟩, _⟩ := h.toks i blk e tot h1 h2
  exact (Array.getElem?_eq_some_iff.1 hc).1
theorem Inv.inert_lt {B : Nat} {w0 w : World} {Γ : Ghost} {st : St} (h : Inv B w0 Γ st w) {b o : Nat} {v : Value} (k : Γ.inert b o = some v) : b < w.heap.size := lt_of_cell (h.inert b o v k)
theorem Inv.change {B : Nat} {w0 w w' : World} {Γ Γ' : Ghost} {st st' : St} (h : Inv B w0 Γ st w) (i blk : Nat)
  (hle : Γ.Le Γ')
  (hblk : blk = w.heap.size \/ OwnB Γ st i blk)
  (hother : ∀ k, k < w.heap.size -> k ≠ blk -> w'.heap[k]? = w.heap[k]?)
  (hsize : w.heap.size <= w'.heap.size) (hos : w'.os = w.os) (htape : w'.tape = w.tape) (hout : w'.output = w.output)
  (hin : ∀ b o v, Γ'.inert b o = some v -> (b = blk /\ w'.cell? ⟨blk, o, none⟩ = some v) \/ (b ≠ blk /\ Γ.inert b o = some v))
  (hfresh : ∀ j, st'.next <= j -> Γ'.obj j = none /\ Γ'.mp j = none /\ Γ'.tk j = none /\ st'.get j = none /\ st'.alive j = false)
  (hobjs : ∀ j, j ≠ i -> j ≠ st.next -> (st'.get j = st.get j \/ st'.get j = none) /\ (st'.alive j = st.alive j \/ st'.alive j = false) /\
   Γ'.obj j = Γ.obj j /\ Γ'.mp j = Γ.mp j /\ Γ'.tk j = Γ.tk j)
  (hrows : ∀ j, j = i \/ j = st.next -> ∀ sz xs b bs sz' tot, st'.get j = some (.row sz xs) -> Γ'.obj j = some (b, bs, sz', tot) -> RowOk Γ' w' b bs sz' tot sz xs /\ (0 < tot -> b = blk))
  (hmaps : ∀ j, j = i \/ j = st.next -> ∀ kt et es, st'.get j = some (.map kt et es) -> Γ'.mp j = some blk /\ MapOk Γ' w' blk es)
  (htoks : ∀ j, j = i \/ j = st.next -> ∀ b e tot, st'.alive j = true -> Γ'.tk j = some (b, e, tot) -> b = blk /\ TokOk Γ' w' b e tot)
  (hdisj : ∀ j, j = i \/ j = st.next -> st'.alive j = true -> st'.get j = none)
  (hone : ∀ b, OwnB Γ' st' i b -> OwnB Γ' st' st.next b -> i = st.next)
  (hnew : i ≠ st.next \/ blk = w.heap.size)
  (hT : blk = w.heap.size \/ ∀ T, TyAt w blk T -> TyAt w' blk T := by exact .inl rfl) (htys : st'.tys = st.tys := by rfl) (hety : Γ'.ety = Γ.ety := by rfl) : Inv B w0 Γ' st' w' := by
 have hB : B <= blk := by
  rcases hblk with rfl | ho
  ·exact h.base
  ·exact h.above i blk ho
 -- what the others own is another block
 have hoth : ∀ j b, j ≠ i -> j ≠ st.next -> OwnB Γ' st' j b -> OwnB Γ st j b /\ b ≠ blk /\ b < w.heap.size := by
  intro j b h1 h2 ho
  obtain ⟨g1, g2, g3, g4, g5⟩ := hobjs j h1 h2
  have ho' : OwnB Γ st j b := by
   rcases ho with ⟨sz, xs, bs, sz', tot, k1, k2, k3⟩ | ⟨kt, et, es, k1, k2⟩ | ⟨k1, e, tot, k2⟩
   ·rcases g1 with g1 | g1
    ·exact .inl ⟨sz, xs, bs, sz', tot, g1 ▸ k1, g3 ▸ k2, k3⟩
    ·rw [g1] at k1; cases k1
   ·rcases g1 with g1 | g1
    ·exact .inr (.inl ⟨kt, et, es, g1 ▸ k1, g4 ▸ k2⟩)
    ·rw [g1] at k1; cases k1
   ·rcases g2 with g2 | g2
    ·exact .inr (.inr ⟨g2 ▸ k1, e, tot, g5 ▸ k2⟩)
    ·rw [g2] at k1; cases k1
  have hl := h.lt ho'
  refine ⟨ho', ?_, hl⟩
  rintro rfl
  rcases hblk with e | hi
  ·omega
  ·exact h1 (h.uniq j i b ho' hi)
 have hmine : ∀ j b, (j = i \/ j = st.next) -> OwnB Γ' st' j b -> b = blk := by
  intro j b hj ho
  rcases ho with ⟨sz, xs, bs, sz', tot, k1, k2, k3⟩ | ⟨kt, et, es, k1, k2⟩ | ⟨k1, e, tot, k2⟩
  ·exact (hrows j hj sz xs b bs sz' tot k1 k2).2 k3
  ·have := (hmaps j hj kt et es k1).1
   rw [k2] at this; cases this; rfl
  ·exact (htoks j hj b e tot k1 k2).1
 have hcell : ∀ b o, b < w.heap.size -> b ≠ blk -> w'.cell? ⟨b, o, none⟩ = w.cell? ⟨b, o, none⟩ := fun b o hb hne => cell_same (hother b hb hne) o
 refine ⟨?_, Nat.le_trans h.base hsize, ?_, hfresh, ?_, ?_, ?_, ?_, ?_, ?_, ?_, ?_, ?_, ?_⟩
 ·exact h.below.trans ⟨hos, htape, hout, hsize, fun k hk => hother k (Nat.lt_of_lt_of_le hk h.base) (by omega)⟩
 ·intro b o v hv
  rcases hin b o v hv with ⟨rfl, hc⟩ | ⟨hne, hc⟩
  ·exact hc
  ·rw [hcell b o (h.inert_lt hc) hne]; exact h.inert b o v hc
 ·intro j sz xs b bs sz' tot k1 k2
  by_cases hj : j = i \/ j = st.next
  ·exact (hrows j hj sz xs b bs sz' tot k1 k2).1
  ·simp only [not_or] at hj
   obtain ⟨g1, _, g3, _, _⟩ := hobjs j hj.1 hj.2
   rcases g1 with g1 | g1
   ·rw [g1] at k1; rw [g3] at k2
    obtain ⟨r1, r2, r3, r4⟩ := h.rows j sz xs b bs sz' tot k1 k2
    refine ⟨r1, r2, r3, fun ht => ?_⟩
    obtain ⟨⟨c, T, hc, hs, hre⟩, hno⟩ := r4 ht
    obtain ⟨_, hne, hl⟩ := hoth j b hj.1 hj.2 (.inl ⟨sz, xs, bs, sz', tot, g1 ▸ k1, g3 ▸ k2, ht⟩)
    refine ⟨⟨c, T, (hother b hl hne).trans hc, hs, RE.mono hle xs _ _ _ _ (fun _ _ x => x) hre⟩, fun o => ?_⟩
    cases hv : Γ'.inert b o with
    | none => rfl
    | some v =>
     rcases hin b o v hv with ⟨e, _⟩ | ⟨_, e⟩
     ·exact absurd e hne
     ·rw [hno o] at e; cases e
   ·rw [g1] at k1; cases k1
 ·intro j kt et es b k1 k2
  by_cases hj : j = i \/ j = st.next
  ·obtain ⟨q1, q2⟩ := hmaps j hj kt et es k1
   rw [q1] at k2; cases k2; exact q2
  ·simp only [not_or] at hj
   obtain ⟨g1, _, _, g4, _⟩ := hobjs j hj.1 hj.2
   rcases g1 with g1 | g1
   ·have k2' := k2
    have k1' := k1
    rw [g1] at k1
    rw [g4] at k2'
    obtain ⟨en, clock, hc, hs, hre⟩ := h.maps j kt et es b k1 k2'
    obtain ⟨_, hne, hl⟩ := hoth j b hj.1 hj.2 (.inr (.inl ⟨kt, et, es, k1', k2⟩))
    refine ⟨en, clock, (hother b hl hne).trans hc, hs, fun i' k v hi' => ?_⟩
    obtain ⟨e, he, r1, r2, r3, r4⟩ := hre i' k v hi'
    exact ⟨e, he, r1.mono hle, r2.mono hle, r3, r4⟩
   ·rw [g1] at k1; cases k1
 ·intro j b e tot k1 k2
  by_cases hj : j = i \/ j = st.next
  ·exact (htoks j hj b e tot k1 k2).2
  ·simp only [not_or] at hj
   obtain ⟨_, g2, _, _, g5⟩ := hobjs j hj.1 hj.2
   rcases g2 with g2 | g2
   ·have ho : OwnB Γ' st' j b := .inr (.inr ⟨k1, e, tot, k2⟩)
    rw [g2] at k1; rw [g5] at k2
    obtain ⟨⟨c, T, hc, hs⟩, hno⟩ := h.toks j b e tot k1 k2
    obtain ⟨_, hne, hl⟩ := hoth j b hj.1 hj.2 ho
    refine ⟨⟨c, T, (hother b hl hne).trans hc, hs⟩, fun o ho => ?_⟩
    cases hv : Γ'.inert b o with
    | none => rfl
    | some v =>
     rcases hin b o v hv with ⟨e, _⟩ | ⟨_, e⟩
     ·exact absurd e hne
     ·rw [hno o ho] at e; cases e
   ·rw [g2] at k1; cases k1
 ·intro j k b oj ok
  by_cases hj : j = i \/ j = st.next
  ·have ej := hmine j b hj oj
   by_cases hk : k = i \/ k = st.next
   ·rcases hj with rfl | rfl <;> rcases hk with rfl | rfl
    ·rfl
    ·exact hone b oj ok
    ·exact (hone b ok oj).symm
    ·rfl
   ·simp only [not_or] at hk
    exact absurd ej (hoth k b hk.1 hk.2 ok).2.1
  ·simp only [not_or] at hj
   have h1 := hoth j b hj.1 hj.2 oj
   by_cases hk : k = i \/ k = st.next
   ·exact absurd (hmine k b hk ok) h1.2.1
   ·simp only [not_or] at hk
    exact h.uniq j k b h1.1 (hoth k b hk.1 hk.2 ok).1
 ·intro j b oj
  by_cases hj : j = i \/ j = st.next
  ·rw [hmine j b hj oj]; exact hB
  ·simp only [not_or] at hj
   exact h.above j b (hoth j b hj.1 hj.2 oj).1
 ·intro j ha
  by_cases hj : j = i \/ j = st.next
  ·exact hdisj j hj ha
  ·simp only [not_or] at hj
   obtain ⟨g1, g2, _, _, _⟩ := hobjs j hj.1 hj.2
   rcases g2 with g2 | g2
   ·rcases g1 with g1 | g1
    ·rw [g1]; exact h.disj j (g2 ▸ ha)
    ·exact g1
   ·rw [g2] at ha; cases ha
 ·intro b T hb
  rw [hety] at hb
  have hty := h.ety b T hb
  by_cases e : b = blk
  ·subst e
   rcases hT with e | hT
   ·have := hty.lt; omega
   ·exact hT T hty
  ·obtain ⟨c, fr, hc⟩ := hty
   exact ⟨c, fr, (hother b (Array.getElem?_eq_some_iff.1 hc).1 e).trans hc⟩
 ·intro j T hj
  have : st.ty j = some T := by
   unfold St.ty at hj ⊢
   rw [htys] at hj; exact hj
  exact (h.tys j T this).mono hle
 ·intro j T hj
  have : st.tty j = some T := by
   unfold St.tty at hj ⊢
   rw [htys] at hj; exact hj
  exact (h.ttys j T this).mono hle
 ·intro b o v hb hv
  rw [hle.old]
  rcases hin b o v hv with ⟨rfl, _⟩ | ⟨_, hc⟩
  ·omega
  ·exact h.old b o v hb hc
theorem Inv.drawn {B : Nat} {w0 w : World} {Γ : Ghost} {st : St} (h : Inv B w0 Γ st w) (n : Nat) : Inv B w0 Γ st { w with drawn := n } :=
 ⟨⟨h.below.os, h.below.tape, h.below.output, h.below.size, h.below.block⟩, h.base, h.inert, h.fresh, h.rows, h.maps, h.toks, h.uniq, h.above, h.disj, h.ety, h.tys, h.ttys, h.old⟩
theorem getL_cons (l : List (Nat × AObj)) (a b : Nat) (o : AObj) : getL ((a, o) :: l) b = if a = b then some o else getL l b := rfl
theorem getL_upd (l : List (Nat × AObj)) (a b : Nat) (o : AObj) : getL (updL l a o) b = if a = b then some o else getL l b := by
 induction l with
 | nil => simp [updL, getL]
 | cons x l ih =>
  obtain ⟨c, p⟩ := x
  simp only [updL]
  split
  ·rename_i h; subst h; simp only [getL]; split <;> rfl
  ·rename_i h
   simp only [getL, ih]
   split
   ·rename_i h'; subst h'; rw [if_neg (fun e => h e.symm)]
   ·rfl
theorem getL_rem (l : List (Nat × AObj)) (a b : Nat) : getL (remL l a) b = if a = b then none else getL l b := by
 induction l with
 | nil => simp [remL, getL]
 | cons x l ih =>
  obtain ⟨c, p⟩ := x
  simp only [remL]
  split
  ·rename_i h; subst h; rw [ih]; simp only [getL]; split <;> simp_all
  ·rename_i h
   simp only [getL, ih]
   split
   ·rename_i h'; subst h'; rw [if_neg (fun e => h e.symm)]
   ·rfl
theorem contains_remN (l : List Nat) (a b : Nat) : (remN l a).contains b = if a = b then false else l.contains b := by
 induction l with
 | nil => simp [remN]
 | cons c l ih =>
  have hc : (c :: l).contains b = (decide (b = c) || l.contains b) := by
   rw [List.contains_cons]; rfl
  simp only [remN]
  split
  ·rename_i h; subst h; rw [ih, hc]
   split
   ·rfl
   ·rename_i h'
    have h2 : ¬ b = c := fun e => h' e.symm
    simp [h2]
  ·rename_i h
   have hc' : (c :: remN l a).contains b = (decide (b = c) || (remN l a).contains b) := by
    rw [List.contains_cons]; rfl
   rw [hc', ih, hc]
   split
   ·rename_i h'
    subst h'
    have h2 : ¬ a = c := fun e => h e.symm
    simp [h2]
   ·rfl
@[simp] theorem St.get_new (s : St) (o : AObj) (b : Nat) : (s.new o).get b = if s.next = b then some o else s.get b := rfl
@[simp] theorem St.get_put (s : St) (a b : Nat) (o : AObj) : (s.put a o).get b = if a = b then some o else s.get b := getL_upd _ _ _ _
@[simp] theorem St.get_drop (s : St) (a b : Nat) : (s.drop a).get b = if a = b then none else s.get b := getL_rem _ _ _
@[simp] theorem St.get_newTok (s : St) (b : Nat) : s.newTok.get b = s.get b := rfl
@[simp] theorem St.get_dropTok (s : St) (t b : Nat) : (s.dropTok t).get b = s.get b := rfl
@[simp] theorem St.alive_new (s : St) (o : AObj) (b : Nat) : (s.new o).alive b = s.alive b := rfl
@[simp] theorem St.alive_put (s : St) (a b : Nat) (o : AObj) : (s.put a o).alive b = s.alive b := rfl
@[simp] theorem St.alive_drop (s : St) (a b : Nat) : (s.drop a).alive b = s.alive b := rfl
@[simp] theorem St.alive_newTok (s : St) (b : Nat) : s.newTok.alive b = (decide (s.next = b) || s.alive b) := by
 simp [St.alive, St.newTok, eq_comm]
@[simp] theorem St.alive_dropTok (s : St) (t b : Nat) : (s.dropTok t).alive b = if t = b then false else s.alive b := contains_remN _ _ _
@[simp] theorem St.next_new (s : St) (o : AObj) : (s.new o).next = s.next + 1 := rfl
@[simp] theorem St.next_put (s : St) (a : Nat) (o : AObj) : (s.put a o).next = s.next := rfl
@[simp] theorem St.next_drop (s : St) (a : Nat) : (s.drop a).next = s.next := rfl
@[simp] theorem St.next_newTok (s : St) : s.newTok.next = s.next + 1 := rfl
@[simp] theorem St.next_dropTok (s : St) (t : Nat) : (s.dropTok t).next = s.next := rfl
end Go.Abs
namespace Go.Abs
open Go.RowKit
structure Touch (w w' : World) (blk : Nat) : Prop where
 other : ∀ k, k < w.heap.size -> k ≠ blk -> w'.heap[k]? = w.heap[k]?
 size : w.heap.size <= w'.heap.size
 os : w'.os = w.os
 tape : w'.tape = w.tape
 out : w'.output = w.output
theorem Touch.refl (w : World) (blk : Nat) : Touch w w blk := ⟨fun _ _ _ => rfl, Nat.le_refl _, rfl, rfl, rfl⟩
theorem Touch.trans {a b c : World} {blk : Nat} (h : Touch a b blk) (k : Touch b c blk) : Touch a c blk :=
 ⟨fun i hi hne => (k.other i (Nat.lt_of_lt_of_le hi h.size) hne).trans (h.other i hi hne), Nat.le_trans h.size k.size, k.os.trans h.os, k.tape.trans h.tape, k.out.trans h.out⟩
theorem Touch.drawn (w : World) (n blk : Nat) : Touch w { w with drawn := n } blk := ⟨fun _ _ _ => rfl, Nat.le_refl _, rfl, rfl, rfl⟩
theorem Touch.alloc (w : World) (o : Obj) : Touch w (w.alloc o) w.heap.size :=
 ⟨fun k hk _ => by show (w.heap.push o)[k]? = _; rw [Array.getElem?_push_lt hk, Array.getElem?_eq_getElem hk], by show w.heap.size <= (w.heap.push o).size; simp, rfl, rfl, rfl⟩
theorem alloc_at (w : World) (o : Obj) : (w.alloc o).heap[w.heap.size]? = some o := by show (w.heap.push o)[w.heap.size]? = _; simp
def Ghost.addInert (Γ : Ghost) (blk : Nat) (f : Nat -> Option Value) : Ghost := { Γ with inert := fun b o => if b = blk then f o else Γ.inert b o }
def Ghost.addObj (Γ : Ghost) (i : Nat) (x : Nat × Nat × Nat × Nat) : Ghost := { Γ with obj := fun j => if j = i then some x else Γ.obj j }
def Ghost.addMp (Γ : Ghost) (i : Nat) (x : Nat) : Ghost := { Γ with mp := fun j => if j = i then some x else Γ.mp j }
def Ghost.addTk (Γ : Ghost) (i : Nat) (x : Option (Nat × Nat × Nat)) : Ghost := { Γ with tk := fun j => if j = i then x else Γ.tk j }
theorem Ghost.le_addInert {Γ : Ghost} {blk : Nat} {f : Nat -> Option Value} (h : ∀ o v, Γ.inert blk o = some v -> f o = some v) : Γ.Le (Γ.addInert blk f) :=
 ⟨fun b o v k => by simp only [Ghost.addInert]; split
                    · rename_i e; subst e; exact h o v k
                    · exact k, fun _ _ k => k, fun _ _ k => k, fun _ _ k => k, fun _ _ k => k, rfl⟩
theorem Ghost.le_addObj {Γ : Ghost} {i : Nat} {x : Nat × Nat × Nat × Nat} (h : Γ.obj i = none) : Γ.Le (Γ.addObj i x) :=
 ⟨fun _ _ _ k => k, fun j y k => by simp only [Ghost.addObj]; split
                                    · rename_i e; subst e; rw [h] at k; cases k
                                    · exact k, fun _ _ k => k, fun _ _ k => k, fun _ _ k => k, rfl⟩
theorem Ghost.le_addMp {Γ : Ghost} {i : Nat} {x : Nat} (h : Γ.mp i = none) : Γ.Le (Γ.addMp i x) :=
 ⟨fun _ _ _ k => k, fun _ _ k => k, fun j y k => by simp only [Ghost.addMp]; split
                                                    · rename_i e; subst e; rw [h] at k; cases k
                                                    · exact k, fun _ _ k => k, fun _ _ k => k, rfl⟩
theorem Ghost.le_addTk {Γ : Ghost} {i : Nat} {x : Option (Nat × Nat × Nat)} (h : Γ.tk i = none) : Γ.Le (Γ.addTk i x) :=
 ⟨fun _ _ _ k => k, fun _ _ k => k, fun _ _ k => k, fun j y k => by simp only [Ghost.addTk]; split
                                                                    · rename_i e; subst e; rw [h] at k; cases k
                                                                    · exact k, fun _ _ k => k, rfl⟩
section
variable {B : Nat} {w0 w w' : World} {Γ : Ghost} {st : St}
theorem Inv.noInert (h : Inv B w0 Γ st w) {o : Nat} : Γ.inert w.heap.size o = none := by
 cases hv : Γ.inert w.heap.size o with
 | none => rfl
 | some v => exact absurd (h.inert_lt hv) (Nat.lt_irrefl _)
theorem Inv.noObj (h : Inv B w0 Γ st w) : Γ.obj st.next = none := (h.fresh _ (Nat.le_refl _)).1
theorem Inv.noMp (h : Inv B w0 Γ st w) : Γ.mp st.next = none := (h.fresh _ (Nat.le_refl _)).2.1
theorem Inv.noTk (h : Inv B w0 Γ st w) : Γ.tk st.next = none := (h.fresh _ (Nat.le_refl _)).2.2.1
theorem Inv.noGet (h : Inv B w0 Γ st w) : st.get st.next = none := (h.fresh _ (Nat.le_refl _)).2.2.2.1
theorem Inv.noAlive (h : Inv B w0 Γ st w) : st.alive st.next = false := (h.fresh _ (Nat.le_refl _)).2.2.2.2
theorem Inv.inertNew (h : Inv B w0 Γ st w) (t : Touch w w' w.heap.size) {c : Array Value} {T : TypeId} {fr : Nat × Nat}
  (hc : w'.heap[w.heap.size]? = some (.cells c T fr)) (n : Nat) :
  Out B w0 Γ st (Γ.addInert w.heap.size (fun o => if o < n then c[o]? else none)) st w' := by
 have hle : Γ.Le (Γ.addInert w.heap.size (fun o => if o < n then c[o]? else none)) := Ghost.le_addInert (fun o v k => by rw [h.noInert] at k; cases k)
 refine ⟨hle, ?_, Nat.le_refl _, fun _ _ h1 h2 => ⟨h1, h2, rfl⟩⟩
 refine h.change st.next w.heap.size hle (.inl rfl) t.other t.size t.os t.tape t.out ?_ h.fresh
  (fun j _ _ => ⟨.inl rfl, .inl rfl, rfl, rfl, rfl⟩) ?_ ?_ ?_ ?_ ?_ (.inr rfl)
 ·intro b o v k
  simp only [Ghost.addInert] at k
  split at k
  ·rename_i e
   split at k
   ·exact .inl ⟨e, by rw [cell_of_heap hc]; exact k⟩
   ·cases k
  ·rename_i e; exact .inr ⟨e, k⟩
 ·rintro j hj sz xs b bs sz' tot k1 k2
  have : j = st.next := by rcases hj with e | e <;> exact e
  subst this; rw [h.noGet] at k1; cases k1
 ·rintro j hj kt et es k1
  have : j = st.next := by rcases hj with e | e <;> exact e
  subst this; rw [h.noGet] at k1; cases k1
 ·rintro j hj b e tot k1 k2
  have : j = st.next := by rcases hj with e | e <;> exact e
  subst this; rw [h.noAlive] at k1; cases k1
 ·rintro j hj k
  have : j = st.next := by rcases hj with e | e <;> exact e
  subst this; exact h.noGet
 ·intro _ _ _; rfl
theorem Inv.freshNew (h : Inv B w0 Γ st w) {o : AObj} {x : Nat × Nat × Nat × Nat} : ∀ j, (st.new o).next <= j ->
  (Γ.addObj st.next x).obj j = none /\ (Γ.addObj st.next x).mp j = none /\ (Γ.addObj st.next x).tk j = none /\ (st.new o).get j = none /\ (st.new o).alive j = false := by
 intro j hj
 simp only [St.next_new] at hj
 obtain ⟨h1, h2, h3, h4, h5⟩ := h.fresh j (by omega)
 refine ⟨?_, h2, h3, ?_, h5⟩
 ·simp only [Ghost.addObj]; rw [if_neg (by omega)]; exact h1
 ·rw [St.get_new, if_neg (by omega)]; exact h4
theorem keep_new (o : AObj) (x : Nat × Nat × Nat × Nat) : Keep Γ st (Γ.addObj st.next x) (st.new o) :=
 ⟨by simp, fun j hj h1 h2 => ⟨by simp only [Ghost.addObj]; rw [if_neg (by omega)]; exact h1, h2, by rw [St.get_new, if_neg (by omega)]⟩⟩
theorem Inv.rowNew (h : Inv B w0 Γ st w) (t : Touch w w' w.heap.size) {c : Array Value} {T : TypeId}
  (hc : w'.heap[w.heap.size]? = some (.cells c T (0, 0))) {sz tot : Nat} {xs : List AV} (hsz : 0 < sz) (hlen : xs.length <= tot) (htot : tot * sz <= c.size)
  (hre : RE Γ xs (fun k => c[k]?) 0 sz) :
  Out B w0 Γ st (Γ.addObj st.next (w.heap.size, 0, sz, tot)) (st.new (.row sz xs)) w' := by
 have hle : Γ.Le (Γ.addObj st.next (w.heap.size, 0, sz, tot)) := Ghost.le_addObj h.noObj
 refine ⟨hle, ?_, keep_new _ _⟩
 refine h.change st.next w.heap.size hle (.inl rfl) t.other t.size t.os t.tape t.out ?_ h.freshNew ?_ ?_ ?_ ?_ ?_ ?_ (.inr rfl)
 ·exact fun b o v k => .inr ⟨Nat.ne_of_lt (h.inert_lt k), k⟩
 ·intro j h1 h2
  refine ⟨.inl (by rw [St.get_new, if_neg (fun e => h2 e.symm)]), .inl rfl, ?_, rfl, rfl⟩
  simp only [Ghost.addObj]; rw [if_neg h2]
 ·rintro j hj sz1 xs1 b bs sz' tot1 k1 k2
  have : j = st.next := by rcases hj with e | e <;> exact e
  subst this
  rw [St.get_new, if_pos rfl] at k1
  simp only [Ghost.addObj, if_pos] at k2
  cases k1; cases k2
  refine ⟨⟨rfl, hsz, hlen, fun _ => ⟨⟨c, T, hc, by omega, RE.mono hle xs _ _ _ _ (fun _ _ k => k) hre⟩, fun o => h.noInert⟩⟩, fun _ => rfl⟩
 ·rintro j hj kt et es k1
  have : j = st.next := by rcases hj with e | e <;> exact e
  subst this
  rw [St.get_new, if_pos rfl] at k1; cases k1
 ·rintro j hj b e tot k1 k2
  have : j = st.next := by rcases hj with e | e <;> exact e
  subst this
  rw [St.alive_new, h.noAlive] at k1; cases k1
 ·rintro j hj k
  have : j = st.next := by rcases hj with e | e <;> exact e
  subst this; rw [St.alive_new, h.noAlive] at k; cases k
 ·intro _ _ _; rfl
theorem Inv.rowEmpty (h : Inv B w0 Γ st w) {sz blk bs : Nat} (hsz : 0 < sz) :
  Out B w0 Γ st (Γ.addObj st.next (blk, bs, sz, 0)) (st.new (.row sz [])) w := by
 have hle : Γ.Le (Γ.addObj st.next (blk, bs, sz, 0)) := Ghost.le_addObj h.noObj
 refine ⟨hle, ?_, keep_new _ _⟩
 refine h.change st.next w.heap.size hle (.inl rfl) (fun _ _ _ => rfl) (Nat.le_refl _) rfl rfl rfl ?_ h.freshNew ?_ ?_ ?_ ?_ ?_ ?_ (.inr rfl)
 ·exact fun b o v k => .inr ⟨Nat.ne_of_lt (h.inert_lt k), k⟩
 ·intro j h1 h2
  refine ⟨.inl (by rw [St.get_new, if_neg (fun e => h2 e.symm)]), .inl rfl, ?_, rfl, rfl⟩
  simp only [Ghost.addObj]; rw [if_neg h2]
 ·rintro j hj sz1 xs1 b bs sz' tot1 k1 k2
  have : j = st.next := by rcases hj with e | e <;> exact e
  subst this
  rw [St.get_new, if_pos rfl] at k1
  simp only [Ghost.addObj, if_pos] at k2
  cases k1; cases k2
  exact ⟨⟨rfl, hsz, by simp, fun k => absurd k (by omega)⟩, fun k => absurd k (by omega)⟩
 ·rintro j hj kt et es k1
  have : j = st.next := by rcases hj with e | e <;> exact e
  subst this
  rw [St.get_new, if_pos rfl] at k1; cases k1
 ·rintro j hj b e tot k1 k2
  have : j = st.next := by rcases hj with e | e <;> exact e
  subst this
  rw [St.alive_new, h.noAlive] at k1; cases k1
 ·rintro j hj k
  have : j = st.next := by rcases hj with e | e <;> exact e
  subst this; rw [St.alive_new, h.noAlive] at k; cases k
 ·intro _ _ _; rfl
theorem keep_newTok (x : Option (Nat × Nat × Nat)) (f : Nat -> Option Value) (blk : Nat) : Keep Γ st ((Γ.addInert blk f).addTk st.next x) st.newTok :=
 ⟨by simp, fun _ _ h1 h2 => ⟨h1, h2, rfl⟩⟩
theorem Inv.tokNew (h : Inv B w0 Γ st w) (t : Touch w w' w.heap.size) {c : Array Value} {T : TypeId}
  (hc : w'.heap[w.heap.size]? = some (.cells c T (0, 0))) {n tot : Nat} (htot : tot <= c.size) :
  Out B w0 Γ st ((Γ.addInert w.heap.size (fun o => if o < n then c[o]? else none)).addTk st.next (some (w.heap.size, n, tot))) st.newTok w' := by
 have hle : Γ.Le ((Γ.addInert w.heap.size (fun o => if o < n then c[o]? else none)).addTk st.next (some (w.heap.size, n, tot))) :=
  (Ghost.le_addInert (fun o v k => by rw [h.noInert] at k; cases k)).trans (Ghost.le_addTk h.noTk)
 refine ⟨hle, ?_, keep_newTok _ _ _⟩
 refine h.change st.next w.heap.size hle (.inl rfl) t.other t.size t.os t.tape t.out ?_ ?_ ?_ ?_ ?_ ?_ ?_ ?_ (.inr rfl)
 ·intro b o v k
  simp only [Ghost.addInert, Ghost.addTk] at k
  split at k
  ·rename_i e
   split at k
   ·exact .inl ⟨e, by rw [cell_of_heap hc]; exact k⟩
   ·cases k
  ·rename_i e; exact .inr ⟨e, k⟩
 ·intro j hj
  simp only [St.next_newTok] at hj
  obtain ⟨h1, h2, h3, h4, h5⟩ := h.fresh j (by omega)
  refine ⟨h1, h2, ?_, h4, ?_⟩
  ·simp only [Ghost.addTk]; rw [if_neg (by omega)]; exact h3
  ·rw [St.alive_newTok, h5]; simp; omega
 ·intro j h1 h2
  refine ⟨.inl rfl, .inl (by rw [St.alive_newTok]; simp [Ne.symm h2]), rfl, rfl, ?_⟩
  simp only [Ghost.addTk]; rw [if_neg h2]; rfl
 ·rintro j hj sz xs b bs sz' tot k1 k2
  have : j = st.next := by rcases hj with e | e <;> exact e
  subst this; rw [St.get_newTok, h.noGet] at k1; cases k1
 ·rintro j hj kt et es k1
  have : j = st.next := by rcases hj with e | e <;> exact e
  subst this; rw [St.get_newTok, h.noGet] at k1; cases k1
 ·rintro j hj b e tot1 k1 k2
  have : j = st.next := by rcases hj with e | e <;> exact e
  subst this
  simp only [Ghost.addTk, if_pos] at k2
  cases k2
  refine ⟨rfl, ⟨c, T, hc, htot⟩, fun o ho => ?_⟩
  simp only [Ghost.addTk, Ghost.addInert, if_pos]
  rw [if_neg (by omega)]
 ·rintro j hj k
  have : j = st.next := by rcases hj with e | e <;> exact e
  subst this; exact h.noGet
 ·intro _ _ _; rfl
theorem Inv.tokFree (h : Inv B w0 Γ st w) : Out B w0 Γ st Γ st.newTok w := by
 refine ⟨Ghost.Le.refl Γ, ?_, by simp, fun _ _ h1 h2 => ⟨h1, h2, rfl⟩⟩
 refine h.change st.next w.heap.size (Ghost.Le.refl Γ) (.inl rfl) (fun _ _ _ => rfl) (Nat.le_refl _) rfl rfl rfl ?_ ?_ ?_ ?_ ?_ ?_ ?_ ?_ (.inr rfl)
 ·exact fun b o v k => .inr ⟨Nat.ne_of_lt (h.inert_lt k), k⟩
 ·intro j hj
  simp only [St.next_newTok] at hj
  obtain ⟨h1, h2, h3, h4, h5⟩ := h.fresh j (by omega)
  refine ⟨h1, h2, h3, h4, ?_⟩
  rw [St.alive_newTok, h5]; simp; omega
 ·intro j h1 h2
  exact ⟨.inl rfl, .inl (by rw [St.alive_newTok]; simp [Ne.symm h2]), rfl, rfl, rfl⟩
 ·rintro j hj sz xs b bs sz' tot k1 k2
  have : j = st.next := by rcases hj with e | e <;> exact e
  subst this; rw [St.get_newTok, h.noGet] at k1; cases k1
 ·rintro j hj kt et es k1
  have : j = st.next := by rcases hj with e | e <;> exact e
  subst this; rw [St.get_newTok, h.noGet] at k1; cases k1
 ·rintro j hj b e tot1 k1 k2
  have : j = st.next := by rcases hj with e | e <;> exact e
  subst this
  rw [h.noTk] at k2; cases k2
 ·rintro j hj k
  have : j = st.next := by rcases hj with e | e <;> exact e
  subst this; exact h.noGet
 ·intro _ _ _; rfl
theorem Inv.tokOn (h : Inv B w0 Γ st w) {t blk e tot : Nat} (ha : st.alive t = true) (ht : Γ.tk t = some (blk, e, tot)) (tw : Touch w w' blk)
  {c : Array Value} {T : TypeId} (hc : w'.heap[blk]? = some (.cells c T (0, 0))) (htot : tot <= c.size) {e' : Nat} (he : e <= e')
  (hold : ∀ o v, Γ.inert blk o = some v -> c[o]? = some v) (hty : ∀ T', TyAt w blk T' -> TyAt w' blk T') :
  Out B w0 Γ st ((Γ.addInert blk (fun o => if e <= o /\ o < e' then c[o]? else Γ.inert blk o)).addTk st.next (some (blk, e', tot))) (st.dropTok t).newTok w' := by
 have hle1 : Γ.Le (Γ.addInert blk (fun o => if e <= o /\ o < e' then c[o]? else Γ.inert blk o)) :=
  Ghost.le_addInert (fun o v k => by split <;> first | exact hold o v k | exact k)
 have hle : Γ.Le ((Γ.addInert blk (fun o => if e <= o /\ o < e' then c[o]? else Γ.inert blk o)).addTk st.next (some (blk, e', tot))) :=
  hle1.trans (Ghost.le_addTk h.noTk)
 have hown : OwnB Γ st t blk := .inr (.inr ⟨ha, e, tot, ht⟩)
 have hne : t ≠ st.next := by rintro rfl; rw [h.noAlive] at ha; cases ha
 refine ⟨hle, ?_, by simp, fun _ _ h1 h2 => ⟨h1, h2, rfl⟩⟩
 refine h.change t blk hle (.inr hown) tw.other tw.size tw.os tw.tape tw.out ?_ ?_ ?_ ?_ ?_ ?_ ?_ ?_ (.inl hne) (.inr hty)
 ·intro b o v k
  simp only [Ghost.addInert, Ghost.addTk] at k
  split at k
  ·rename_i e1
   refine .inl ⟨e1, ?_⟩
   rw [cell_of_heap hc]
   split at k
   ·exact k
   ·exact hold o v k
  ·rename_i e1; exact .inr ⟨e1, k⟩
 ·intro j hj
  simp only [St.next_newTok, St.next_dropTok] at hj
  obtain ⟨h1, h2, h3, h4, h5⟩ := h.fresh j (by omega)
  refine ⟨h1, h2, ?_, h4, ?_⟩
  ·simp only [Ghost.addTk]; rw [if_neg (by omega)]; exact h3
  ·rw [St.alive_newTok, St.alive_dropTok, h5]
   have : ¬ st.next = j := by omega
   simp [this]
 ·intro j h1 h2
  refine ⟨.inl rfl, .inl (by rw [St.alive_newTok, St.alive_dropTok]; simp [Ne.symm h2, Ne.symm h1]), rfl, rfl, ?_⟩
  simp only [Ghost.addTk]; rw [if_neg h2]; rfl
 ·rintro j hj sz xs b bs sz' tot1 k1 k2
  rw [St.get_newTok, St.get_dropTok] at k1
  rcases hj with rfl | rfl
  ·rw [h.disj j ha] at k1; cases k1
  ·rw [h.noGet] at k1; cases k1
 ·rintro j hj kt et es k1
  rw [St.get_newTok, St.get_dropTok] at k1
  rcases hj with rfl | rfl
  ·rw [h.disj j ha] at k1; cases k1
  ·rw [h.noGet] at k1; cases k1
 ·rintro j hj b e1 tot1 k1 k2
  rcases hj with rfl | rfl
  ·rw [St.alive_newTok, St.alive_dropTok] at k1
   simp [Ne.symm hne] at k1
  ·simp only [Ghost.addTk, if_pos] at k2
   cases k2
   refine ⟨rfl, ⟨c, T, hc, htot⟩, fun o ho => ?_⟩
   simp only [Ghost.addTk, Ghost.addInert, if_pos]
   rw [if_neg (by omega)]
   obtain ⟨_, hno⟩ := h.toks t blk e tot ha ht
   exact hno o (by omega)
 ·rintro j hj k
  rw [St.get_newTok, St.get_dropTok]
  rcases hj with rfl | rfl
  ·exact h.disj j ha
  ·exact h.noGet
 ·intro b ho _
  rcases ho with ⟨sz, xs, bs, sz', tot1, k1, _⟩ | ⟨kt, et, es, k1, _⟩ | ⟨k1, _⟩
  ·rw [St.get_newTok, St.get_dropTok, h.disj t ha] at k1; cases k1
  ·rw [St.get_newTok, St.get_dropTok, h.disj t ha] at k1; cases k1
  ·rw [St.alive_newTok, St.alive_dropTok] at k1
   simp [Ne.symm hne] at k1
end
end Go.Abs
