import GoSem.Dispatch
import GoSem.Step
set_option linter.unusedVariables false
set_option linter.unusedSimpArgs false
namespace Ax
open Go
inductive AV where
  | undef
  | bool (b : Bool)
  | int (k : IntKind) (n : Int)
  | str (s : ByteArray)
  | agg (cs : List AV)
  | tup (vs : List AV)
  | vec (sz n : Nat) (g : Nat → AV)
  | wide (sz n m : Nat) (g : Nat → AV)
  | own (v : AV)
  | uni (v : AV)
  | cptr (v : AV)
  | ptr (id off : Nat)
  | eptr (id sz i off : Nat)
  | nilptr
  | row (id sz lo len : Nat)
  | brow (id sz n : Nat)
  | nils (sz : Nat) (g : Nat → AV)
  | rvec (vs : List AV)
  | mapr (id : Nat)
  | nilmap
  | fn (f : FuncId) (first caps : List AV)
  | nilfn
  | iter (id : Nat)
  | stamp (id pos : Nat)
  | iface (t : TypeId) (v : AV)
  | nilIface
instance : Inhabited AV := ⟨.undef⟩
mutual
def AV.strip : AV → AV
  | .own v => v.strip
  | .uni _ => .undef
  | .agg cs => .agg (AV.stripL cs)
  | .tup vs => .tup (AV.stripL vs)
  | .undef => .undef
  | .bool b => .bool b
  | .int k n => .int k n
  | .str s => .str s
  | .vec sz n g => .vec sz n g
  | .wide sz n m g => .wide sz n m g
  | .cptr v => .cptr v
  | .ptr id off => .ptr id off
  | .eptr id sz i off => .eptr id sz i off
  | .nilptr => .nilptr
  | .row id sz lo len => .row id sz lo len
  | .brow id sz n => .brow id sz n
  | .nils sz g => .vec sz 0 g
  | .rvec vs => .rvec vs
  | .mapr id => .mapr id
  | .nilmap => .nilmap
  | .fn f first caps => .fn f (AV.stripL first) (AV.stripL caps)
  | .nilfn => .nilfn
  | .iter id => .iter id
  | .stamp id pos => .stamp id pos
  | .iface t v => .iface t v
  | .nilIface => .nilIface
def AV.stripL : List AV → List AV
  | [] => []
  | v :: r => v.strip :: AV.stripL r
end
mutual
def AV.isData : AV → Bool
  | .undef => true
  | .bool _ => true
  | .int _ _ => true
  | .str _ => true
  | .agg cs => AV.isDataL cs
  | .tup vs => AV.isDataL vs
  | .vec _ _ _ => true
  | .wide _ _ _ _ => true
  | .own v => v.isData
  | .uni v => v.isData
  | .cptr v => v.isData
  | .nilptr => true
  | .nilmap => true
  | .fn _ first caps => AV.isDataL first && AV.isDataL caps
  | .nilfn => true
  | .iface _ v => v.isData
  | .nilIface => true
  | .ptr _ _ => false
  | .eptr _ _ _ _ => false
  | .row _ _ _ _ => false
  | .brow _ _ _ => false
  | .nils _ _ => true
  | .rvec _ => false
  | .mapr _ => false
  | .iter _ => false
  | .stamp _ _ => false
def AV.isDataL : List AV → Bool
  | [] => true
  | v :: r => v.isData && AV.isDataL r
end
def AV.cells : AV → List AV
  | .agg cs => cs
  | v => [v]
def tyD (P : Program) (t : TypeId) : TypeDesc := (P.underlying t).getD .invalid
def tySz (P : Program) (t : TypeId) : Nat := ((P.info? t).map (·.size)).getD 0
def tyBy (P : Program) (t : TypeId) : Nat := ((P.info? t).map (·.bytes)).getD 0
def tyAgg (P : Program) (t : TypeId) : Bool :=
  match tyD P t with
  | .struct _ => true
  | .array _ _ => true
  | _ => false
def tyData (P : Program) : Nat → TypeId → Bool
  | 0, _ => false
  | d + 1, t =>
    match tyD P t with
    | .int _ => true
    | .bool => true
    | .string => true
    | .struct fs => fs.toList.all fun f => tyData P d f.type
    | .array _ e => tyData P d e
    | .slice e => tyData P d e
    | _ => false
def tyCells (P : Program) : Nat → TypeId → List TypeId
  | 0, _ => []
  | d + 1, t =>
    match tyD P t with
    | .struct fs => fs.toList.flatMap fun f => tyCells P d f.type
    | .array n e => (List.replicate n (tyCells P d e)).flatten
    | _ => [t]
def depth0 : Nat := 12
def zeroCell (P : Program) : Nat → TypeId → AV
  | 0, _ => .undef
  | d + 1, t =>
    match tyD P t with
    | .int k => .int k 0
    | .bool => .bool false
    | .string => .str ⟨#[]⟩
    | .pointer _ => .nilptr
    | .slice e => bif tyData P depth0 e then .own (.vec (tySz P e) 0 fun _ =>
        bif tyAgg P e then .agg ((tyCells P depth0 e).map fun u => (zeroCell P d u).strip) else (zeroCell P d e).strip) else .rvec []
    | .map _ _ => .nilmap
    | .func _ _ _ => .nilfn
    | .interface _ => .nilIface
    | _ => .undef
def ofConst1 (P : Program) (t : TypeId) : Value → AV
  | .bool b => .bool b
  | .int k n => .int k n
  | .string s => .str s
  | .pointer none => .nilptr
  | .slice none 0 0 => (match tyD P t with | .slice _ => zeroCell P depth0 t | _ => .rvec [])
  | .map none => .nilmap
  | .nilFunc => .nilfn
  | .nilIface => .nilIface
  | _ => .undef
def ofConstL (P : Program) : List TypeId → List Value → List AV
  | t :: ts, v :: vs => ofConst1 P t v :: ofConstL P ts vs
  | _, _ => []
def ofConst (P : Program) (t : TypeId) : Value → AV
  | .agg vs => bif Nat.beq (tyCells P depth0 t).length vs.size then .agg (ofConstL P (tyCells P depth0 t) vs.toList) else .undef
  | v => ofConst1 P t v
def zeroAV (P : Program) (t : TypeId) : AV :=
  match P.info? t with
  | some i =>
    match i.zero with
    | some z => ofConst P t z
    | none => .undef
  | none => .undef
def zeroElem (P : Program) (e : TypeId) : AV := (zeroAV P e).strip
def AV.scal : AV → Bool
  | .undef => false
  | .uni v => (match v with | .vec _ _ _ => true | .wide _ _ _ _ => true | _ => false)
  | .agg _ => false
  | .tup _ => false
  | .own v => (match v with | .vec _ _ _ => true | _ => false)
  | _ => true
abbrev Env := List (Nat × AV)
def Env.get : Env → Nat → AV
  | [], _ => .undef
  | (s, v) :: r, t => bif Nat.beq s t then v else Env.get r t
def Env.set : Env → Nat → AV → Env
  | [], t, v => [(t, v)]
  | (s, w) :: r, t, v => bif Nat.beq s t then (t, v) :: r else bif Nat.ble t s then (t, v) :: (s, w) :: r else (s, w) :: Env.set r t v
def Env.bare : Env → Nat → Env
  | [], _ => []
  | (s, v) :: r, t => bif Nat.beq s t then (s, v.strip) :: r else (s, v) :: Env.bare r t
inductive AObj where
  | cells (cs : List AV)
  | arr (sz n : Nat) (g : Nat → AV)
  | oarr (sz n : Nat) (g : Nat → AV)
  | map (kt : TypeId) (ow : Bool) (ents : List (AV × AV))
  | iter (of : Option Nat) (left cur : List (AV × AV))
  | dead
abbrev Heap := List AObj
def Heap.set : Heap → Nat → AObj → Heap
  | [], _, _ => []
  | _ :: r, 0, o => o :: r
  | x :: r, n + 1, o => x :: Heap.set r n o
def Heap.get : Heap → Nat → AObj
  | [], _ => .dead
  | x :: _, 0 => x
  | _ :: r, n + 1 => Heap.get r n
structure St where
  env : Env
  heap : Heap
  defers : List (AV × List AV)
  bor : Option (Nat × AV)
def evo (P : Program) (t : TypeId) (env : Env) : Operand → AV
  | .tmp s => env.get s
  | .const v => ofConst P t v
  | .func f => .fn f [] []
  | .global _ => .undef
def oneAV : Option AV → Option AV
  | some (.agg _) => none
  | r => r
def partAV (P : Program) (t : TypeId) (cs : List AV) (off : Nat) : Option AV :=
  bif tyAgg P t then
    (bif Nat.ble (off + tySz P t) cs.length then some (.agg ((cs.drop off).take (tySz P t))) else none)
  else bif (P.underlying t).isSome && Nat.beq (tySz P t) 1 then oneAV cs[off]? else none
def eqFsWith (P : Program) (E : TypeId → AV → AV → Option Bool) (xs ys : List AV) : List Field → Option Bool
  | [] => some true
  | f :: r =>
    bif f.name == "_" then none else
    match partAV P f.type xs f.offset, partAV P f.type ys f.offset with
    | some a, some b =>
      match E f.type a b with
      | some c => (eqFsWith P E xs ys r).map fun d => c && d
      | none => none
    | _, _ => none
def eqT (P : Program) : Nat → TypeId → AV → AV → Option Bool
  | 0, _, _, _ => none
  | d + 1, t, x, y =>
    match tyD P t, x, y with
    | .int k0, .int k a, .int k' b => bif decide (k = k0) && decide (k' = k0) then some (decide (a = b)) else none
    | .bool, .bool a, .bool b => some (a == b)
    | .string, .str a, .str b => some (decide (a = b))
    | .struct fs, .agg xs, .agg ys => bif P.stoodInHeld t then none else eqFsWith P (eqT P d) xs ys fs.toList
    | _, _, _ => none
def eqAV (P : Program) (t : TypeId) : AV → AV → Option Bool
  | .agg xs, .agg ys => bif P.eqGuardType P.depth t then none else eqT P depth0 t (.agg xs) (.agg ys)
  | .bool a, .bool b => eqT P depth0 t (.bool a) (.bool b)
  | .nilptr, .nilptr => (match tyD P t with | .pointer _ => some true | _ => none)
  | .nilptr, .ptr _ _ => (match tyD P t with | .pointer _ => some false | _ => none)
  | .ptr _ _, .nilptr => (match tyD P t with | .pointer _ => some false | _ => none)
  | .nilptr, .cptr _ => (match tyD P t with | .pointer _ => some false | _ => none)
  | .cptr _, .nilptr => (match tyD P t with | .pointer _ => some false | _ => none)
  | .nilmap, .nilmap => (match tyD P t with | .map _ _ => some true | _ => none)
  | .nilmap, .mapr _ => (match tyD P t with | .map _ _ => some false | _ => none)
  | .mapr _, .nilmap => (match tyD P t with | .map _ _ => some false | _ => none)
  | .nilfn, .nilfn => (match tyD P t with | .func _ _ _ => some true | _ => none)
  | .nilfn, .fn _ _ _ => (match tyD P t with | .func _ _ _ => some false | _ => none)
  | .fn _ _ _, .nilfn => (match tyD P t with | .func _ _ _ => some false | _ => none)
  | _, _ => none
def intOp (op : BinOp) (k : IntKind) (x y : Int) : Option AV :=
  match op with
  | .add => some (.int k (k.wrap (x + y)))
  | .sub => some (.int k (k.wrap (x - y)))
  | .mul => some (.int k (k.wrap (x * y)))
  | .quo => bif decide (y = 0) then none else some (.int k (k.wrap (x.tdiv y)))
  | .rem => bif decide (y = 0) then none else some (.int k (x.tmod y))
  | .and => some (.int k (k.wrap (BitVec.ofInt k.bits x &&& BitVec.ofInt k.bits y).toNat))
  | .or => some (.int k (k.wrap (BitVec.ofInt k.bits x ||| BitVec.ofInt k.bits y).toNat))
  | .xor => some (.int k (k.wrap (BitVec.ofInt k.bits x ^^^ BitVec.ofInt k.bits y).toNat))
  | .andNot => some (.int k (k.wrap (BitVec.ofInt k.bits x &&& ~~~ BitVec.ofInt k.bits y).toNat))
  | .eql => some (.bool (decide (x = y)))
  | .neq => some (.bool (!decide (x = y)))
  | .lss => some (.bool (decide (x < y)))
  | .leq => some (.bool (decide (x ≤ y)))
  | .gtr => some (.bool (decide (y < x)))
  | .geq => some (.bool (decide (y ≤ x)))
  | _ => none
def strLt (x y : ByteArray) : Bool := Op.bytesLess x.toList y.toList
def strOp (op : BinOp) (x y : ByteArray) : Option AV :=
  match op with
  | .add => bif decide (x.size + y.size ≤ 4611686018427387904) then some (.str (x ++ y)) else none
  | .eql => some (.bool (decide (x = y)))
  | .neq => some (.bool (!decide (x = y)))
  | .lss => some (.bool (strLt x y))
  | .leq => some (.bool (strLt x y || decide (x = y)))
  | .gtr => some (.bool (!(strLt x y || decide (x = y))))
  | .geq => some (.bool (!strLt x y))
  | _ => none
def binAV (P : Program) (op : BinOp) (t : TypeId) : AV → AV → Option AV
  | .int k x, .int k' y =>
    match op with
    | .shl => bif decide (y < 0) then none else some (.int k (k.wrap (x * 2 ^ (min y.toNat k.bits))))
    | .shr => bif decide (y < 0) then none else some (.int k (x.fdiv (2 ^ (min y.toNat k.bits))))
    | _ => bif decide (k = k') then intOp op k x y else none
  | .str x, .str y => strOp op x y
  | x, y =>
    match op with
    | .eql => (eqAV P t x y).map .bool
    | .neq => (eqAV P t x y).map fun b => .bool !b
    | _ => none
def unAV (op : UnOp) : AV → Option AV
  | .int k n =>
    match op with
    | .neg => some (.int k (k.wrap (0 - n)))
    | .xor => some (.int k (k.wrap (BitVec.ofInt k.bits (if k.signed then -1 else k.max) ^^^ BitVec.ofInt k.bits n).toNat))
    | _ => none
  | .bool b =>
    match op with
    | .not => some (.bool !b)
    | _ => none
  | _ => none
def pickAV (b : Bool) : AV → AV → AV
  | .bool x, .bool y => .bool (bif b then x else y)
  | x, y => bif b then x else y
def wordB (s : ByteArray) (i : Nat) : AV := .int .u8 ((s.data.getD i 0).toNat : Int)
def isByte : AV → Bool
  | .int .u8 _ => true
  | _ => false
def byteV : AV → Int
  | .int _ n => n
  | _ => 0
def bytesV (n : Nat) (g : Nat → AV) : ByteArray := ((List.range n).map fun i => byteV (g i)).foldl (fun r n => r.push (UInt8.ofNat n.toNat)) ByteArray.empty
def convAV (P : Program) (src dst : TypeId) (x : AV) : Option AV :=
  match tyD P src, tyD P dst, x with
  | _, .int k, .int _ n => some (.int k (k.wrap n))
  | _, .string, .str s => some (.str s)
  | .slice e, .string, .vec sz n g =>
    match tyD P e with
    | .int .u8 => bif Nat.beq sz 1 && (List.range n).all fun i => isByte (g i) then some (.str (bytesV n g)) else none
    | _ => none
  | _, _, _ => none
def intNat : AV → Option Int
  | .int _ n => some n
  | _ => none
def inRange (i : Int) (n : Nat) : Bool := decide (0 ≤ i ∧ i < (n : Int))
def vlist (z : AV) (l : List AV) (i : Nat) : AV := l.getD i z
def readCells (h : Heap) : AV → Option (List AV × Nat)
  | .cptr v => some (v.cells, 0)
  | .ptr id off =>
    match h.get id with
    | .cells cs => some (cs, off)
    | _ => none
  | .eptr id sz i off =>
    match h.get id with
    | .arr sz' n g => bif Nat.beq sz sz' && Nat.blt i n then some ((g i).cells, off) else none
    | .oarr sz' n g => bif Nat.beq sz sz' && Nat.blt i n then some ((g i).cells, off) else none
    | _ => none
  | _ => none
def loadAV (P : Program) (h : Heap) (t : TypeId) (p : AV) : Option AV :=
  match readCells h p with
  | some (cs, off) => partAV P t cs off
  | none => none
def setRange : List AV → Nat → List AV → List AV
  | cs, _, [] => cs
  | cs, off, v :: r => setRange (cs.set off v) (off + 1) r
def setElem (old : AV) (off sz : Nat) (v : AV) : AV :=
  match old with
  | .agg cs => bif Nat.beq off 0 && Nat.beq v.cells.length sz then (match v with | .agg _ => v | _ => .agg (setRange cs off v.cells)) else .agg (setRange cs off v.cells)
  | _ => v
def upd (g : Nat → AV) (i : Nat) (v : AV) : Nat → AV := fun j => bif Nat.beq j i then v else g j
def storeArr (h : Heap) (id sz i off : Nat) (v : AV) : Option Heap :=
  match h.get id with
  | .arr sz' n g => bif Nat.beq sz sz' && Nat.blt i n && Nat.ble (off + v.cells.length) sz && v.isData then some (h.set id (.arr sz n (upd g i (setElem (g i) off sz v.strip)))) else none
  | .oarr sz' n g => bif Nat.beq sz sz' && Nat.blt i n && Nat.ble (off + v.cells.length) sz && v.isData then some (h.set id (.oarr sz n (upd g i (setElem (g i) off sz v)))) else none
  | _ => none
def storeAV (P : Program) (h : Heap) (t : TypeId) (p v : AV) : Option Heap :=
  bif !(Nat.beq v.cells.length (tySz P t)) || !(v.cells.all AV.scal) then none else
  match p with
  | .ptr id off =>
    match h.get id with
    | .cells cs => bif Nat.ble (off + tySz P t) cs.length then some (h.set id (.cells (setRange cs off v.cells))) else none
    | _ => none
  | .eptr id sz i off => storeArr h id sz i off v
  | _ => none
def fieldOf (P : Program) (s : TypeId) (f : Nat) : Option (TypeId × Nat) :=
  match tyD P s with
  | .struct fs => (fs[f]?).map fun x => (x.type, x.offset)
  | _ => none
def fieldAddrAV (P : Program) (s : TypeId) (p : AV) (f : Nat) : Option AV :=
  match fieldOf P s f with
  | some (t, off) =>
    bif Nat.beq (tySz P t) 0 then none else
    match p with
    | .cptr v => (partAV P t v.cells off).map .cptr
    | .ptr id o => some (.ptr id (o + off))
    | .eptr id sz i o => some (.eptr id sz i (o + off))
    | _ => none
  | none => none
def indexAddrAV (P : Program) (t : TypeId) (x : AV) (i : Int) : Option AV :=
  match tyD P t, x with
  | .slice e, .vec sz n g => bif Nat.beq sz (tySz P e) then (bif inRange i n then some (.cptr (g i.toNat)) else none) else none
  | .slice e, .own (.vec sz n g) => bif Nat.beq sz (tySz P e) then (bif inRange i n then some (.cptr (g i.toNat)) else none) else none
  | .slice e, .wide sz n _ g => bif Nat.beq sz (tySz P e) then (bif inRange i n then some (.cptr (g i.toNat)) else none) else none
  | .slice e, .row id sz lo n => bif Nat.beq sz (tySz P e) then (bif inRange i n then (bif Nat.blt 0 sz then some (.eptr id sz (lo + i.toNat) 0) else none) else none) else none
  | .slice e, .brow id sz n => bif Nat.beq sz (tySz P e) then (bif inRange i n then (bif Nat.blt 0 sz then some (.eptr id sz i.toNat 0) else none) else none) else none
  | .slice e, .rvec vs => bif inRange i vs.length then (bif Nat.beq (tySz P e) 1 then (vs[i.toNat]?).map .cptr else none) else none
  | .array n e, .ptr id off => bif Nat.ble n 1 then none else (bif inRange i n then (bif Nat.blt 0 (tySz P e) then some (.ptr id (off + i.toNat * tySz P e)) else none) else none)
  | _, _ => none
def indexAV (P : Program) (t : TypeId) (x : AV) (i : Int) : Option AV :=
  match tyD P t, x with
  | .array n e, .agg cs => bif inRange i n then (bif Nat.blt 0 (tySz P e) then partAV P e cs (i.toNat * tySz P e) else none) else none
  | .string, .str s => bif inRange i s.size then some (wordB s i.toNat) else none
  | _, _ => none
def vsub (z : AV) (g : Nat → AV) (lo n : Nat) : Nat → AV := fun j => bif Nat.blt j n then g (lo + j) else z
def boundOf (d : Nat) : Option AV → Option Nat
  | none => some d
  | some (.int _ i) => bif decide (0 ≤ i) then some i.toNat else none
  | some _ => none
def AV.isOwn : AV → Bool
  | .own _ => true
  | _ => false
def sliceAV (P : Program) (t : TypeId) (x : AV) (lo hi mx : Option AV) : Option AV :=
  match tyD P t, x.strip with
  | .string, .str s =>
    match mx, boundOf 0 lo, boundOf s.size hi with
    | none, some l, some h => bif Nat.ble l h && Nat.ble h s.size then some (.str (s.extract l h)) else none
    | _, _, _ => none
  | .slice e, .vec sz n g =>
    match boundOf 0 lo, boundOf n hi with
    | some l, some h =>
      bif Nat.ble l h && Nat.ble h n then
        bif Nat.beq sz (tySz P e) && Nat.blt 0 sz then
        match mx with
        | none => some (bif x.isOwn then .wide sz (h - l) (n - l) (vsub (zeroElem P e) g l (n - l)) else .vec sz (h - l) (vsub (zeroElem P e) g l (h - l)))
        | some m =>
          match boundOf 0 (some m) with
          | some m =>
            match hi with
            | some _ => bif Nat.beq m h then some (.own (.vec sz (h - l) (vsub (zeroElem P e) g l (h - l)))) else none
            | none => none
          | none => none
        else none
      else none
    | _, _ => none
  | .slice e, .wide sz n m g =>
    match mx, boundOf 0 lo, boundOf n hi with
    | none, some l, some h => bif Nat.ble l h && Nat.ble h m then (bif Nat.beq sz (tySz P e) && Nat.blt 0 sz then some (.vec sz (h - l) (vsub (zeroElem P e) g l (h - l))) else none) else none
    | _, _, _ => none
  | .slice e, .row id sz l0 n =>
    match mx, boundOf 0 lo, boundOf n hi with
    | none, some l, some h => bif Nat.ble l h && Nat.ble h n then (bif Nat.beq sz (tySz P e) && Nat.blt 0 sz then some (.row id sz (l0 + l) (h - l)) else none) else none
    | _, _, _ => none
  | _, _ => none
def hasZero (P : Program) (e : TypeId) : Bool := match P.info? e with | some i => i.zero.isSome | none => false
def eqKey (P : Program) (kt : TypeId) (a b : AV) : Bool := (eqT P depth0 kt a b).getD false
def scalarT (P : Program) (t : TypeId) : Bool :=
  match tyD P t with
  | .int _ => true
  | .bool => true
  | .string => true
  | _ => false
def flatFields (P : Program) : Nat → List Field → Bool
  | _, [] => true
  | i, f :: r => Nat.beq f.offset i && scalarT P f.type && flatFields P (i + 1) r
def keyShape (P : Program) (kt : TypeId) (k : AV) : Bool :=
  match tyD P kt, k with
  | .struct fs, .agg cs => flatFields P 0 fs.toList && Nat.beq cs.length fs.toList.length
  | .int _, _ => true
  | .bool, _ => true
  | .string, _ => true
  | _, _ => false
def keyOk (P : Program) (kt : TypeId) (k : AV) : Bool := (eqT P depth0 kt k k).isSome && (k.isData && keyShape P kt k)
def mpos (P : Program) (kt : TypeId) : List (AV × AV) → AV → Option Nat
  | [], _ => none
  | (k, _) :: r, q => bif eqKey P kt q k then some 0 else (mpos P kt r q).map (· + 1)
def mval (z : AV) : List (AV × AV) → Nat → AV
  | [], _ => z
  | (_, v) :: _, 0 => v
  | _ :: r, n + 1 => mval z r n
def msetAt : List (AV × AV) → Nat → AV → List (AV × AV)
  | [], _, _ => []
  | (k, _) :: r, 0, x => (k, x) :: r
  | p :: r, n + 1, x => p :: msetAt r n x
def noIter (id : Nat) : Heap → Bool
  | [] => true
  | .iter (some o) _ _ :: r => !(Nat.beq o id) && noIter id r
  | _ :: r => noIter id r
def lookAV (P : Program) (t : TypeId) (h : Heap) (m q : AV) (ok : Bool) : Option AV :=
  match tyD P t, m with
  | .map kt e, .nilmap => bif keyOk P kt q && hasZero P e then some (bif ok then .tup [zeroElem P e, .bool false] else zeroElem P e) else none
  | .map kt e, .mapr id =>
    match h.get id with
    | .map kt' _ ents =>
      bif Nat.beq kt kt' && keyOk P kt q && hasZero P e then
        match mpos P kt ents q with
        | some i => some (bif ok then .tup [(mval .undef ents i).strip, .bool true] else (mval .undef ents i).strip)
        | none => some (bif ok then .tup [zeroElem P e, .bool false] else zeroElem P e)
      else none
    | _ => none
  | _, _ => none
def lookTakeAV (P : Program) (t : TypeId) (h : Heap) (m q : AV) : Option (AV × Heap) :=
  match tyD P t, m with
  | .map kt e, .mapr id =>
    match h.get id with
    | .map kt' reg ents =>
      bif Nat.beq kt kt' && keyOk P kt q && noIter id h && hasZero P e then
        match mpos P kt ents q with
        | some i => some (mval .undef ents i, h.set id (.map kt reg (msetAt ents i (mval .undef ents i).strip)))
        | none => some (zeroAV P e, h)
      else none
    | _ => none
  | _, _ => none
def mapSetAV (P : Program) (t : TypeId) (h : Heap) (m q x : AV) : Option Heap :=
  match tyD P t, m with
  | .map kt _, .mapr id =>
    match h.get id with
    | .map kt' reg ents =>
      bif Nat.beq kt kt' && keyOk P kt q && x.isData && noIter id h then
        match mpos P kt ents q with
        | some i => some (h.set id (.map kt reg (msetAt ents i x)))
        | none => some (h.set id (.map kt reg (ents ++ [(q, x)])))
      else none
    | _ => none
  | _, _ => none
def mapEntryAV (P : Program) (t : TypeId) (h : Heap) (m q : AV) : Option (AV × Heap) :=
  match tyD P t, m with
  | .map kt e, .mapr id =>
    match h.get id with
    | .map kt' reg ents =>
      bif Nat.beq kt kt' && reg && keyOk P kt q && noIter id h && hasZero P e && (zeroAV P e).isData then
        match mpos P kt ents q with
        | some i => some (.tup [mval .undef ents i, .int .i64 (i : Int)], h.set id (.map kt true (msetAt ents i (mval .undef ents i).strip)))
        | none => some (.tup [zeroAV P e, .int .i64 (ents.length : Int)], h.set id (.map kt true (ents ++ [(q, (zeroAV P e).strip)])))
      else none
    | _ => none
  | _, _ => none
def entryStoreAV (h : Heap) (m s x : AV) : Option Heap :=
  match m, s with
  | .mapr id, .int _ n =>
    match h.get id with
    | .map kt reg ents => bif reg && inRange n ents.length && x.isData && noIter id h then some (h.set id (.map kt true (msetAt ents n.toNat x))) else none
    | _ => none
  | _, _ => none
def mapDelAV (P : Program) (t : TypeId) (h : Heap) (m q : AV) : Option Heap :=
  match tyD P t, m with
  | .map kt _, .nilmap => bif keyOk P kt q then some h else none
  | .map kt _, .mapr id =>
    match h.get id with
    | .map kt' _ ents =>
      bif Nat.beq kt kt' && keyOk P kt q && noIter id h then
        match mpos P kt ents q with
        | some i => some (h.set id (.map kt false (ents.eraseIdx i)))
        | none => some h
      else none
    | _ => none
  | _, _ => none
def rangeAV (P : Program) (t : TypeId) (h : Heap) (x : AV) : Option AObj :=
  match tyD P t, x with
  | .map _ _, .nilmap => some (.iter none [] [])
  | .map _ _, .mapr id =>
    match h.get id with
    | .map _ _ ents => some (.iter (some id) ents [])
    | _ => none
  | _, _ => none
def curAt (l : List (AV × AV)) (j : Nat) : List (AV × AV) := [l.getD j (.undef, .undef)]
def leftAt (l : List (AV × AV)) (j : Nat) : AV := .tup [.bool true, (l.getD j (.undef, .undef)).1.strip, (l.getD j (.undef, .undef)).2.strip]
def splice (g : Nat → AV) (lo k : Nat) (g' : Nat → AV) : Nat → AV := fun j => bif Nat.ble lo j && Nat.blt j (lo + k) then g' (j - lo) else g j
mutual
def AV.has (id : Nat) : AV → Bool
  | .own v => v.has id
  | .uni v => v.has id
  | .agg cs => AV.hasL id cs
  | .tup vs => AV.hasL id vs
  | .cptr v => v.has id
  | .ptr j _ => Nat.beq j id
  | .eptr j _ _ _ => Nat.beq j id
  | .row j _ _ _ => Nat.beq j id
  | .brow j _ _ => Nat.beq j id
  | .rvec vs => AV.hasL id vs
  | .mapr j => Nat.beq j id
  | .fn _ first caps => AV.hasL id first || AV.hasL id caps
  | .iter j => Nat.beq j id
  | .stamp j _ => Nat.beq j id
  | .iface _ v => v.has id
  | .undef => false
  | .bool _ => false
  | .int _ _ => false
  | .str _ => false
  | .vec _ _ _ => false
  | .wide _ _ _ _ => false
  | .nils _ _ => false
  | .nilptr => false
  | .nilmap => false
  | .nilfn => false
  | .nilIface => false
def AV.hasL (id : Nat) : List AV → Bool
  | [] => false
  | v :: r => v.has id || AV.hasL id r
end
def Env.scrub (id : Nat) : Env → Env
  | [] => []
  | (t, v) :: r => (t, bif v.has id then .undef else v) :: Env.scrub id r
def noRef (id : Nat) : Heap → Bool
  | [] => true
  | .cells cs :: r => !AV.hasL id cs && noRef id r
  | _ :: r => noRef id r
def AObj.isO : AObj → Bool
  | .oarr _ _ _ => true
  | _ => false
def noO : Heap → Bool
  | [] => true
  | o :: r => !o.isO && noO r
def AV.one : AV → AV
  | .agg _ => .undef
  | v => v
def AV.stripC : AV → AV
  | .nils sz g => .nils sz g
  | v => v.strip.one
def AV.stripCL : List AV → List AV
  | [] => []
  | v :: r => v.stripC :: AV.stripCL r
def AV.strip1 : AV → AV
  | .agg cs => .agg (AV.stripCL cs)
  | v => v.stripC
def AV.unnil : AV → AV
  | .nils sz g => .own (.vec sz 0 g)
  | v => v
inductive Ghost where
  | fresh (s : Nat)
  | share (s : Nat)
  | adopt (s : Nat)
  | freeze (s : Nat)
  | adoptC (s : Nat)
  | adoptO (s : Nat)
  | shutC (s : Nat)
  | shutP (s : Nat)
  | freezeC (s : Nat)
  | openC (s : Nat)
def cellsV : List AV → AV
  | [c] => c.strip
  | cs => .agg (AV.stripL cs)
def ghost1 (env : Env) (heap : Heap) : Ghost → Option (Env × Heap)
  | .fresh s =>
    match env.get s with
    | .own (.vec sz 0 g) => some (env.set s (.uni (.vec sz 0 g)), heap)
    | .uni _ => some (env, heap)
    | _ => none
  | .share s =>
    match env.get s with
    | .uni (.vec sz n g) => some (env.set s (.own (.vec sz n g)), heap)
    | .own _ => some (env, heap)
    | _ => none
  | .adopt s =>
    match env.get s with
    | .uni (.vec sz n g) => some (env.set s (.row heap.length sz 0 n), heap ++ [.arr sz n g])
    | .uni (.wide sz n _ g) => some (env.set s (.row heap.length sz 0 n), heap ++ [.arr sz n g])
    | _ => none
  | .freeze s =>
    match env.get s with
    | .row id sz lo n =>
      match heap.get id with
      | .arr sz' n' g => bif Nat.beq sz sz' && Nat.ble (lo + n) n' then some (env.set s (.vec sz n (fun j => g (lo + j))), heap.set id .dead) else none
      | _ => none
    | .brow id sz n =>
      match heap.get id with
      | .oarr sz' n' g => bif Nat.beq sz sz' && Nat.beq n n' then some (env.set s (.vec sz n (fun j => (g j).strip1)), heap.set id .dead) else none
      | _ => none
    | _ => none
  | .shutP s =>
    match env.get s with
    | .ptr id 0 =>
      match heap.get id with
      | .cells cs => bif AV.isDataL cs && cs.all AV.scal && Nat.blt 0 cs.length then some (env.set s (.cptr (cellsV cs)), heap.set id .dead) else none
      | _ => none
    | _ => none
  | .freezeC s =>
    match env.get s with
    | .ptr id off =>
      match heap.get id with
      | .cells cs =>
        match cs[off]? with
        | some (.row id2 sz lo n) =>
          match heap.get id2 with
          | .arr sz' n' g => bif Nat.beq sz sz' && Nat.ble (lo + n) n' then some (env, (heap.set id2 .dead).set id (.cells (setRange cs off [.vec sz n (fun j => g (lo + j))]))) else none
          | _ => none
        | some (.vec _ _ _) => some (env, heap)
        | _ => none
      | _ => none
    | _ => none
  | .openC s =>
    match env.get s with
    | .ptr id off =>
      match heap.get id with
      | .cells cs => some (env, heap.set id (.cells (cs.map AV.unnil)))
      | _ => none
    | _ => none
  | .shutC s =>
    match env.get s with
    | .fn f first [.ptr id 0] =>
      match heap.get id with
      | .cells cs => bif AV.isDataL cs && cs.all AV.scal && Nat.blt 0 cs.length then some (env.set s (.fn f first [.cptr (cellsV cs)]), heap.set id .dead) else none
      | _ => none
    | _ => none
  | .adoptO s =>
    match env.get s with
    | .own (.vec sz 0 g) => bif Nat.blt 0 sz then some (env.set s (.brow heap.length sz 0), heap ++ [.oarr sz 0 g]) else none
    | .brow _ _ _ => some (env, heap)
    | _ => none
  | .adoptC s =>
    match env.get s with
    | .ptr id off =>
      match heap.get id with
      | .cells cs =>
        match cs[off]? with
        | some (.uni (.vec sz n g)) => some (env, Heap.set (Heap.set heap id (.cells (setRange cs off [(AV.uni (.vec sz n g)).strip])) ++ [.arr sz n g]) id (.cells (setRange (setRange cs off [(AV.uni (.vec sz n g)).strip]) off [.row heap.length sz 0 n])))
        | some (.row _ _ _ _) => some (env, heap)
        | _ => none
      | _ => none
    | _ => none
def ghosts : List Ghost → Env → Heap → Option (Env × Heap)
  | [], env, heap => some (env, heap)
  | g :: r, env, heap =>
    match ghost1 env heap g with
    | some (env, heap) => ghosts r env heap
    | none => none
end Ax

namespace Ax
open Go
inductive Ex where
  | normal
  | exit (id : Nat)
  | ret
structure Rec (R : Type) where
  fail : R
  all : (n : Nat) → (Nat → R) → R
  call : FuncId → List AV → (AV → R) → R
  loop : Nat → FuncId → Nat → Code → St → (Ex → St → R) → R
  sort : List AV → (AV → AV → (AV → R) → R) → (List AV → R) → R
  br : Bool → R → R → R
structure Ctx where
  P : Program
  inl : FuncId → Bool
  keep : FuncId → Nat → Option (List Nat)
  keepX : FuncId → Nat → Option (List Nat)
  xf : FuncId → Nat → Nat → Bool
  ow : FuncId → Bool
  gh : FuncId → Nat → List Ghost
  gf : FuncId → List Ghost
  ln : FuncId → Bool
  srt : FuncId → Nat
  gl : FuncId → Nat → List Ghost := fun _ _ => []
def evoL (P : Program) (env : Env) : List TypeId → List Operand → List AV
  | t :: ts, x :: xs => (evo P t env x).strip :: evoL P env ts xs
  | [], x :: xs => (evo P 0 env x).strip :: evoL P env [] xs
  | _, [] => []
def lenAV (P : Program) (h : Heap) (t : TypeId) (x : AV) : Option AV :=
  match tyD P t, x.strip with
  | .string, .str s => some (.int .i64 s.size)
  | .array n _, _ => some (.int .i64 n)
  | .slice _, .vec _ n _ => some (.int .i64 n)
  | .slice _, .wide _ n _ _ => some (.int .i64 n)
  | .slice _, .row _ _ _ n => some (.int .i64 n)
  | .slice _, .brow _ _ n => some (.int .i64 n)
  | .slice _, .rvec vs => some (.int .i64 vs.length)
  | .map _ _, .nilmap => some (.int .i64 0)
  | .map _ _, .mapr id =>
    match h.get id with
    | .map _ _ ents => some (.int .i64 ents.length)
    | _ => none
  | _, _ => none
def min2 : AV → AV → Option AV
  | .int k x, .int k' y => bif decide (k = k') then some (.int k (if y < x then y else x)) else none
  | _, _ => none
def max2 : AV → AV → Option AV
  | .int k x, .int k' y => bif decide (k = k') then some (.int k (if x < y then y else x)) else none
  | _, _ => none
def foldAV (f : AV → AV → Option AV) : AV → List AV → Option AV
  | x, [] => some x
  | x, y :: r => match f x y with | some z => foldAV f z r | none => none
def fillParts (P : Program) (place : Nat → Option (Nat × TypeId)) : List AV → List (Nat × AV) → Option (List AV)
  | cs, [] => some cs
  | cs, (i, v) :: r =>
    match place i with
    | some (off, t) => bif Nat.beq v.cells.length (tySz P t) && Nat.ble (off + v.cells.length) cs.length && v.cells.all AV.scal then fillParts P place (setRange cs off v.cells) r else none
    | none => none
def placeOf (P : Program) (t : TypeId) (i : Nat) : Option (Nat × TypeId) :=
  match tyD P t with
  | .struct fs => (fs[i]?).map fun f => (f.offset, f.type)
  | .array _ e => some (i * tySz P e, e)
  | _ => none
def partsOf (P : Program) (t : TypeId) (env : Env) : List (Nat × Operand) → List (Nat × AV)
  | [] => []
  | (i, x) :: r => (i, (evo P (match placeOf P t i with | some (_, u) => u | none => 0) env x).strip) :: partsOf P t env r
def buildOk (P : Program) (t : TypeId) : Bool :=
  match tyD P t with
  | .struct fs => fs.toList.all fun f => (P.info? f.type).isSome
  | .array _ e => (P.info? e).isSome
  | _ => false
def elemOfT (P : Program) (t : TypeId) : TypeId := match tyD P t with | .slice e => e | _ => 0
def isNilC : Operand → Bool
  | .const (.slice none 0 0) => true
  | _ => false
def AV.asNil : AV → AV
  | .own (.vec sz 0 g) => .nils sz g
  | v => v.strip
def nilled (b : Bool) (v : AV) : AV := bif b then v.asNil else v.strip
def AV.asNilL : List AV → List AV
  | [] => []
  | v :: r => v.asNil :: AV.asNilL r
def AV.asNilA : AV → AV
  | .agg cs => .agg (AV.asNilL cs)
  | v => v.strip
def zeroN (P : Program) (t : TypeId) : AV := (zeroAV P t).asNilA
def AV.keepNil : AV → AV
  | .nils sz g => .nils sz g
  | v => v.strip
def AV.keepNilL : List AV → List AV
  | [] => []
  | v :: r => v.keepNil :: AV.keepNilL r
def AV.keepA : AV → AV
  | .agg cs => .agg (AV.keepNilL cs)
  | v => v.strip
def elemParts (P : Program) (e : TypeId) (env : Env) : List (Nat × Operand) → List (Nat × AV)
  | [] => []
  | (i, x) :: r => (i, nilled (isNilC x) (evo P e env x)) :: elemParts P e env r
def sameShape (P : Program) (e : TypeId) (v : AV) : Bool :=
  Nat.beq v.cells.length (tySz P e) && v.cells.all AV.scal && (match v with | .agg _ => tyAgg P e | _ => !tyAgg P e)
def inOrder : Nat → List (Nat × AV) → Bool
  | _, [] => true
  | k, (i, _) :: r => Nat.beq i k && inOrder (k + 1) r
def allShape (P : Program) (e : TypeId) : List AV → Bool
  | [] => true
  | v :: r => sameShape P e v && allShape P e r
def partVals : List (Nat × AV) → List AV
  | [] => []
  | (_, v) :: r => v :: partVals r
def isSliceT (P : Program) (t : TypeId) : Bool := match tyD P t with | .slice _ => true | _ => false
def buildSliceAV (P : Program) (t : TypeId) (len : Nat) (ps : List (Nat × AV)) : Option AV :=
  bif inOrder 0 ps && Nat.beq ps.length len && allShape P (elemOfT P t) (partVals ps) && Nat.ble (len * tySz P (elemOfT P t)) 16777216 && Nat.blt 0 (tySz P (elemOfT P t))
      && hasZero P (elemOfT P t) && isSliceT P t then
    bif AV.isDataL (partVals ps) then some (.own (.vec (tySz P (elemOfT P t)) len (vlist (zeroElem P (elemOfT P t)) (partVals ps))))
    else bif !tyAgg P (elemOfT P t) then some (.rvec (partVals ps)) else none
  else none
def evalOp (P : Program) (o : Oper) (env : Env) (h : Heap) : Option AV :=
  match o.op with
  | .pick c a b =>
    match evo P 0 env c with
    | .bool x => some (pickAV x (evo P o.type env a).strip (evo P o.type env b).strip)
    | _ => none
  | .build t parts =>
    bif buildOk P t && (zeroN P t).cells.all AV.scal then
      match fillParts P (placeOf P t) (zeroN P t).cells (partsOf P t env parts.toList) with
      | some cs => some (.agg (AV.keepNilL cs))
      | none => none
    else none
  | .buildSlice t len parts => buildSliceAV P t len (elemParts P (elemOfT P t) env parts.toList)
  | .binOp op t x y yt => binAV P op t (evo P t env x).strip (evo P yt env y).strip
  | .unOp op t x => unAV op (evo P t env x)
  | .convert s d x => bif (P.underlying s).isSome then convAV P s d (evo P s env x).strip else none
  | .nilCheck x =>
    match evo P 0 env x with
    | .ptr id off => some (.ptr id off)
    | .eptr id sz i off => some (.eptr id sz i off)
    | .cptr v => some (.cptr v)
    | .fn f first caps => some (.fn f first caps)
    | _ => none
  | .fieldAddr t x f => fieldAddrAV P t (evo P 0 env x) f
  | .field t x f =>
    match (evo P t env x).strip, fieldOf P t f with
    | .agg cs, some (u, off) => (partAV P u cs off).map AV.strip
    | _, _ => none
  | .indexAddr t x i =>
    match intNat (evo P 0 env i) with
    | some i => indexAddrAV P t (evo P t env x) i
    | none => none
  | .index t x i =>
    match intNat (evo P 0 env i) with
    | some i => (indexAV P t (evo P t env x).strip i).map AV.strip
    | none => none
  | .load t p => (loadAV P h t (evo P 0 env p)).map AV.strip
  | .extract x i =>
    match evo P 0 env x with
    | .tup vs => (vs[i]?).map AV.strip
    | _ => none
  | .makeFunc (.func f) first caps => some (.fn f (evoL P env [] first.toList) (evoL P env [] caps.toList))
  | .lookup t m k ok =>
    match tyD P t with
    | .map kt _ => lookAV P t h (evo P t env m).strip (evo P kt env k).strip ok
    | _ => none
  | .entry it =>
    match evo P 0 env it with
    | .iter id =>
      match h.get id with
      | .iter (some _) _ [p] => some (.tup [p.1.strip, p.2.strip])
      | _ => none
    | _ => none
  | .slice t x lo hi mx => sliceAV P t (evo P t env x) (lo.map (evo P 3 env)) (hi.map (evo P 3 env)) (mx.map (evo P 3 env))
  | .call { callee := .builtin .len, args, argTypes } =>
    match args.toList, argTypes.toList with
    | [x], [t] => lenAV P h t (evo P t env x)
    | _, _ => none
  | .call { callee := .builtin .min, args, .. } =>
    match evoL P env [] args.toList with
    | x :: y :: r => foldAV min2 x (y :: r)
    | _ => none
  | .call { callee := .builtin .max, args, .. } =>
    match evoL P env [] args.toList with
    | x :: y :: r => foldAV max2 x (y :: r)
    | _ => none
  | _ => none
def nilTest (P : Program) (op : BinOp) (t : TypeId) (x : AV) (y : Operand) : Option (Nat × Bool) :=
  match y with
  | .const (.slice none 0 0) =>
    match tyD P t with
    | .slice _ =>
      match op, x with
      | .eql, .vec _ n _ => some (n, false)
      | .neq, .vec _ n _ => some (n, true)
      | _, _ => none
    | _ => none
  | _ => none
def roomOK (n bytes : Nat) : Bool := Nat.ble ((n + (n + 768) / 4 + 512) * bytes) 281474976710656 && Nat.ble n 4611686018427387904
def vapp (z : AV) (g : Nat → AV) (n : Nat) (g' : Nat → AV) (m : Nat) : Nat → AV :=
  fun j => bif Nat.blt j n then g j else bif Nat.blt j (n + m) then g' (j - n) else z
def srcOf (P : Program) (e : TypeId) (h : Heap) : AV → Option (Nat × (Nat → AV))
  | .vec sz n g => bif Nat.beq sz (tySz P e) then some (n, g) else none
  | .own (.vec sz n g) => bif Nat.beq sz (tySz P e) then some (n, g) else none
  | .rvec [] => some (0, fun _ => .undef)
  | .row id sz lo n =>
    match h.get id with
    | .arr sz' n' g => bif Nat.beq sz sz' && Nat.beq sz (tySz P e) && Nat.ble (lo + n) n' then some (n, fun j => g (lo + j)) else none
    | _ => none
  | _ => none
def zeroFits (P : Program) (e : TypeId) : Bool := match P.info? e with | some i => (match i.zero with | some z => Nat.beq z.cells.size i.size | none => false) | none => false
def appendAV (P : Program) (t u : TypeId) (h : Heap) (b x : AV) : Option AV :=
  bif !isSliceT P u then none else
  match tyD P t with
  | .slice e =>
    match b, srcOf P e h x with
    | .own (.vec sz n g), some (m, g') =>
      bif Nat.beq sz (tySz P e) && Nat.blt 0 sz && zeroFits P e && Nat.blt 0 (tyBy P e) then
        bif roomOK (n + m) (tyBy P e) then some (.own (.vec sz (n + m) (vapp (zeroElem P e) g n g' m))) else none
      else none
    | .uni (.vec sz n g), some (m, g') =>
      bif Nat.beq sz (tySz P e) && Nat.blt 0 sz && zeroFits P e && Nat.blt 0 (tyBy P e) then
        bif roomOK (n + m) (tyBy P e) then some (.uni (.vec sz (n + m) (vapp (zeroElem P e) g n g' m))) else none
      else none
    | _, _ => none
  | _ => none
def tmpOp : Operand → Option Nat
  | .tmp s => some s
  | _ => none
def keyType (P : Program) (t : TypeId) : TypeId := match tyD P t with | .map kt _ => kt | _ => 0
def elemTypeM (P : Program) (t : TypeId) : TypeId := match tyD P t with | .map _ e => e | _ => 0
def makeSliceAV (P : Program) (t : TypeId) (l c : AV) : Option AV :=
  match tyD P t, l, c with
  | .slice e, .int .i64 n, .int .i64 m =>
    bif decide (0 ≤ n ∧ n ≤ m ∧ m ≤ 1099511627776) && Nat.ble (m.toNat * tyBy P e) 281474976710656 && Nat.blt 0 (tySz P e) && hasZero P e && (zeroAV P e).isData && (zeroAV P e).cells.all AV.scal && Nat.beq (zeroAV P e).cells.length (tySz P e) then
      some (.uni (.vec (tySz P e) n.toNat fun _ => zeroElem P e)) else none
  | _, _, _ => none
def copyAV (P : Program) (t u : TypeId) (h : Heap) (d x : AV) : Option (AV × Heap) :=
  match tyD P t with
  | .slice e =>
    match d, srcOf P e h x with
    | .row id sz lo n, some (m, g') =>
      match h.get id with
      | .arr sz' n' g => bif isSliceT P u && Nat.beq sz sz' && Nat.beq sz (tySz P e) && Nat.ble (lo + n) n' && Nat.blt 0 sz then some (.int .i64 ((min m n : Nat) : Int), h.set id (.arr sz n' (splice g lo (min m n) g'))) else none
      | _ => none
    | _, _ => none
  | _ => none
def clearAV (P : Program) (t : TypeId) (h : Heap) (d : AV) : Option Heap :=
  match tyD P t, d with
  | .slice e, .row id sz lo n =>
    match h.get id with
    | .arr sz' n' g => bif Nat.beq sz sz' && Nat.beq sz (tySz P e) && Nat.ble (lo + n) n' && Nat.blt 0 sz && hasZero P e && (zeroAV P e).isData && (zeroAV P e).cells.all AV.scal && Nat.beq (zeroAV P e).cells.length sz then some (h.set id (.arr sz n' (splice g lo n fun _ => zeroElem P e))) else none
    | _ => none
  | _, _ => none
def extOp (P : Program) (o : Oper) (env : Env) (h : Heap) : Option (Option Nat × AV × Option Heap) :=
  match o.op with
  | .mapUpdate t m k x =>
    match mapSetAV P t h (evo P t env m).strip (evo P (keyType P t) env k).strip (evo P (elemTypeM P t) env x) with
    | some h => some (tmpOp x, .tup [], some h)
    | none => none
  | .insert t m k x =>
    match mapSetAV P t h (evo P t env m).strip (evo P (keyType P t) env k).strip (evo P (elemTypeM P t) env x) with
    | some h => some (tmpOp x, .tup [], some h)
    | none => none
  | .mapEntry t m k =>
    match mapEntryAV P t h (evo P t env m).strip (evo P (keyType P t) env k).strip with
    | some (v, h) => some (none, v, some h)
    | none => none
  | .entryStore t m s x =>
    match entryStoreAV h (evo P t env m).strip (evo P 3 env s) (evo P (elemTypeM P t) env x) with
    | some h => some (tmpOp x, .tup [], some h)
    | none => none
  | .makeSlice t l c => (makeSliceAV P t (evo P 3 env l) (evo P 3 env c)).map fun v => (none, v, none)
  | .call { callee := .builtin .delete, args, argTypes } =>
    match args.toList, argTypes.toList with
    | [m, k], t :: _ => (mapDelAV P t h (evo P t env m).strip (evo P (keyType P t) env k).strip).map fun h => (none, .tup [], some h)
    | _, _ => none
  | .call { callee := .builtin .copy, args, argTypes } =>
    match args.toList, argTypes.toList with
    | [d, x], [t, u] => (copyAV P t u h (evo P t env d) (evo P u env x)).map fun p => (none, p.1, some p.2)
    | _, _ => none
  | .call { callee := .builtin .clear, args, argTypes } =>
    match args.toList, argTypes.toList with
    | [d], [t] => (clearAV P t h (evo P t env d)).map fun h => (none, .tup [], some h)
    | _, _ => none
  | _ => none
section
variable {R : Type}
mutual
def AV.force : AV → (AV → R) → R
  | .own v, k => v.force fun v => k (.own v)
  | .uni v, k => v.force fun v => k (.uni v)
  | .agg cs, k => AV.forceL cs fun cs => k (.agg cs)
  | .tup vs, k => AV.forceL vs fun vs => k (.tup vs)
  | .cptr v, k => v.force fun v => k (.cptr v)
  | .fn f first caps, k => AV.forceL first fun first => AV.forceL caps fun caps => k (.fn f first caps)
  | .rvec vs, k => AV.forceL vs fun vs => k (.rvec vs)
  | .iface t v, k => v.force fun v => k (.iface t v)
  | .undef, k => k .undef
  | .bool b, k => k (.bool b)
  | .int i n, k => k (.int i n)
  | .str s, k => k (.str s)
  | .vec sz n g, k => k (.vec sz n g)
  | .wide sz n m g, k => k (.wide sz n m g)
  | .ptr id off, k => k (.ptr id off)
  | .eptr id sz i off, k => k (.eptr id sz i off)
  | .nilptr, k => k .nilptr
  | .row id sz lo len, k => k (.row id sz lo len)
  | .brow id sz n, k => k (.brow id sz n)
  | .nils sz g, k => k (.nils sz g)
  | .mapr id, k => k (.mapr id)
  | .nilmap, k => k .nilmap
  | .nilfn, k => k .nilfn
  | .iter id, k => k (.iter id)
  | .stamp id pos, k => k (.stamp id pos)
  | .nilIface, k => k .nilIface
def AV.forceL : List AV → (List AV → R) → R
  | [], k => k []
  | v :: r, k => v.force fun v => AV.forceL r fun r => k (v :: r)
end
def Env.force : Env → (Env → R) → R
  | [], k => k []
  | (t, v) :: r, k => Env.force r fun r => k ((t, v) :: r)
def AObj.force : AObj → (AObj → R) → R
  | .cells cs, k => AV.forceL cs fun cs => k (.cells cs)
  | .arr sz n g, k => k (.arr sz n g)
  | .oarr sz n g, k => k (.oarr sz n g)
  | .map kt ow ents, k => k (.map kt ow ents)
  | .iter o l c, k => k (.iter o l c)
  | .dead, k => k .dead
def Heap.force : Heap → (Heap → R) → R
  | [], k => k []
  | o :: r, k => o.force fun o => Heap.force r fun r => k (o :: r)
def forceNat : Nat → (Nat → R) → R
  | 0, k => k 0
  | n + 1, k => forceNat n fun n => k (n + 1)
def putK (env : Env) (d : Option Nat) (v : AV) (k : Env → R) : R :=
  match d with
  | some d => v.force fun v => Env.force (env.set d v) k
  | none => k env
end
def Env.forceV {R : Type} : Env → (Env → R) → R
  | [], k => k []
  | (t, v) :: r, k => v.force fun v => Env.forceV r fun r => k ((t, v) :: r)
def isBase (t : Nat) : List Oper → Bool
  | [] => false
  | { op := .call { callee := .builtin .append, args, .. }, .. } :: r =>
    (match args.toList with
      | .tmp s :: _ => Nat.beq s t
      | _ => false) || isBase t r
  | _ :: r => isBase t r
def isBaseO (d : Option Nat) (r : List Oper) : Bool :=
  match d with
  | some d => isBase d r
  | none => false
mutual
def AV.shift (n : Nat) : AV → AV
  | .own v => .own (v.shift n)
  | .uni v => .uni (v.shift n)
  | .agg cs => .agg (AV.shiftL n cs)
  | .tup vs => .tup (AV.shiftL n vs)
  | .cptr v => .cptr (v.shift n)
  | .ptr id off => .ptr (n + id) off
  | .eptr id sz i off => .eptr (n + id) sz i off
  | .row id sz lo len => .row (n + id) sz lo len
  | .brow id sz m => .brow (n + id) sz m
  | .nils sz g => .nils sz g
  | .rvec vs => .rvec (AV.shiftL n vs)
  | .mapr id => .mapr (n + id)
  | .fn f first caps => .fn f (AV.shiftL n first) (AV.shiftL n caps)
  | .iter id => .iter (n + id)
  | .stamp id pos => .stamp (n + id) pos
  | .iface t v => .iface t (v.shift n)
  | .undef => .undef
  | .bool b => .bool b
  | .int k n => .int k n
  | .str s => .str s
  | .vec sz n g => .vec sz n g
  | .wide sz n m g => .wide sz n m g
  | .nilptr => .nilptr
  | .nilmap => .nilmap
  | .nilfn => .nilfn
  | .nilIface => .nilIface
def AV.shiftL (n : Nat) : List AV → List AV
  | [] => []
  | v :: r => v.shift n :: AV.shiftL n r
end
def AObj.shift (n : Nat) : AObj → AObj
  | .cells cs => .cells (AV.shiftL n cs)
  | .iter (some o) l c => .iter (some (n + o)) l c
  | o => o
mutual
def AV.under (n : Nat) : AV → Bool
  | .own v => v.under n
  | .uni _ => true
  | .agg cs => AV.underL n cs
  | .tup vs => AV.underL n vs
  | .cptr v => v.under n
  | .ptr id _ => Nat.blt id n
  | .eptr id _ _ _ => Nat.blt id n
  | .row id _ _ _ => Nat.blt id n
  | .brow id _ _ => Nat.blt id n
  | .nils _ _ => true
  | .rvec vs => AV.underL n vs
  | .mapr id => Nat.blt id n
  | .fn _ first caps => AV.underL n first && AV.underL n caps
  | .iter id => Nat.blt id n
  | .stamp _ _ => false
  | .iface _ v => v.under n
  | .undef => true
  | .bool _ => true
  | .int _ _ => true
  | .str _ => true
  | .vec _ _ _ => true
  | .wide _ _ _ _ => true
  | .nilptr => true
  | .nilmap => true
  | .nilfn => true
  | .nilIface => true
def AV.underL (n : Nat) : List AV → Bool
  | [] => true
  | v :: r => v.under n && AV.underL n r
end
def scrub (n : Nat) (v : AV) : AV := bif v.under n then v else .undef
def AObj.under (n : Nat) : AObj → Bool
  | .cells cs => AV.underL n cs
  | .iter (some o) _ _ => Nat.blt o n
  | _ => true
def underH (n : Nat) : Nat → Heap → Bool
  | 0, _ => true
  | _, [] => true
  | m + 1, o :: r => o.under n && underH n m r
def takeH : Nat → Heap → Heap
  | 0, _ => []
  | _, [] => []
  | m + 1, o :: r => o :: takeH m r
def memN (t : Nat) : List Nat → Bool
  | [] => false
  | s :: r => Nat.beq s t || memN t r
def keepEnv (ks : Option (List Nat)) (n : Nat) : Env → Env
  | [] => []
  | (t, v) :: r =>
    match ks with
    | none => (t, scrub n v) :: keepEnv ks n r
    | some l => bif memN t l then (t, scrub n v) :: keepEnv ks n r else keepEnv ks n r
section
variable {R : Type}
def cleanK (X : Rec R) (ks : Option (List Nat)) (n : Nat) : St → (St → R) → R
  | ⟨env, heap, defers, bor⟩, k =>
    bif underH n n heap then Env.forceV (keepEnv ks n env) fun env => Heap.force (takeH n heap) fun heap => k ⟨env, heap, defers, bor⟩ else X.fail
end
def hoisted (P : Program) (o : Oper) : List AObj :=
  match o.op with
  | .alloc t => [.cells (zeroAV P t).cells]
  | .makeMap t none =>
    match tyD P t with
    | .map kt _ => [.map kt true []]
    | _ => [.map 0 true []]
  | _ => []
def hoistAll (P : Program) : List Oper → Heap
  | [] => []
  | o :: r => hoisted P o ++ hoistAll P r
def envGuard (all : List Oper) (env : Env) (j : Nat) : AV :=
  match all[j]? with
  | some o => match o.dst with
    | some d => env.get d
    | none => .undef
  | none => .undef
section
variable {R : Type} (X : Rec R) (cx : Ctx) (I : FuncId → List AV → Heap → (AV → Heap → R) → R)
def lendAV (h : Heap) : AV → AV
  | .row id sz lo n =>
    match h.get id with
    | .arr sz' n' g => bif Nat.beq sz sz' && Nat.ble (lo + n) n' then .vec sz n (fun j => g (lo + j)) else .undef
    | _ => .undef
  | .brow id sz n =>
    match h.get id with
    | .oarr sz' n' g => bif Nat.beq sz sz' && Nat.beq n n' then .vec sz n (fun j => (g j).strip1) else .undef
    | _ => .undef
  | .ptr id 0 =>
    match h.get id with
    | .cells [c] => bif c.isData && c.scal then .cptr c.strip else .undef
    | .cells cs => bif AV.isDataL cs && Nat.blt 1 cs.length then .cptr (.agg (AV.stripL cs)) else .undef
    | _ => .undef
  | v => v
def lendL (h : Heap) : List AV → List AV
  | [] => []
  | v :: r => (match v with | .fn f first caps => .fn f first (caps.map (lendAV h)) | v => lendAV h v) :: lendL h r
def oneOf (sz : Nat) (a : AV) : AV :=
  bif Nat.beq sz 1 then (match a.cells with | [x] => x | _ => a) else a
def AV.flatR : AV → Bool
  | .int _ _ => true
  | .bool _ => true
  | .str _ => true
  | _ => false
def AV.scalR : AV → Bool
  | .tup l => l.all AV.flatR
  | v => v.flatR
def buildO (P : Program) (t : TypeId) (len : Nat) (ps : List (Nat × AV)) : Option (Nat × Nat × (Nat → AV)) :=
  match buildSliceAV P t len ps with
  | some (.own (.vec sz n g)) => bif (partVals ps).all (fun v => v.cells.all AV.flatR) then some (sz, n, g) else none
  | _ => none
def insV (g : Nat → AV) (i : Nat) (v : AV) : Nat → AV := fun j => bif Nat.blt j i then (g j).strip1 else bif Nat.beq j i then v else (g (j - 1)).strip1
def insertO (h : Heap) (b i x : AV) : Option (Nat × AV × Heap) :=
  match b, i, x with
  | .brow id sz n, .int .i64 i, .brow id2 sz2 m =>
    match h.get id, h.get id2 with
    | .oarr sz' n' g, .oarr sz2' m' g2 =>
      bif (Nat.beq sz 1 && Nat.beq sz' 1 && Nat.beq sz2 1 && Nat.beq sz2' 1 && Nat.beq n n' && Nat.beq m 1 && Nat.beq m' 1 && !Nat.beq id id2) && noRef id h then
        bif inRange i (n + 1) && Nat.blt n 2000000000 then some (id, .brow id 1 (n + 1), h.set id (.oarr 1 (n + 1) (insV g i.toNat (g2 0).strip1))) else none
      else none
    | _, _ => none
  | _, _, _ => none
def denDC (dst : Option Nat) (g : FuncId) (args : List AV) : St → (St → R) → R
  | ⟨env, heap, defers, bor⟩, k =>
    bif Nat.blt 0 (cx.srt g) then
      match args with
      | [b, i, x] =>
        bif Nat.beq (cx.srt g) 100 then
          match insertO heap b i x with
          | some (id, v, h) => Heap.force h fun heap => Env.forceV (Env.scrub id env) fun env => putK env dst v fun env => k ⟨env, heap, defers, bor⟩
          | none => X.fail
        else X.fail
      | [.row id sz lo n, .fn h [] caps] =>
        match heap.get id with
        | .arr sz' n' e =>
          bif !Nat.beq (cx.srt g) 100 && Nat.beq sz sz' && Nat.beq sz (cx.srt g) && Nat.beq lo 0 && Nat.beq n n' then
            AV.forceL (caps.map (lendAV (heap.set id .dead))) fun caps =>
            bif AV.isDataL caps then
              X.sort ((List.range n).map fun i => oneOf sz (e i)) (fun a b Q => X.call h (a :: b :: caps) Q) fun l =>
              Heap.force (heap.set id (.arr sz n (splice e 0 n (vlist .undef l)))) fun heap => putK env dst (.tup []) fun env => k ⟨env, heap, defers, bor⟩
            else X.fail
          else X.fail
        | _ => X.fail
      | _ => X.fail
    else
      AV.forceL (lendL heap args) fun args =>
      bif AV.isDataL args then X.call g args fun r => bif r.scalR then putK env dst r fun env => k ⟨env, heap, defers, bor⟩ else X.fail
      else X.fail
def freshen : AV → AV
  | .own (.vec sz 0 g) => .uni (.vec sz 0 g)
  | v => v
def takeAV (h : Heap) (t : TypeId) (p : AV) : Option (AV × Heap) :=
  match p with
  | .ptr id off =>
    match h.get id with
    | .cells cs =>
      match partAV cx.P t cs off with
      | some v => bif !tyAgg cx.P t && v.scal then some (v.unnil, h.set id (.cells (setRange cs off [v.strip]))) else none
      | none => none
    | _ => none
  | .eptr id sz i off =>
    match h.get id with
    | .oarr sz' n g =>
      bif Nat.beq sz sz' && Nat.blt i n then
        match partAV cx.P t (g i).cells off with
        | some v => bif !tyAgg cx.P t && v.scal then some (v.unnil, h.set id (.oarr sz n (upd g i (setElem (g i) off sz v.strip)))) else none
        | none => none
      else none
    | _ => none
  | _ => none
def appendO (P : Program) (t u : TypeId) (h : Heap) (b x : AV) : Option (Nat × AV × Heap) :=
  match tyD P t, b with
  | .slice e, .brow id sz n =>
    match h.get id, srcOf P e h x with
    | .oarr sz' n' g, some (m, g') =>
      bif isSliceT P u && (Nat.beq sz sz' && Nat.beq n n' && Nat.beq sz (tySz P e) && Nat.blt 0 sz && zeroFits P e && Nat.blt 0 (tyBy P e)) && noRef id h then
        bif roomOK (n + m) (tyBy P e) then some (id, .brow id sz (n + m), h.set id (.oarr sz (n + m) (vapp (zeroElem P e) g n (fun j => (g' j).strip1) m))) else none
      else none
    | _, _ => none
  | _, _ => none
def makeArrAV (P : Program) (t : TypeId) (l c : AV) : Option (Nat × Nat × AV) :=
  match tyD P t, l, c with
  | .slice e, .int .i64 n, .int .i64 m =>
    bif decide (0 < n ∧ n ≤ m ∧ m ≤ 1099511627776) && Nat.ble (m.toNat * tyBy P e) 281474976710656 && Nat.blt 0 (tySz P e) && hasZero P e && (zeroAV P e).isData && (zeroAV P e).cells.all AV.scal && Nat.beq (zeroAV P e).cells.length (tySz P e) then
      some (tySz P e, n.toNat, zeroAV P e) else none
  | _, _, _ => none
def denCall (drawn : Bool) (dst : Option Nat) (g : FuncId) (args : List AV) : St → (St → R) → R
  | ⟨env, heap, defers, bor⟩, k =>
    AV.forceL args fun args =>
    bif AV.isDataL args && !cx.inl g then X.call g args fun r => putK env dst r fun env => k ⟨env, heap, defers, bor⟩
    else bif drawn then X.fail
    else bif cx.ln g || Nat.blt 0 (cx.srt g) then denDC X cx dst g args ⟨env, heap, defers, bor⟩ k
    else
    match bor with
    | some _ => X.fail
    | none => bif !noO heap then X.fail else I g args heap fun r h => Heap.force h fun heap => putK env dst r fun env => k ⟨env, heap, defers, none⟩
def bareO (s : Option Nat) (env : Env) : Env := match s with | some s => env.bare s | none => env
def extK (o : Oper) (k : St → R) (env : Env) (heap : Heap) (defers : List (AV × List AV)) (bor : Option (Nat × AV)) : R :=
  match extOp cx.P o env heap with
  | some (s, v, some h) => Heap.force h fun heap => putK (bareO s env) o.dst v fun env => k ⟨env, heap, defers, bor⟩
  | some (s, v, none) => putK (bareO s env) o.dst v fun env => k ⟨env, heap, defers, bor⟩
  | none => X.fail
def ghostK (l : List Ghost) : St → (St → R) → R
  | ⟨env, heap, defers, bor⟩, k =>
    match l with
    | [] => k ⟨env, heap, defers, bor⟩
    | l =>
      match ghosts l env heap with
      | some (env, heap) => Env.forceV env fun env => Heap.force heap fun heap => k ⟨env, heap, defers, bor⟩
      | none => X.fail
def denOp (drawn : Bool) (fid rid ix base : Nat) (o : Oper) (rest : List Oper) : St → (St → R) → R
  | ⟨env, heap, defers, bor⟩, k =>
  match o.op with
  | .move x =>
    match x with
    | .tmp s =>
      bif isBaseO o.dst rest || (!drawn && cx.xf fid rid ix) then putK (env.bare s) o.dst (env.get s) fun env => k ⟨env, heap, defers, bor⟩
      else putK env o.dst (env.get s).strip fun env => k ⟨env, heap, defers, bor⟩
    | _ => putK env o.dst (evo cx.P o.type env x) fun env => k ⟨env, heap, defers, bor⟩
  | .assign x =>
    match x with
    | .tmp s => putK (env.bare s) o.dst (env.get s) fun env => k ⟨env, heap, defers, bor⟩
    | _ => putK env o.dst (evo cx.P o.type env x) fun env => k ⟨env, heap, defers, bor⟩
  | .alloc t => bif !(hasZero cx.P t && (zeroAV cx.P t).cells.all AV.scal) then X.fail else forceNat base fun base => putK env o.dst (.ptr base 0) fun env => k ⟨env, heap, defers, bor⟩
  | .makeMap _ none => forceNat base fun base => putK env o.dst (.mapr base) fun env => k ⟨env, heap, defers, bor⟩
  | .box t x =>
    bif sameShape cx.P t (evo cx.P t env x).keepA then
      forceNat heap.length fun n => Heap.force (heap ++ [.cells (evo cx.P t env x).keepA.cells]) fun heap =>
      putK env o.dst (.ptr n 0) fun env => k ⟨env, heap, defers, bor⟩
    else X.fail
  | .store t p v =>
    match storeAV cx.P heap t (evo cx.P 0 env p) (evo cx.P t env v) with
    | some h =>
      bif !(Nat.blt 0 (tySz cx.P t)) then X.fail else
      Heap.force h fun heap =>
      match v with
      | .tmp s => putK (env.bare s) o.dst (.tup []) fun env => k ⟨env, heap, defers, bor⟩
      | _ => putK env o.dst (.tup []) fun env => k ⟨env, heap, defers, bor⟩
    | none => X.fail
  | .call c =>
    match c.callee with
    | .builtin .append =>
      match c.args.toList, c.argTypes.toList with
      | [.tmp s, x], [t, u] =>
        match appendO cx.P t u heap (env.get s) (evo cx.P u env x) with
        | some (id, v, h) => bif drawn then X.fail else Heap.force h fun heap => Env.forceV (Env.scrub id env) fun env => putK env o.dst v fun env => k ⟨env, heap, defers, bor⟩
        | none =>
        bif !drawn && cx.xf fid rid ix then
          match appendAV cx.P t u heap (freshen (env.get s)) (evo cx.P u env x) with
          | some v => putK (env.set s .undef) o.dst v fun env => k ⟨env, heap, defers, bor⟩
          | none => X.fail
        else
        match appendAV cx.P t u heap (env.get s) (evo cx.P u env x) with
        | some v => putK (env.bare s) o.dst v fun env => k ⟨env, heap, defers, bor⟩
        | none => X.fail
      | [.const v, x], [t, u] =>
        match appendAV cx.P t u heap (ofConst cx.P t v) (evo cx.P u env x) with
        | some v => putK env o.dst v fun env => k ⟨env, heap, defers, bor⟩
        | none => X.fail
      | _, _ => X.fail
    | .builtin _ =>
      match evalOp cx.P o env heap with
      | some v => putK env o.dst v fun env => k ⟨env, heap, defers, bor⟩
      | none => extK X cx o k env heap defers bor
    | .value f =>
      match evo cx.P 0 env f with
      | .fn g first caps => denCall X cx I drawn o.dst g (first ++ evoL cx.P env c.argTypes.toList c.args.toList ++ caps) ⟨env, heap, defers, bor⟩ k
      | _ => X.fail
    | _ => X.fail
  | .load t p =>
    bif isBaseO o.dst rest || (!drawn && cx.xf fid rid ix) then
      match takeAV cx heap t (evo cx.P 0 env p) with
      | some (v, h) => Heap.force h fun heap => putK env o.dst v fun env => k ⟨env, heap, defers, bor⟩
      | none => X.fail
    else
    match evalOp cx.P o env heap with
    | some v => putK env o.dst v fun env => k ⟨env, heap, defers, bor⟩
    | none => X.fail
  | .lookup t m q ok =>
    bif !ok && (isBaseO o.dst rest || (!drawn && cx.xf fid rid ix)) then
      match tyD cx.P t with
      | .map kt _ =>
        match lookTakeAV cx.P t heap (evo cx.P t env m).strip (evo cx.P kt env q).strip with
        | some (v, h) => Heap.force h fun heap => putK env o.dst v fun env => k ⟨env, heap, defers, bor⟩
        | none => X.fail
      | _ => X.fail
    else
    match evalOp cx.P o env heap with
    | some v => putK env o.dst v fun env => k ⟨env, heap, defers, bor⟩
    | none => X.fail
  | .buildSlice t len parts =>
    bif !drawn && cx.xf fid rid ix then
      match buildO cx.P t len (elemParts cx.P (elemOfT cx.P t) env parts.toList) with
      | some (sz, n, g) => forceNat heap.length fun id => Heap.force (heap ++ [.oarr sz n g]) fun heap => putK env o.dst (.brow id sz n) fun env => k ⟨env, heap, defers, bor⟩
      | none => X.fail
    else
      match evalOp cx.P o env heap with
      | some v => putK env o.dst v fun env => k ⟨env, heap, defers, bor⟩
      | none => extK X cx o k env heap defers bor
  | .makeSlice t l c =>
    bif !drawn && cx.xf fid rid ix then
      match makeArrAV cx.P t (evo cx.P 3 env l) (evo cx.P 3 env c) with
      | some (sz, n, z) => forceNat heap.length fun id => Heap.force (heap ++ [.oarr sz n fun _ => z]) fun heap => putK env o.dst (.brow id sz n) fun env => k ⟨env, heap, defers, bor⟩
      | none => X.fail
    else extK X cx o k env heap defers bor
  | .binOp op t x y yt =>
    match nilTest cx.P op t (evo cx.P t env x).strip y with
    | some (n, b) =>
      bif drawn then X.fail else
      X.br (Nat.beq n 0) (X.all 2 fun i => putK env o.dst (.bool (Nat.beq i 0)) fun env => k ⟨env, heap, defers, bor⟩) (putK env o.dst (.bool b) fun env => k ⟨env, heap, defers, bor⟩)
    | none =>
      match evalOp cx.P o env heap with
      | some v => putK env o.dst v fun env => k ⟨env, heap, defers, bor⟩
      | none => extK X cx o k env heap defers bor
  | .extract x i =>
    match x with
    | .tmp s =>
      match env.get s with
      | .tup vs =>
        match vs[i]? with
        | some v => putK (env.set s (.tup (vs.set i v.strip))) o.dst v fun env => k ⟨env, heap, defers, bor⟩
        | none => X.fail
      | _ => X.fail
    | _ => X.fail
  | .range t x =>
    bif drawn then X.fail else
    match rangeAV cx.P t heap (evo cx.P t env x).strip with
    | some q => forceNat heap.length fun n => Heap.force (heap ++ [q]) fun heap => putK env o.dst (.iter n) fun env => k ⟨env, heap, defers, bor⟩
    | none => X.fail
  | .next it s =>
    bif drawn || s then X.fail else
    match evo cx.P 0 env it with
    | .iter id =>
      match heap.get id with
      | .iter q left _ =>
        X.br (Nat.beq left.length 0) (Heap.force (heap.set id .dead) fun heap => putK env o.dst (.tup [.bool false]) fun env => k ⟨env, heap, defers, bor⟩)
          (X.all (left.length - 1 + 1) fun j => Heap.force (heap.set id (.iter q (left.eraseIdx j) (curAt left j))) fun heap => putK env o.dst (leftAt left j) fun env => k ⟨env, heap, defers, bor⟩)
      | _ => X.fail
    | _ => X.fail
  | _ =>
    match evalOp cx.P o env heap with
    | some v => putK env o.dst v fun env => k ⟨env, heap, defers, bor⟩
    | none => extK X cx o k env heap defers bor
def branch (X : Rec R) (env : Env) (t : Option Nat) (b : Bool) (y n : Env → R) : R :=
  X.br b (putK env t (.bool true) y) (putK env t (.bool false) n)
def guardSlot (all : List Oper) (j : Nat) : Option Nat := (all[j]?).bind (·.dst)
def denOps (drawn : Bool) (fid rid : Nat) (all : List Oper) : Nat → Nat → List Oper → St → (St → R) → R
  | _, _, [], st, k => k st
  | ix, base, o :: rest, ⟨env, heap, defers, bor⟩, k =>
    match o.guard with
    | none => denOp X cx I drawn fid rid ix base o rest ⟨env, heap, defers, bor⟩ fun st => denOps drawn fid rid all (ix + 1) (base + (hoisted cx.P o).length) rest st k
    | some (j, want) =>
      match envGuard all env j with
      | .bool b =>
        match want with
        | true =>
          branch X env (guardSlot all j) b
            (fun env => denOp X cx I drawn fid rid ix base o rest ⟨env, heap, defers, bor⟩ fun st => denOps drawn fid rid all (ix + 1) (base + (hoisted cx.P o).length) rest st k)
            (fun env => putK env o.dst (.tup []) fun env => denOps drawn fid rid all (ix + 1) (base + (hoisted cx.P o).length) rest ⟨env, heap, defers, bor⟩ k)
        | false =>
          branch X env (guardSlot all j) b
            (fun env => putK env o.dst (.tup []) fun env => denOps drawn fid rid all (ix + 1) (base + (hoisted cx.P o).length) rest ⟨env, heap, defers, bor⟩ k)
            (fun env => denOp X cx I drawn fid rid ix base o rest ⟨env, heap, defers, bor⟩ fun st => denOps drawn fid rid all (ix + 1) (base + (hoisted cx.P o).length) rest st k)
      | .tup [] => putK env o.dst (.tup []) fun env => denOps drawn fid rid all (ix + 1) (base + (hoisted cx.P o).length) rest ⟨env, heap, defers, bor⟩ k
      | _ => X.fail
def readyN (all : List Oper) (done : List Nat) : List Nat :=
  (List.range all.length).filter fun i => !memN i done && (match all[i]? with | some o => o.after.toList.all (fun e => !(Region.binds .any e) || memN e.on done) | none => false)
def denOne (fid rid base : Nat) (all : List Oper) (i : Nat) : St → (St → R) → R
  | ⟨env, heap, defers, bor⟩, k =>
    match all[i]? with
    | none => X.fail
    | some o =>
      match o.guard with
      | none => denOp X cx I true fid rid i base o [] ⟨env, heap, defers, bor⟩ k
      | some _ => X.fail
def denAny (fid rid base : Nat) (all : List Oper) : Nat → List Nat → St → (St → R) → R
  | 0, done, st, k =>
    match readyN all done with
    | [] => k st
    | _ => X.fail
  | n + 1, done, st, k =>
    match readyN all done with
    | [] => k st
    | [i] => denOne X cx I fid rid base all i st fun st => denAny fid rid base all n (i :: done) st k
    | l => X.all l.length fun j => denOne X cx I fid rid base all (l.getD j 0) st fun st => denAny fid rid base all n (l.getD j 0 :: done) st k
def noHoist (P : Program) (l : List Oper) : Bool := match hoistAll P l with | [] => true | _ => false
def firstRegion : Code → Nat
  | .region id _ _ => id
  | .seq a _ => firstRegion a
  | .block _ b => firstRegion b
  | .loop b => firstRegion b
  | .scope b => firstRegion b
  | _ => 0
def condSlot : Operand → Option Nat
  | .tmp t => some t
  | _ => none
def dstOk (nt : Nat) : List Oper → Bool
  | [] => true
  | o :: r => (match o.dst with | some d => Nat.blt d nt | none => true) && dstOk nt r
def den (calm : List Oper → Bool) (nt d : Nat) (fid : FuncId) : Code → St → (Ex → St → R) → R
  | .skip, st, k => k .normal st
  | .label _, st, k => k .normal st
  | .region id ops draw, st, k =>
    bif (!draw || calm ops.toList) && dstOk nt ops.toList then
      ghostK X (cx.gh fid id) st fun st =>
      match st with
      | ⟨env, heap, defers, bor⟩ =>
        forceNat heap.length fun n => Heap.force (heap ++ hoistAll cx.P ops.toList) fun heap =>
        denOps X cx I draw fid id ops.toList 0 n ops.toList ⟨env, heap, defers, bor⟩ fun st => k .normal st
    else bif draw && dstOk nt ops.toList && noHoist cx.P ops.toList then
      ghostK X (cx.gh fid id) st fun st =>
      match st with
      | ⟨env, heap, defers, bor⟩ => forceNat heap.length fun n => denAny X cx I fid id n ops.toList ops.toList.length [] ⟨env, heap, defers, bor⟩ fun st => k .normal st
    else X.fail
  | .seq a b, st, k => den calm nt d fid a st fun e st =>
    match e with
    | .normal => den calm nt d fid b st k
    | .exit id => k (.exit id) st
    | .ret => k .ret st
  | .cond c a b, ⟨env, heap, defers, bor⟩, k =>
    match evo cx.P 0 env c with
    | .bool x => branch X env (condSlot c) x (fun env => den calm nt d fid a ⟨env, heap, defers, bor⟩ k) (fun env => den calm nt d fid b ⟨env, heap, defers, bor⟩ k)
    | _ => X.fail
  | .block id b, st, k => den calm nt d fid b st fun e st =>
    match e with
    | .exit id' => bif Nat.beq id' id then k .normal st else k (.exit id') st
    | .normal => k .normal st
    | .ret => k .ret st
  | .loop b, st, k =>
    ghostK X (cx.gl fid (firstRegion b)) st fun st =>
    match st with
    | ⟨env, heap, defers, bor⟩ => forceNat heap.length fun n => cleanK X (cx.keep fid (firstRegion b)) n ⟨env, heap, defers, bor⟩ fun st => X.loop d fid n b st k
  | .exit id, st, k => k (.exit id) st
  | .ret, st, k => k .ret st
  | .scope b, st, k => den calm nt d fid b st k
  | _, _, _ => X.fail
def usedT (t : Nat) : List ResultVar → Bool
  | [] => false
  | .tmp s :: r => Nat.beq s t || usedT t r
  | _ :: r => usedT t r
def resultsOf (env : Env) : Heap → List ResultVar → Option (List AV × Heap)
  | h, [] => some ([], h)
  | h, .tmp t :: r =>
    match resultsOf env h r with
    | some (vs, h) => some ((bif usedT t r then (env.get t).strip else env.get t) :: vs, h)
    | none => none
  | h, .cell a t :: r =>
    match takeAV cx h t (env.get a) with
    | some (v, h') =>
      match resultsOf env h' r with
      | some (vs, h'') => some (v :: vs, h'')
      | none => none
    | none =>
      match loadAV cx.P h t (env.get a), resultsOf env h r with
      | some v, some (vs, h') => some (v.strip :: vs, h')
      | _, _ => none
def packR : List AV → AV
  | [v] => v
  | vs => .tup vs
def params : Nat → List AV → (Env → R) → R
  | _, [], k => k []
  | t, v :: r, k => v.strip.force fun v => params (t + 1) r fun r => k ((t, v) :: r)
def finish (f : FuncId) (fn : Func) (k : AV → Heap → R) (e : Ex) (st : St) : R :=
  match e with
  | .exit _ => X.fail
  | _ =>
    ghostK X (cx.gf f) st fun st =>
    match st with
    | ⟨env, heap, defers, bor⟩ =>
      match defers, bor with
      | [], none =>
        match resultsOf cx env heap fn.results.toList with
        | some (vs, heap) => (packR vs).force fun r => k r heap
        | none => X.fail
      | _, _ => X.fail
def runBody (calm : List Oper → Bool) (d : Nat) (f : FuncId) (args : List AV) (h : Heap) (k : AV → Heap → R) : R :=
  match cx.P.funcs[f]? with
  | some fn =>
    match fn.body with
    | some c => params 0 args fun env => den X cx I calm fn.ntmps d f c ⟨env, h, [], none⟩ (finish X cx f fn k)
    | none => X.fail
  | none => X.fail
end
def inlN {R : Type} (X : Rec R) (cx : Ctx) (calm : List Oper → Bool) : Nat → FuncId → List AV → Heap → (AV → Heap → R) → R
  | 0, _, _, _, _ => X.fail
  | d + 1, f, args, h, k => runBody X cx (inlN X cx calm d) calm d f args h k
def topDepth : Nat := 8
def release1 (h : Heap) : AV → AV
  | .row id sz 0 n =>
    match h.get id with
    | .arr sz' n' g => bif Nat.beq sz sz' && Nat.ble n n' then .uni (.wide sz n n g) else .row id sz 0 n
    | _ => .row id sz 0 n
  | v => v
def release (h : Heap) : AV → AV
  | .tup (v :: r) => .tup (release1 h v :: r)
  | v => release1 h v
def giveOut2 {R : Type} (X : Rec R) (ow : Bool) (Q : AV → R) (r : AV) : R :=
  bif r.isData then (bif ow then r else r.strip).force Q else X.fail
def giveOut {R : Type} (X : Rec R) (cx : Ctx) (f : FuncId) (Q : AV → R) (r : AV) (h : Heap) : R :=
  giveOut2 X (cx.ow f) Q (bif cx.ow f then release h r else r)
def stepCall {R : Type} (X : Rec R) (cx : Ctx) (calm : List Oper → Bool) (f : FuncId) (args : List AV) (Q : AV → R) : R :=
  runBody X cx (inlN X cx calm topDepth) calm topDepth f args [] (giveOut X cx f Q)
def loopNext {R : Type} (X : Rec R) (cx : Ctx) (d : Nat) (fid : FuncId) (n : Nat) (b : Code) (K : Ex → St → R) (e : Ex) (st : St) : R :=
  match e with
  | .normal => cleanK X (cx.keep fid (firstRegion b)) n st fun st => X.loop d fid n b st K
  | .exit id => cleanK X (cx.keepX fid (firstRegion b)) n st fun st => K (.exit id) st
  | .ret => cleanK X (cx.keepX fid (firstRegion b)) n st fun st => K .ret st
def stepLoop {R : Type} (X : Rec R) (cx : Ctx) (calm : List Oper → Bool) (d : Nat) (fid : FuncId) (n : Nat) (b : Code) (st : St) (K : Ex → St → R) : R :=
  den X cx (inlN X cx calm d) calm (match cx.P.funcs[fid]? with | some fn => fn.ntmps | none => 0) d fid b st (loopNext X cx d fid n b K)
end Ax

namespace Ax
open Go
structure Swo (c : AV → AV → Int) : Prop where
  irrefl : ∀ a, ¬ c a a < 0
  trans : ∀ a b d, c a b < 0 → c b d < 0 → c a d < 0
  ntrans : ∀ a b d, ¬ c a b < 0 → ¬ c b d < 0 → ¬ c a d < 0
def sortP (l : List AV) (cmp : AV → AV → (AV → Prop) → Prop) (K : List AV → Prop) : Prop :=
  l.length < 4611686018427387904 ∧ ∃ c : AV → AV → Int, (∀ a ∈ l, ∀ b ∈ l, cmp a b (fun r => r = .int .i64 (c a b))) ∧ Swo c ∧ ∀ l' : List AV, l'.Perm l → l'.Pairwise (fun a b => ¬ c b a < 0) → K l'
structure BrP (b : Bool) (y n : Prop) : Prop where
  yes : b = true → y
  no : b = false → n
structure PreFix (cx : Ctx) (calm : List Oper → Bool) (X : Rec Prop) : Prop where
  fail : X.fail = False
  all : X.all = fun n k => ∀ i, i < n → k i
  sort : X.sort = sortP
  br : X.br = BrP
  call : ∀ f args Q, stepCall X cx calm f args Q → X.call f args Q
  loop : ∀ d fid n b st K, stepLoop X cx calm d fid n b st K → X.loop d fid n b st K
  cmono : ∀ f args (Q Q' : AV → Prop), (∀ r, Q r → Q' r) → X.call f args Q → X.call f args Q'
  lmono : ∀ d fid n b st (K K' : Ex → St → Prop), (∀ e s, K e s → K' e s) → X.loop d fid n b st K → X.loop d fid n b st K'
def lfp (cx : Ctx) (calm : List Oper → Bool) : Rec Prop where
  fail := False
  all := fun n k => ∀ i, i < n → k i
  call f args Q := ∀ X, PreFix cx calm X → X.call f args Q
  loop d fid n b st K := ∀ X, PreFix cx calm X → X.loop d fid n b st K
  sort := sortP
  br := BrP
end Ax
