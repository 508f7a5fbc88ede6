/- The interpreter: what each operation does to its memory, and the walk of the code. Conditions: none; definitions alone. -/
import Derived.Test.YtleddgfdjaaelaaGreatAbs
namespace Go.Abs

abbrev Res := Option (Value × Mem)
abbrev CallF := FuncId → List Value → Mem → Res

def mk (v : Value) (m : Mem) : Res := some (v, m)
def lift (m : Mem) : Option Value → Res
  | some v => some (v, m)
  | none => none

def binI (op : BinOp) (k : IntKind) (x y : Int) : Option Value :=
  match op with
  | .add => some (.int k (k.wrap (x + y)))
  | .sub => some (.int k (k.wrap (x - y)))
  | .mul => some (.int k (k.wrap (x * y)))
  | .quo => if y = 0 then none else some (.int k (k.wrap (x.tdiv y)))
  | .rem => if y = 0 then none else some (.int k (x.tmod y))
  | .and => some (.int k (k.wrap (BitVec.ofInt k.bits x &&& BitVec.ofInt k.bits y).toNat))
  | .or => some (.int k (k.wrap (BitVec.ofInt k.bits x ||| BitVec.ofInt k.bits y).toNat))
  | .xor => some (.int k (k.wrap (BitVec.ofInt k.bits x ^^^ BitVec.ofInt k.bits y).toNat))
  | .andNot => some (.int k (k.wrap (BitVec.ofInt k.bits x &&& ~~~(BitVec.ofInt k.bits y)).toNat))
  | .eql => some (.bool (x == y))
  | .neq => some (.bool (x != y))
  | .lss => some (.bool (decide (x < y)))
  | .leq => some (.bool (decide (x ≤ y)))
  | .gtr => some (.bool (decide (x > y)))
  | .geq => some (.bool (decide (x ≥ y)))
  | _ => none

def shiftI (op : BinOp) (k : IntKind) (a b : Int) : Option Value :=
  match op with
  | .shl => if b < 0 then none else some (.int k (k.wrap (a * 2 ^ (min b.toNat k.bits))))
  | .shr => if b < 0 then none else some (.int k (a.fdiv (2 ^ (min b.toNat k.bits))))
  | _ => none

def isShift : BinOp → Bool
  | .shl => true
  | .shr => true
  | _ => false

/-- The comparisons of what is no number. 'd': what the operands are. -/
def binE (op : BinOp) (d : TypeDesc) (x y : Value) : Option Value :=
  match d, x, y with
  | .bool, .bool a, .bool b => match op with
    | .eql => some (.bool (a == b))
    | .neq => some (.bool (!(a == b)))
    | _ => none
  | .pointer _, .pointer a, .pointer b => match a, b with
    | none, b => (match op with
      | .eql => some (.bool b.isNone)
      | .neq => some (.bool (!b.isNone))
      | _ => none)
    | some _, none => (match op with
      | .eql => some (.bool false)
      | .neq => some (.bool true)
      | _ => none)
    | _, _ => none
  | .slice _, .slice a _ _, .slice b _ _ => match a, b with
    | none, b => (match op with
      | .eql => some (.bool b.isNone)
      | .neq => some (.bool (!b.isNone))
      | _ => none)
    | some _, none => (match op with
      | .eql => some (.bool false)
      | .neq => some (.bool true)
      | _ => none)
    | _, _ => none
  | _, _, _ => none

def eqScal (P : Program) (t : TypeId) (u v : Value) : Option Bool :=
  match P.underlying t, u, v with
  | some (.int _), .int k a, .int l b => if k = l then some (a == b) else none
  | some .bool, .bool a, .bool b => some (a == b)
  | _, _, _ => none

def eqItms (P : Program) (e : TypeId) (sz : Nat) (xs ys : List Value) : List Nat → Option Bool
  | [] => some true
  | i :: is => (match partOf P e xs (i * sz), partOf P e ys (i * sz) with
    | some u, some v => (match eqScal P e u v with
      | some true => eqItms P e sz xs ys is
      | some false => some false
      | none => none)
    | _, _ => none)

def eqPart (P : Program) (t : TypeId) (u v : Value) : Option Bool :=
  match P.underlying t, u, v with
  | some (.array n e), .agg ⟨xs⟩, .agg ⟨ys⟩ => (match szOf P e with
    | some sz => eqItms P e sz xs ys (List.range n)
    | none => none)
  | _, u, v => eqScal P t u v

/-- Structs of scalars and of arrays of scalars, field by field. -/
def eqFlds (P : Program) (xs ys : List Value) : List Field → Option Bool
  | [] => some true
  | f :: fs => if f.name = "_" then none else (match partOf P f.type xs f.offset, partOf P f.type ys f.offset with
    | some u, some v => (match eqPart P f.type u v with
      | some true => eqFlds P xs ys fs
      | some false => some false
      | none => none)
    | _, _ => none)

def eqAgg (P : Program) (op : BinOp) (t : TypeId) (xs ys : List Value) : Option Value :=
  match P.underlying t with
  | some (.struct fs) => cond (P.stoodInHeld t || P.eqGuardType P.depth t) none (match eqFlds P xs ys fs.toList with
    | some r => (match op with
      | .eql => some (.bool r)
      | .neq => some (.bool (!r))
      | _ => none)
    | none => none)
  | _ => none

def bin (P : Program) (op : BinOp) (t : TypeId) (x y : Value) : Option Value :=
  match x, y with
  | .int k a, .int l b => cond (isShift op) (shiftI op k a b) (if k = l then binI op k a b else none)
  | .string a, .string b => match op with
    | .eql => some (.bool (a == b))
    | .neq => some (.bool (a != b))
    | _ => none
  | .agg ⟨xs⟩, .agg ⟨ys⟩ => eqAgg P op t xs ys
  | x, y => match P.underlying t with
    | some d => binE op d x y
    | none => none

def un (op : UnOp) (x : Value) : Option Value :=
  match op, x with
  | .not, .bool b => some (.bool (!b))
  | .neg, .int k n => some (.int k (k.wrap (0 - n)))
  | .xor, .int k n => some (.int k (k.wrap (BitVec.ofInt k.bits (if k.signed then -1 else k.max) ^^^ BitVec.ofInt k.bits n).toNat))
  | _, _ => none

/-- Parts laid into cells. -/
def fillIn (place : Nat → Option (Nat × Nat)) : List Value → List (Nat × Value) → Option (List Value)
  | cs, [] => some cs
  | cs, (i, v) :: rest => match place i, cellsOf v with
    | some (off, size), some vs => cond (Nat.beq vs.length size && Nat.ble (Nat.add off size) cs.length) (fillIn place (splice off cs vs) rest) none
    | _, _ => none

def rep : Nat → List Value → List Value
  | 0, _ => []
  | n + 1, z => z ++ rep n z

/-- A block at whose end there may be room. -/
def isGrow : Kind → Bool
  | .exact => false
  | _ => true

def isRo : Kind → Bool
  | .ro => true
  | _ => false

def okBounds (hi mx : Option Int) : Bool :=
  match hi, mx with
  | none, some _ => false
  | _, _ => true

def orI (x : Option Int) (d : Int) : Int :=
  match x with
  | some v => v
  | none => d

def cutOf (a : Option (Nat × Nat)) (sz : Nat) (l h m : Int) : Value :=
  match a with
  | none => .slice none 0 0
  | some (g, off) => .slice (some ⟨g, off + l.toNat * sz, none⟩) (h.toNat - l.toNat) (m.toNat - l.toNat)

def sliceOf (a : Option (Nat × Nat)) (sz len cap : Nat) (lo hi mx : Option Int) : Option Value :=
  if 0 ≤ orI lo 0 ∧ orI lo 0 ≤ orI hi len ∧ orI hi len ≤ orI mx cap ∧ orI mx cap ≤ cap ∧ okBounds hi mx = true then
    some (cutOf a sz (orI lo 0) (orI hi len) (orI mx cap))
  else none

noncomputable def optI (tm : PM Value) : Option Operand → Option (Option Int)
  | none => some none
  | some o => match ev tm o with
    | .int _ n => some (some n)
    | _ => none

/-- the cells of a slice's first n elements. -/
noncomputable def sliceCs (m : Mem) (sz n : Nat) (a : Option Addr) : Option (List Value) :=
  match a with
  | none => some []
  | some ⟨g, off, none⟩ => rd m g off (n * sz)
  | _ => none

noncomputable def appendTo (m : Mem) (sz by8 : Nat) (s : Option Addr) (len cap : Nat) (n : Nat) (news : List Value) : Res :=
  cond (Nat.ble (Nat.add len n * by8) 140737488355328 && Nat.ble (Nat.add len n) 140737488355328 && Nat.beq news.length (n * sz) && Nat.blt 0 sz)
  (match s with
  | none => cond (Nat.beq n 0) (mk (.slice none 0 0) m) (mk (.slice (some ⟨m.next, 0, none⟩) n n) (m.push (.cells news .grow sz)))
  | some ⟨g, off, none⟩ =>
    match m.b.get g with
    | some (.cells cs k bsz) =>
      cond (Nat.beq bsz sz || !isGrow k)
      (cond (Nat.ble (Nat.add len n) cap)
        (match wr m g (Nat.add off (len * sz)) news with
          | some m' => mk (.slice (some ⟨g, off, none⟩) (Nat.add len n) cap) m'
          | none => none)
        (match rdL cs off (len * sz) with
          | some olds => cond (isRo k) none (mk (.slice (some ⟨m.next, 0, none⟩) (Nat.add len n) (Nat.add len n))
              (Mem.push (cond (isGrow k) (m.put g .dead) m) (.cells (olds ++ news) .grow sz)))
          | none => none)) none
    | _ => none
  | _ => none) none

def bytesOfCells : List Value → Option (List UInt8)
  | [] => some []
  | .int .u8 n :: r => match bytesOfCells r with
    | some l => some (UInt8.ofNat n.toNat :: l)
    | none => none
  | _ => none

def minV : Value → List Value → Option Value
  | .int k x, [] => some (.int k x)
  | .int k x, .int _ y :: r => minV (.int k (if y < x then y else x)) r
  | _, _ => none
def maxV : Value → List Value → Option Value
  | .int k x, [] => some (.int k x)
  | .int k x, .int _ y :: r => maxV (.int k (if x < y then y else x)) r
  | _, _ => none

noncomputable def lenOp (P : Program) (m : Mem) (t : TypeId) (x : Value) : Res :=
  match P.underlying t, x with
  | some .string, .string s => mk (.int .i64 s.size) m
  | some (.array n _), _ => mk (.int .i64 n) m
  | some (.slice _), .slice _ n _ => mk (.int .i64 n) m
  | some (.map _ _), .map none => mk (.int .i64 0) m
  | some (.map _ _), .map (some r) => (match m.b.get r with
    | some (.map es _) => mk (.int .i64 es.length) m
    | _ => none)
  | _, _ => none

noncomputable def appendOp (P : Program) (m : Mem) (t xt : TypeId) (s x : Value) : Res :=
  match P.underlying t, s with
  | some (.slice e), .slice a len cap => (match szOf P e, zeroCs P e with
    | some sz, some z => (match P.underlying xt, x with
      | some (.int _), .int .i64 n => if 0 ≤ n ∧ n < 140737488355328 then appendTo m sz (bytesOf P e) a len cap n.toNat (rep n.toNat z) else none
      | some (.slice _), .slice b n _ => (match sliceCs m sz n b with
        | some news => appendTo m sz (bytesOf P e) a len cap n news
        | none => none)
      | _, _ => none)
    | _, _ => none)
  | _, _ => none

noncomputable def copyOp (P : Program) (m : Mem) (t : TypeId) (d s : Value) : Res :=
  match P.underlying t, d, s with
  | some (.slice e), .slice a dl _, .slice b sl _ => (match szOf P e with
    | some sz => (match sliceCs m sz (min sl dl) b with
      | some cs => (match a with
        | some ⟨g, off, none⟩ => (match wr m g off cs with
          | some m' => mk (.int .i64 (min sl dl : Nat)) m'
          | none => none)
        | none => mk (.int .i64 (min sl dl : Nat)) m
        | _ => none)
      | none => none)
    | none => none)
  | _, _, _ => none

noncomputable def clearOp (P : Program) (m : Mem) (t : TypeId) (x : Value) : Res :=
  match P.underlying t, x with
  | some (.slice e), .slice a n _ => (match a with
    | none => mk (.tuple #[]) m
    | some ⟨g, off, none⟩ => (match zeroCs P e with
      | some z => (match wr m g off (rep n z) with
        | some m' => mk (.tuple #[]) m'
        | none => none)
      | none => none)
    | _ => none)
  | _, _ => none

noncomputable def builtin (P : Program) (tm : PM Value) (m : Mem) (b : Builtin) (args : List Operand) (ats : List TypeId) : Res :=
  match b with
  | .len => (match args, ats with
    | [x], t :: _ => lenOp P m t (ev tm x)
    | _, _ => none)
  | .append => (match args, ats with
    | [s, x], [t, xt] => appendOp P m t xt (ev tm s) (ev tm x)
    | _, _ => none)
  | .copy => (match args, ats with
    | [d, s], [t, _] => copyOp P m t (ev tm d) (ev tm s)
    | _, _ => none)
  | .min => (match args with
    | x :: r => lift m (minV (ev tm x) (r.map (ev tm)))
    | _ => none)
  | .max => (match args with
    | x :: r => lift m (maxV (ev tm x) (r.map (ev tm)))
    | _ => none)
  | .clear => (match args, ats with
    | [x], [t] => clearOp P m t (ev tm x)
    | _, _ => none)
  | _ => none

def placesOf (P : Program) (fs : Array Field) : Option (List (Nat × Nat)) := fs.toList.mapM (fun f => (P.info? f.type).map fun i => (f.offset, i.size))

noncomputable def buildOp (P : Program) (m : Mem) (t : TypeId) (ps : List (Nat × Value)) : Res :=
  match P.underlying t, zeroCs P t with
  | some (.struct fs), some z => (match placesOf P fs with
    | some pl => (match fillIn (fun i => pl[i]?) z ps with
      | some cs => mk (.agg ⟨cs⟩) m
      | none => none)
    | none => none)
  | some (.array _ e), some z => (match szOf P e with
    | some sz => (match fillIn (fun i => some (i * sz, sz)) z ps with
      | some cs => mk (.agg ⟨cs⟩) m
      | none => none)
    | none => none)
  | _, _ => none

noncomputable def buildSliceOp (P : Program) (m : Mem) (t : TypeId) (n : Nat) (ps : List (Nat × Value)) : Res :=
  match P.underlying t with
  | some (.slice e) => (match zeroCs P e, szOf P e with
    | some z, some sz => cond (Nat.ble (n * sz) 16777216 && Nat.blt 0 sz)
      (match fillIn (fun i => some (i * sz, sz)) (rep n z) ps with
      | some cs => mk (.slice (some ⟨m.next, 0, none⟩) n n) (m.push (.cells cs .exact sz))
      | none => none) none
    | _, _ => none)
  | _ => none

noncomputable def makeSliceOp (P : Program) (m : Mem) (t : TypeId) (l c : Value) : Res :=
  match P.underlying t, l, c with
  | some (.slice e), .int .i64 n, .int .i64 k => (match zeroCs P e, szOf P e with
    | some z, some sz => if 0 ≤ n ∧ n ≤ k ∧ k ≤ 140737488355328 ∧ k.toNat * bytesOf P e ≤ 140737488355328 ∧ 0 < sz then
        mk (.slice (some ⟨m.next, 0, none⟩) n.toNat k.toNat) (m.push (.cells (rep k.toNat z) .exact sz))
      else none
    | _, _ => none)
  | _, _, _ => none

noncomputable def convertOp (P : Program) (m : Mem) (s d : TypeId) (x : Value) : Res :=
  match P.underlying s, P.underlying d, x with
  | some _, some (.int k), .int _ n => mk (.int k (k.wrap n)) m
  | some (.slice e), some .string, .slice a n _ => (match P.underlying e with
    | some (.int .u8) => (match sliceCs m 1 n a with
      | some cs => (match bytesOfCells cs with
        | some l => mk (.string ⟨⟨l⟩⟩) m
        | none => none)
      | none => none)
    | _ => none)
  | _, _, _ => none

/-- A row of bytes to its own type: no cell changes, and the model marks the row's end. -/
noncomputable def selfConv (P : Program) (m : Mem) (s d : TypeId) (x : Value) : Res :=
  match P.underlying s, P.underlying d, x with
  | some (.slice _), some (.slice e), .slice (some ⟨g, off, none⟩) n (c + 1) => (match P.underlying e, m.b.get g with
    | some (.int .u8), some (.cells (_ :: _) k _) => cond (isRo k) none (cond (Nat.beq s d) (mk (.slice (some ⟨g, off, none⟩) n (c + 1)) m) none)
    | _, _ => none)
  | _, _, _ => none

noncomputable def convOp (P : Program) (m : Mem) (s d : TypeId) (x : Value) : Res :=
  match P.underlying d with
  | some (.slice _) => selfConv P m s d x
  | _ => convertOp P m s d x

noncomputable def sliceOp (P : Program) (m : Mem) (t : TypeId) (x : Value) (lo hi mx : Option (Option Int)) : Res :=
  match lo, hi, mx with
  | some lo, some hi, some mx =>
    (match P.underlying t, x with
    | some (.array n e), .pointer (some ⟨g, off, none⟩) => (match szOf P e with
      | some sz => lift m (sliceOf (some (g, off)) sz n n lo hi mx)
      | none => none)
    | some (.slice e), .slice (some ⟨g, off, none⟩) len cap => (match szOf P e, m.b.get g with
      | some sz, some (.cells _ k bsz) => cond (Nat.beq bsz sz || !isGrow k) (lift m (sliceOf (some (g, off)) sz len cap lo hi mx)) none
      | _, _ => none)
    | some (.slice e), .slice none 0 0 => (match szOf P e with
      | some sz => lift m (sliceOf none sz 0 0 lo hi mx)
      | none => none)
    | _, _ => none)
  | _, _, _ => none

noncomputable def indexAddrOp (P : Program) (m : Mem) (t : TypeId) (x i : Value) : Res :=
  match i with
  | .int _ n => (match P.underlying t, x with
    | some (.array len e), .pointer (some ⟨g, off, none⟩) => (match szOf P e with
      | some sz => if 0 ≤ n ∧ n < len then mk (.pointer (some ⟨g, off + n.toNat * sz, none⟩)) m else none
      | none => none)
    | some (.slice e), .slice (some ⟨g, off, none⟩) len _ => (match szOf P e with
      | some sz => if 0 ≤ n ∧ n < len then mk (.pointer (some ⟨g, off + n.toNat * sz, none⟩)) m else none
      | none => none)
    | _, _ => none)
  | _ => none

noncomputable def indexOp (P : Program) (m : Mem) (t : TypeId) (x i : Value) : Res :=
  match i with
  | .int _ n => (match P.underlying t, x with
    | some (.array len e), .agg ⟨cs⟩ => (match szOf P e with
      | some sz => if 0 ≤ n ∧ n < len then lift m (partOf P e cs (n.toNat * sz)) else none
      | none => none)
    | some .string, .string s => (match n with
      | .ofNat j => (match s[j]? with
        | some b => mk (.int .u8 b.toNat) m
        | none => none)
      | _ => none)
    | _, _ => none)
  | _ => none

noncomputable def fieldAddrOp (P : Program) (m : Mem) (t : TypeId) (x : Value) (f : Nat) : Res :=
  match x, fieldOf P t f with
  | .pointer (some ⟨g, off, none⟩), some fd => (match szOf P fd.type with
    | some (_ + 1) => mk (.pointer (some ⟨g, off + fd.offset, none⟩)) m
    | _ => none)
  | _, _ => none

noncomputable def fieldOp (P : Program) (m : Mem) (t : TypeId) (x : Value) (f : Nat) : Res :=
  match x, fieldOf P t f with
  | .agg ⟨cs⟩, some fd => lift m (partOf P fd.type cs fd.offset)
  | _, _ => none

noncomputable def storeOp (P : Program) (m : Mem) (t : TypeId) (a x : Value) : Res :=
  match a, cellsOf x, szOf P t with
  | .pointer (some ⟨g, off, none⟩), some cs, some sz => cond (Nat.beq cs.length sz)
    (match wr m g off cs with
    | some m' => mk (.tuple #[]) m'
    | none => none) none
  | _, _, _ => none

noncomputable def loadOp (P : Program) (m : Mem) (t : TypeId) (a : Value) : Res :=
  match a with
  | .pointer (some ⟨g, off, none⟩) => lift m (loadT P m t g off)
  | _ => none

noncomputable def allocOp (P : Program) (m : Mem) (t : TypeId) : Res :=
  match zeroCs P t, szOf P t with
  | some cs, some sz => mk (.pointer (some ⟨m.next, 0, none⟩)) (m.push (.cells cs .exact sz))
  | _, _ => none

noncomputable def boxOp (P : Program) (m : Mem) (t : TypeId) (x : Value) : Res :=
  match cellsOf x, szOf P t with
  | some cs, some sz => mk (.pointer (some ⟨m.next, 0, none⟩)) (m.push (.cells cs .exact sz))
  | _, _ => none

def allVB : List Value → Bool
  | [] => true
  | v :: r => (cellsOf v).isSome && allVB r

noncomputable def funcOp (m : Mem) (fn : Fn) (first cap : List Value) : Res :=
  cond (allVB first && allVB cap) (mk (.func fn ⟨first⟩ ⟨cap⟩) m) none

noncomputable def callOp (P : Program) (call : CallF) (tm : PM Value) (m : Mem) (c : Call) : Res :=
  match c.callee with
  | .value f => (match ev tm f with
    | .func (.func f) ⟨first⟩ ⟨cap⟩ => call f (first ++ c.args.toList.map (ev tm) ++ cap) m
    | _ => none)
  | .builtin b => builtin P tm m b c.args.toList c.argTypes.toList
  | _ => none

noncomputable def stepOp (P : Program) (call : CallF) (tm : PM Value) (m : Mem) : Op → Res
  | .move x => mk (ev tm x) m
  | .assign x => mk (ev tm x) m
  | .pick c a b => (match ev tm c with
    | .bool t => mk (cond t (ev tm a) (ev tm b)) m
    | _ => none)
  | .alloc e => allocOp P m e
  | .box e x => boxOp P m e (ev tm x)
  | .build t ps => buildOp P m t (ps.toList.map fun p => (p.1, ev tm p.2))
  | .buildSlice t n ps => buildSliceOp P m t n (ps.toList.map fun p => (p.1, ev tm p.2))
  | .load t a => loadOp P m t (ev tm a)
  | .store t a x => storeOp P m t (ev tm a) (ev tm x)
  | .nilCheck x => (match ev tm x with
    | .pointer (some a) => mk (.pointer (some a)) m
    | _ => none)
  | .binOp op t x y _ => lift m (bin P op t (ev tm x) (ev tm y))
  | .unOp op _ x => lift m (un op (ev tm x))
  | .convert s d x => convOp P m s d (ev tm x)
  | .makeFunc fn first cap => funcOp m fn (first.toList.map (ev tm)) (cap.toList.map (ev tm))
  | .makeMap _ r => (match r with
    | none => mk (.map (some m.next)) (m.push (.map [] 0))
    | _ => none)
  | .makeSlice t l c => makeSliceOp P m t (ev tm l) (ev tm c)
  | .slice t x lo hi mx => sliceOp P m t (ev tm x) (optI tm lo) (optI tm hi) (optI tm mx)
  | .fieldAddr t x f => fieldAddrOp P m t (ev tm x) f
  | .field t x f => fieldOp P m t (ev tm x) f
  | .indexAddr t x i => indexAddrOp P m t (ev tm x) (ev tm i)
  | .index t x i => indexOp P m t (ev tm x) (ev tm i)
  | .extract t i => (match ev tm t with
    | .tuple vs => lift m vs[i]?
    | _ => none)
  | .call c => callOp P call tm m c
  | _ => none

end Go.Abs
