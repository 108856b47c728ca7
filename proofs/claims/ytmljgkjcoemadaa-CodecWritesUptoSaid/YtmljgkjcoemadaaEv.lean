/-
  A plain reading of code: 'W' tells by computation what must hold for a piece of code to end in a wanted state, over frames that are functions.
  'W_sound': what it tells is enough for the model's own 'Code.wp'. 'CallsR': a call returns. No fact about any program stands here.
-/
import Derived.Tactics
import Derived.Orders
import Derived.KernelRfl
import Derived.Below
namespace Go.Ev
open Go
/-- A frame as a function. -/
abbrev Fr := Nat → Value
def Fr.put (f : Fr) (d : Nat) (v : Value) : Fr := fun i => bif Nat.beq i d then v else f i
def Fr.putO (f : Fr) (d : Option Tmp) (v : Value) : Fr := match d with | some d => f.put d v | none => f
def ev (f : Fr) : Operand → Value
  | .tmp t => f t
  | .const v => v
  | .global g => .pointer (some ⟨g, 0, none⟩)
  | .func g => .func (.func g) #[] #[]
def isC : Operand → Bool | .const _ => true | _ => false
/-- An action ends well, and then K. -/
def semW {α : Type} (P : Program) (m : Sem α) (w : World) (K : α → World → Prop) : Prop := ∃ v w', m.run P w = .ok v w' ∧ K v w'
/-- A call returns a value, and then K. -/
def CallsR (P : Program) (f : FuncId) (args : Array Value) (w : World) (K : Value → World → Prop) : Prop := Calls P f args w fun e w' => ∃ v, e = .returned v ∧ K v w'
def okCall (P : Program) (g : FuncId) : Bool := match P.funcs[g]? with
  | some fn => fn.body.isSome && !(fn.name == "runtime.NumGoroutine")
  | none => false
/-- A function value is called. -/
def dynW (P : Program) (v : Value) (args : Array Value) (w : World) (K : Value → World → Prop) : Prop :=
  ∃ g first cap, v = .func (.func g) first cap ∧ okCall P g = true ∧ CallsR P g (first ++ args ++ cap) w K
/-- A method is called through an interface. -/
def invW (P : Program) (r : Value) (m : String) (args : Array Value) (w : World) (K : Value → World → Prop) : Prop :=
  ∃ t v f x, r = .iface t v ∧ (method (P.types.size + Made.depth) t v m).run P w = .ok (f, x) w ∧ okCall P f = true ∧ CallsR P f (#[x] ++ args) w K
def valueN (r : Sem Next) : Sem Value := do
  match ← r with
  | .value v => pure v
  | _ => stuck ""
/-- The built-in functions that give a value. -/
def bltS (b : Builtin) (argTypes : Array TypeId) (type : TypeId) (args : Array Value) : Sem Value :=
  match b with
  | .append => Builtin.append_ argTypes type args
  | .cap => Builtin.cap_ argTypes type args
  | .clear => Builtin.clear_ argTypes type args
  | .copy => Builtin.copy_ argTypes type args
  | .delete => Builtin.delete_ argTypes type args
  | .len => Builtin.len_ argTypes type args
  | .max => Builtin.max_ argTypes type args
  | .min => Builtin.min_ argTypes type args
  | .unsafeSlice => Builtin.unsafeSlice_ argTypes type args
  | .unsafeSliceData => Builtin.unsafeSliceData_ argTypes type args
  | .unsafeString => Builtin.unsafeString_ argTypes type args
  | .unsafeStringData => Builtin.unsafeStringData_ argTypes type args
  | _ => stuck ""
/-- A value that is there, and then K. -/
def optW (o : Option Value) (w : World) (K : Value → World → Prop) : Prop := match o with
  | some v => K v w
  | none => False
def pickO (c a b : Value) : Option Value := match c with
  | .bool true => some a
  | .bool false => some b
  | _ => none
def nilO (x : Value) : Option Value := match x with
  | .pointer none | .nilIface | .nilFunc | .func .. => none
  | x => some x
def binI (o : BinOp) (k : IntKind) (a b : Int) : Option Value := match o with
  | .add => some (.int k (k.wrap (a + b)))
  | .sub => some (.int k (k.wrap (a - b)))
  | .mul => some (.int k (k.wrap (a * b)))
  | .quo => if b = 0 then none else some (.int k (k.wrap (a.tdiv b)))
  | .rem => if b = 0 then none else some (.int k (a.tmod b))
  | .and => some (.int k (k.wrap (BitVec.ofInt k.bits a &&& BitVec.ofInt k.bits b).toNat))
  | .or => some (.int k (k.wrap (BitVec.ofInt k.bits a ||| BitVec.ofInt k.bits b).toNat))
  | .xor => some (.int k (k.wrap (BitVec.ofInt k.bits a ^^^ BitVec.ofInt k.bits b).toNat))
  | .andNot => some (.int k (k.wrap (BitVec.ofInt k.bits a &&& ~~~BitVec.ofInt k.bits b).toNat))
  | .lss => some (.bool (decide (a < b)))
  | .leq => some (.bool (decide (a ≤ b)))
  | .gtr => some (.bool (decide (a > b)))
  | .geq => some (.bool (decide (a ≥ b)))
  | .eql => some (.bool (a == b))
  | .neq => some (.bool (a != b))
  | _ => none
def binT (o : BinOp) (a b : ByteArray) : Option Value := match o with
  | .add => if ((a.size + b.size : Nat) : Int) ≤ IntKind.i64.max then some (.string (a ++ b)) else none
  | .eql => some (.bool (a.toList == b.toList))
  | .neq => some (.bool (!(a.toList == b.toList)))
  | .lss => some (.bool (Op.bytesLess a.toList b.toList))
  | .leq => some (.bool (Op.bytesLess a.toList b.toList || a.toList == b.toList))
  | .gtr => some (.bool !(Op.bytesLess a.toList b.toList || a.toList == b.toList))
  | .geq => some (.bool !Op.bytesLess a.toList b.toList)
  | _ => none
/-- Arithmetic, comparison and joining of whole numbers and strings. -/
def arO (o : BinOp) (x y : Value) : Option Value := match x, y with
  | .int k a, .int k' b => if k = k' then binI o k a b else none
  | .string a, .string b => binT o a b
  | _, _ => none
def shO (o : BinOp) (x y : Value) : Option Value := match x, y with
  | .int k a, .int _ b => if 0 ≤ b then (match o with
    | .shl => some (.int k (k.wrap (a * 2 ^ min b.toNat k.bits)))
    | .shr => some (.int k (a.fdiv (2 ^ min b.toNat k.bits)))
    | _ => none) else none
  | _, _ => none
/-- '==' and '!=' where the type is a number's, a truth value's or a string's. -/
def eqO (neq : Bool) (x y : Value) : Option Value := match x, y with
  | .int k a, .int k' b => if k = k' then some (.bool (bif neq then a != b else a == b)) else none
  | .string a, .string b => some (.bool (bif neq then !(a.toList == b.toList) else a.toList == b.toList))
  | _, _ => none
def eqB (neq : Bool) (x y : Value) : Option Value := match x, y with
  | .bool a, .bool b => some (.bool (bif neq then !(a == b) else a == b))
  | _, _ => none
def unO (o : UnOp) (x : Value) : Option Value := match o, x with
  | .neg, .int k n => some (.int k (k.wrap (0 - n)))
  | .xor, .int k n => some (.int k (k.wrap (BitVec.ofInt k.bits (if k.signed then -1 else k.max) ^^^ BitVec.ofInt k.bits n).toNat))
  | .not, .bool b => some (.bool (!b))
  | _, _ => none
def cvO (k : IntKind) (x : Value) : Option Value := match x with
  | .int _ n => some (.int k (k.wrap n))
  | _ => none
def fadO (off : Nat) (x : Value) : Option Value := match x with
  | .pointer (some a) => some (.pointer (some (a.add off)))
  | _ => none
def ixA (len sz : Nat) (x i : Value) : Option Value := match x, i with
  | .pointer (some a), .int _ n => if 0 ≤ n ∧ n < len then some (.pointer (some (a.add (n.toNat * sz)))) else none
  | _, _ => none
def ixS (sz : Nat) (x i : Value) : Option Value := match x, i with
  | .slice (some a) len _, .int _ n => if 0 ≤ n ∧ n < len then some (.pointer (some (a.add (n.toNat * sz)))) else none
  | _, _ => none
def partO (agg : Bool) (off sz : Nat) (cs : Array Value) : Option Value := bif agg then some (.agg (cs.extract off (off + sz))) else cs[off]?
def fldO (agg : Bool) (off sz : Nat) (x : Value) : Option Value := match x with
  | .agg cs => partO agg off sz cs
  | _ => none
def idxO (agg : Bool) (len sz : Nat) (x i : Value) : Option Value := match x, i with
  | .agg cs, .int _ n => if 0 ≤ n ∧ n < len then partO agg (n.toNat * sz) sz cs else none
  | _, _ => none
def idxT (x i : Value) : Option Value := match x, i with
  | .string s, .int _ n => if 0 ≤ n then (match s[n.toNat]? with | some b => some (.int .u8 b.toNat) | none => none) else none
  | _, _ => none
def bndO (x : Value) (most : Nat) : Option Nat := match x with
  | .int _ n => if 0 ≤ n ∧ n ≤ most then some n.toNat else none
  | _ => none
/-- The three bounds of a slice. -/
def bndsO (len cap : Nat) (lo hi mx : Option Value) : Option (Nat × Nat × Nat) :=
  match (match mx with | some v => bndO v cap | none => some cap) with
  | none => none
  | some m => match (match hi, mx with | some v, _ => bndO v m | none, none => some len | none, some _ => none) with
    | none => none
    | some h => match (match lo with | some v => bndO v h | none => some 0) with
      | none => none
      | some l => some (l, h, m)
def slS (sz : Nat) (x : Value) (lo hi mx : Option Value) : Option Value := match x with
  | .slice a len cap => (match bndsO len cap lo hi mx with
    | some (l, h, m) => some (.slice (if m = l then a else a.map (·.add (l * sz))) (h - l) (m - l))
    | none => none)
  | _ => none
def slA (n sz : Nat) (x : Value) (lo hi mx : Option Value) : Option Value := match x with
  | .pointer (some a) => (match bndsO n n lo hi mx with
    | some (l, h, m) => some (.slice (some (if m = l then a else a.add (l * sz))) (h - l) (m - l))
    | none => none)
  | _ => none
def slT (x : Value) (lo hi : Option Value) : Option Value := match x with
  | .string s => (match bndsO s.size s.size lo hi none with
    | some (l, h, _) => some (.string (s.extract l h))
    | none => none)
  | _ => none
def lenS (x : Value) : Option Value := match x with
  | .slice _ n _ => some (.int .i64 n)
  | _ => none
def lenT (x : Value) : Option Value := match x with
  | .string s => some (.int .i64 s.size)
  | _ => none
def extO (x : Value) (i : Nat) : Option Value := match x with
  | .tuple vs => vs[i]?
  | _ => none
/-- Cells that are read. -/
def ld1 (x : Value) (w : World) : Option Value := match x with
  | .pointer (some a) => w.cell? a
  | _ => none
def rowO (w : World) (a : Addr) : Nat → Nat → Option (List Value)
  | _, 0 => some []
  | i, n + 1 => match w.cell? (a.add i) with
    | some v => (match rowO w a (i + 1) n with | some vs => some (v :: vs) | none => none)
    | none => none
def ldN (n : Nat) (x : Value) (w : World) : Option Value := match x with
  | .pointer (some a) => (match rowO w a 0 n with | some vs => some (.agg vs.toArray) | none => none)
  | _ => none
def u8s : List Value → Option (List UInt8)
  | [] => some []
  | .int .u8 n :: vs => (match u8s vs with | some l => some (UInt8.ofNat n.toNat :: l) | none => none)
  | _ => none
/-- Bytes as a string. -/
def strO (x : Value) (w : World) : Option Value := match x with
  | .slice none _ _ => some (.string .empty)
  | .slice (some a) n _ => (match rowO w a 0 n with
    | some vs => (match u8s vs with | some l => some (.string ⟨l.toArray⟩) | none => none)
    | none => none)
  | _ => none
/-- Cells that are written. -/
def okSt (w : World) (a : Addr) (v : Value) : Prop := (∃ u, w.cell? a = some u) ∧ w.frozen? a = false ∧ v.oneCell' = true
def stW : List Value → Addr → Nat → World → (World → Prop) → Prop
  | [], _, _, w, K => K w
  | v :: vs, a, i, w, K => okSt w (a.add i) v ∧ stW vs a (i + 1) (w.setCell (a.add i) v) K
def st1 (x v : Value) (w : World) (K : World → Prop) : Prop := match x with
  | .pointer (some a) => okSt w a v ∧ K (w.setCell a v)
  | _ => False
def stN (n : Nat) (x v : Value) (w : World) (K : World → Prop) : Prop := match x with
  | .pointer (some a) => v.cells.size = n ∧ stW v.cells.toList a 0 w K
  | _ => False
/-- A new block. -/
def newW (cs : Array Value) (t : TypeId) (w : World) (K : Value → World → Prop) : Prop := K (.pointer (some ⟨w.heap.size, 0, none⟩)) (w.alloc (.cells cs t))
/-- What the type table says. -/
def zCells (P : Program) (t : TypeId) : Array Value := match P.info? t with
  | some i => (match i.zero with | some v => v.cells | none => #[])
  | none => #[]
def zSome (P : Program) (t : TypeId) : Bool := match P.info? t with
  | some i => i.zero.isSome
  | none => false
def szOf (P : Program) (t : TypeId) : Nat := match P.info? t with
  | some i => i.size
  | none => 0
def hasT (P : Program) (t : TypeId) : Bool := match P.info? t with
  | some _ => true
  | none => false
def aggT (P : Program) (t : TypeId) : Bool := match P.underlying t with
  | some (.struct _) | some (.array _ _) => true
  | _ => false
def unkW (P : Program) (w : World) (K : Value → World → Prop) (m : Sem Value) : Prop := semW P m w K
def drw (w : World) (K : World → Prop) : Prop := K w.drew
def loadW (P : Program) (t : TypeId) (x : Value) (w : World) (K : Value → World → Prop) : Prop := bif aggT P t then optW (ldN (szOf P t) x w) w K else optW (ld1 x w) w K
def storeW (P : Program) (t : TypeId) (x v : Value) (w : World) (K : World → Prop) : Prop := bif aggT P t then stN (szOf P t) x v w K else bif Nat.beq (szOf P t) 1 then st1 x v w K else stN (szOf P t) x v w K
def convW (P : Program) (s d : TypeId) (x : Value) (w : World) (K : Value → World → Prop) : Prop := match P.underlying s, P.underlying d with
  | some (.int _), some (.int k) => optW (cvO k x) w K
  | some (.slice e), some .string => (match P.underlying e with | some (.int .u8) => optW (strO x w) w K | _ => semW P (convert s d x) w K)
  | _, _ => semW P (convert s d x) w K
def sliceW (P : Program) (t : TypeId) (x : Value) (lo hi mx : Option Value) (w : World) (K : Value → World → Prop) : Prop := match P.underlying t with
  | some (.slice e) => optW (slS (szOf P e) x lo hi mx) w K
  | some (.array n e) => optW (slA n (szOf P e) x lo hi mx) w K
  | some .string => (match mx with | none => optW (slT x lo hi) w K | some _ => False)
  | _ => False
def fieldAddrW (P : Program) (s : TypeId) (x : Value) (i : Nat) (w : World) (K : Value → World → Prop) : Prop := match P.underlying s with
  | some (.struct fs) => (match fs.toList[i]? with
    | some f => bif Nat.beq (szOf P f.type) 0 then semW P (Instr.fieldAt s x i) w K else optW (fadO f.offset x) w K
    | none => False)
  | _ => False
def fieldW (P : Program) (s : TypeId) (x : Value) (i : Nat) (w : World) (K : Value → World → Prop) : Prop := match P.underlying s with
  | some (.struct fs) => (match fs.toList[i]? with
    | some f => optW (fldO (aggT P f.type) f.offset (szOf P f.type) x) w K
    | none => False)
  | _ => False
def indexAddrW (P : Program) (t : TypeId) (x i : Value) (w : World) (K : Value → World → Prop) : Prop := match P.underlying t with
  | some (.array n e) => optW (ixA n (szOf P e) x i) w K
  | some (.slice e) => optW (ixS (szOf P e) x i) w K
  | _ => False
def indexW (P : Program) (t : TypeId) (x i : Value) (w : World) (K : Value → World → Prop) : Prop := match P.underlying t with
  | some (.array n e) => optW (idxO (aggT P e) n (szOf P e) x i) w K
  | some .string => optW (idxT x i) w K
  | _ => False
def ifaceW (P : Program) (t : TypeId) (x : Value) (w : World) (K : Value → World → Prop) : Prop := match P.underlying t with
  | some (.interface _) | none => False
  | some _ => K (.iface t x) w
def bltW (P : Program) (b : Builtin) (argTypes : Array TypeId) (ty : TypeId) (args : List Value) (w : World) (K : Value → World → Prop) : Prop := match b, argTypes.toList, args with
  | .len, [t], [x] => (match P.underlying t with
    | some (.slice _) => optW (lenS x) w K
    | some .string => optW (lenT x) w K
    | some (.array n _) => K (.int .i64 n) w
    | _ => semW P (bltS b argTypes ty args.toArray) w K)
  | _, _, _ => semW P (bltS b argTypes ty args.toArray) w K
def eqTypeW (P : Program) (o : BinOp) (neq : Bool) (t : TypeId) (x y : Operand) (u v : Value) (w : World) (K : Value → World → Prop) : Prop :=
  match P.underlying t with
  | some (.int _) | some .string => optW (eqO neq u v) w K
  | some .bool => optW (eqB neq u v) w K
  | _ => semW P (do eqGuard o t (bif isC x then .const undef else .tmp 0) (bif isC y then .const undef else .tmp 0) u v; binOp o t u v) w K
def oev (f : Fr) (x : Option Operand) : Option Value := match x with | some x => some (ev f x) | none => none
/-- One operation; ext: the functions without a body of their own. -/
def OpS (P : Program) (ext : Nat → Bool) (f : Fr) (op : Op) (ty : TypeId) (w : World) (K : Value → World → Prop) : Prop :=
  match op with
  | .move x | .assign x => K (ev f x) w
  | .pick c a b => optW (pickO (ev f c) (ev f a) (ev f b)) w K
  | .alloc t => newW (zCells P t) t w K
  | .box t x => newW (ev f x).cells t w K
  | .build t parts => semW P (Instr.build t (parts.toList.map fun (i, x) => (i, ev f x)).toArray) w K
  | .buildSlice t len parts => semW P (Instr.buildSlice t len (parts.toList.map fun (i, x) => (i, ev f x)).toArray) w K
  | .load t a => loadW P t (ev f a) w K
  | .store t a x => storeW P t (ev f a) (ev f x) w fun w => K undef w
  | .nilCheck x => optW (nilO (ev f x)) w K
  | .binOp o t x y _ => match o with
    | .eql => eqTypeW P .eql false t x y (ev f x) (ev f y) w K
    | .neq => eqTypeW P .neq true t x y (ev f x) (ev f y) w K
    | .shl => optW (shO .shl (ev f x) (ev f y)) w K
    | .shr => optW (shO .shr (ev f x) (ev f y)) w K
    | o => optW (arO o (ev f x) (ev f y)) w K
  | .unOp o _ x => optW (unO o (ev f x)) w K
  | .convert s d x => convW P s d (ev f x) w K
  | .makeInterface t x => ifaceW P t (ev f x) w K
  | .makeFunc fn first cap => K (.func fn (first.toList.map (ev f)).toArray (cap.toList.map (ev f)).toArray) w
  | .makeMap t r => semW P (Instr.makeMap t (oev f r)) w K
  | .makeSlice t l c => semW P (Instr.makeSlice t (ev f l) (ev f c)) w K
  | .slice t x lo hi mx => sliceW P t (ev f x) (oev f lo) (oev f hi) (oev f mx) w K
  | .fieldAddr s x i => fieldAddrW P s (ev f x) i w K
  | .field t x i => fieldW P t (ev f x) i w K
  | .indexAddr t x i => indexAddrW P t (ev f x) (ev f i) w K
  | .index t x i => indexW P t (ev f x) (ev f i) w K
  | .lookup t x i ok => semW P (Instr.lookup t (ev f x) (ev f i) ok) w K
  | .mapUpdate t m k x | .insert t m k x => semW P (Instr.mapUpdate t (ev f m) (ev f k) (ev f x)) w fun _ w => K undef w
  | .mapEntry t m k => semW P (Instr.mapEntry t (ev f m) (ev f k)) w K
  | .entryStore t m s x => semW P (Instr.entryStore t (ev f m) (ev f s) (ev f x)) w fun _ w => K undef w
  | .range t x => semW P (Instr.range t (ev f x)) w K
  | .next it s => semW P (Instr.next (ev f it) s ty) w K
  | .entry it => semW P (Instr.entry (ev f it)) w K
  | .typeAssert x t a ok => semW P (Instr.typeAssert (ev f x) t a ok) w K
  | .extract x i => optW (extO (ev f x) i) w K
  | .call c => match c.callee with
    | .value (.func g) => bif ext g then semW P (valueN (callFunc g (c.args.toList.map (ev f)).toArray)) w K else CallsR P g (c.args.toList.map (ev f)).toArray w K
    | .value x => dynW P (ev f x) (c.args.toList.map (ev f)).toArray w K
    | .invoke r m => invW P (ev f r) m (c.args.toList.map (ev f)).toArray w K
    | .builtin b => bltW P b c.argTypes ty (c.args.toList.map (ev f)) w K
  | _ => False
/-- An operation under a guard that says 'where it is b'. -/
def gOp (c : Value) (b : Bool) (w : World) (run : (Value → World → Prop) → Prop) (K : Value → World → Prop) : Prop := match c with
  | .bool x => bif x == b then run K else K undef w
  | _ => K undef w
def guardOf (ops : List Oper) (f : Fr) (j : Nat) : Value := match ops[j]? with
  | some o => (match o.dst with | some d => f d | none => undef)
  | none => undef
/-- Operations one behind the other. -/
noncomputable def Ops (P : Program) (ext : Nat → Bool) (ops : List Oper) (l : List Oper) : Fr → World → (Fr → World → Prop) → Prop :=
  List.rec (motive := fun _ => Fr → World → (Fr → World → Prop) → Prop) (fun f w K => K f w) (fun o _ ih f w K => match o.guard with
    | none => OpS P ext f o.op o.type w fun v w => ih (f.putO o.dst v) w K
    | some (j, b) => gOp (guardOf ops f j) b w (fun K => OpS P ext f o.op o.type w K) fun v w => ih (f.putO o.dst v) w K) l
/-- Whatever order the edges allow. -/
def anyW (P : Program) (ext : Nat → Bool) (ops : Array Oper) (K : Fr → World → Prop) : Nat → Array Bool → Fr → World → Prop
  | 0, _, f, w => K f w
  | n + 1, listed, f, w => (Region.ready .any ops listed = [] → K f w) ∧
    ∀ i ∈ Region.ready .any ops listed, ∀ o, ops[i]? = some o → match o.guard with
      | none => OpS P ext f o.op o.type w fun v w => anyW P ext ops K n (listed.setIfInBounds i true) (f.putO o.dst v) w
      | some (j, b) => gOp (guardOf ops.toList f j) b w (fun K => OpS P ext f o.op o.type w K) fun v w => anyW P ext ops K n (listed.setIfInBounds i true) (f.putO o.dst v) w
def drawW (P : Program) (ext : Nat → Bool) (ops : List Oper) (f : Fr) (w : World) (K : Fr → World → Prop) : Prop :=
  anyW P ext ops.toArray K ops.toArray.size (Array.replicate ops.toArray.size false) f { w with drawn := w.drawn + 1 }
/-- What kind of operation: 0: it looks at its operands alone; 1: at memory, too; 2: anything. -/
def clsOp (P : Program) : Op → Nat
  | .move _ | .assign _ | .pick .. | .nilCheck _ | .unOp .. | .extract .. | .field .. | .indexAddr .. | .index .. | .makeInterface .. | .makeFunc .. => 0
  | .slice .. => 0
  | .fieldAddr s _ i => (match P.underlying s with
    | some (.struct fs) => (match fs.toList[i]? with | some f => bif Nat.beq (szOf P f.type) 0 then 2 else 0 | none => 2)
    | _ => 2)
  | .binOp o t _ _ _ => (match o with
    | .eql | .neq => (match P.underlying t with | some (.int _) | some .string | some .bool => 0 | _ => 2)
    | _ => 0)
  | .convert s d _ => (match P.underlying s, P.underlying d with
    | some (.int _), some (.int _) => 0
    | some (.slice e), some .string => (match P.underlying e with | some (.int .u8) => 1 | _ => 2)
    | _, _ => 2)
  | .load .. => 1
  | .call c => (match c.callee, c.argTypes.toList, c.args.toList with
    | .builtin .len, [t], [_] => (match P.underlying t with | some (.slice _) | some .string | some (.array ..) => 0 | _ => 2)
    | _, _, _ => 2)
  | _ => 2
/-- Slots that an operation looks at. -/
def usesOp (o : Op) : List Nat := match o with
  | .move x | .assign x | .box _ x | .load _ x | .nilCheck x | .unOp _ _ x | .convert _ _ x | .makeInterface _ x | .fieldAddr _ x _ | .field _ x _ | .extract x _ | .range _ x | .next x _ | .entry x | .typeAssert x _ _ _ => us [x]
  | .pick c a b => us [c, a, b]
  | .build _ ps | .buildSlice _ _ ps => us (ps.toList.map (·.2))
  | .store _ a v | .binOp _ _ a v _ | .makeSlice _ a v | .indexAddr _ a v | .index _ a v | .lookup _ a v _ | .mapEntry _ a v => us [a, v]
  | .makeFunc _ a b => us (a.toList ++ b.toList)
  | .makeMap _ r => us r.toList
  | .slice _ x l h m => us (x :: (l.toList ++ h.toList ++ m.toList))
  | .mapUpdate _ m k v | .insert _ m k v | .entryStore _ m k v => us [m, k, v]
  | .call c => us ((match c.callee with | .value f => [f] | .invoke r _ => [r] | .builtin _ => []) ++ c.args.toList)
  | _ => []
where us (l : List Operand) : List Nat := l.filterMap fun | .tmp t => some t | _ => none
def edgesOf (o : Oper) : List Nat := o.after.toList.filterMap fun e => bif Region.binds .any e then some e.on else none
def maskOf (ms : List Nat) (es : List Nat) : Nat := es.foldl (fun m e => m ||| 2 ^ e ||| ms.getD e 0) 0
/-- For each operation the mask of all that go ahead of it. -/
def masks : List Oper → List Nat → List Nat
  | [], ms => ms
  | o :: os, ms => masks os (ms ++ [maskOf ms (edgesOf o)])
def usesG (ops : List Oper) (o : Oper) : List Nat := (match o.guard with | some (j, _) => (match ops[j]? with | some g => g.dst.toList | none => []) | none => []) ++ usesOp o.op
def apartO (a b : Option Nat) : Bool := match a, b with | some x, some y => !(Nat.beq x y) | _, _ => true
def notIn (a : Option Nat) (l : List Nat) : Bool := match a with | some x => l.all fun y => !(Nat.beq x y) | none => true
def commO (rd : Bool) (P : Program) (ops : List Oper) (a b : Oper) : Bool :=
  (bif rd then (Nat.ble (clsOp P a.op) 1 || Nat.ble (clsOp P b.op) 1) else (Nat.beq (clsOp P a.op) 0 || Nat.beq (clsOp P b.op) 0 || (Nat.ble (clsOp P a.op) 1 && Nat.ble (clsOp P b.op) 1))) &&
  apartO a.dst b.dst && notIn a.dst (usesG ops b) && notIn b.dst (usesG ops a)
def calmAt (rd : Bool) (P : Program) (ops : List Oper) (m : Nat) (b : Oper) : List Oper → Nat → Bool
  | [], _ => true
  | a :: as, j => (Nat.testBit m j || commO rd P ops a b) && calmAt rd P ops m b as (j + 1)
def calmFrom (rd : Bool) (P : Program) (ops : List Oper) (ms : List Nat) : List Oper → Nat → Bool
  | [], _ => true
  | b :: bs, i => (edgesOf b).all (fun e => Nat.blt e i) && calmAt rd P ops (ms.getD i 0) b (ops.take i) 0 && calmFrom rd P ops ms bs (i + 1)
/-- Whatever order the edges allow comes to what the order of the text comes to. -/
def calm (P : Program) (ops : List Oper) : Bool := calmFrom false P ops (masks ops []) ops 0
/-- The same, where what is loaded stays as it is throughout. -/
def calmI (P : Program) (ops : List Oper) : Bool := calmFrom true P ops (masks ops []) ops 0
def Cnd (v : Value) (A B : Prop) : Prop := match v with
  | .bool true => A
  | .bool false => B
  | _ => False
/-- Where a piece of code is left. -/
def seqQ (N : Fr → World → Prop) (Q : Exit → Fr → World → Prop) : Exit → Fr → World → Prop
  | .normal, f, w => N f w
  | e, f, w => Q e f w
def blkQ (id : Nat) (Q : Exit → Fr → World → Prop) : Exit → Fr → World → Prop
  | .exit i, f, w => bif Nat.beq i id then Q .normal f w else Q (.exit i) f w
  | e, f, w => Q e f w
/-- A loop: it ends within k rounds. -/
noncomputable def It (body : (Exit → Fr → World → Prop) → Fr → World → Prop) (Q : Exit → Fr → World → Prop) (k : Nat) : Fr → World → Prop :=
  Nat.rec (motive := fun _ => Fr → World → Prop) (fun _ _ => False) (fun _ ih f w => body (seqQ ih Q) f w) k
/-- What must hold ahead of a piece of code. -/
noncomputable def W (P : Program) (ext : Nat → Bool) (c : Code) : (Exit → Fr → World → Prop) → Fr → World → Prop :=
  Code.rec (motive := fun _ => (Exit → Fr → World → Prop) → Fr → World → Prop)
    (fun Q f w => Q .normal f w)
    (fun _ ops draw Q f w => bif draw then (bif calm P ops.toList then Ops P ext ops.toList ops.toList f w.drew (Q .normal) else drawW P ext ops.toList f w (Q .normal)) else Ops P ext ops.toList ops.toList f w (Q .normal))
    (fun _ _ wa wb Q f w => wa (seqQ (wb Q) Q) f w)
    (fun c _ _ wa wb Q f w => Cnd (ev f c) (wa Q f w) (wb Q f w))
    (fun id _ wc Q f w => wc (blkQ id Q) f w)
    (fun _ wc Q f w => ∃ k, It wc Q k f w)
    (fun _ _ _ _ _ _ _ _ _ => False)
    (fun id Q f w => Q (.exit id) f w)
    (fun _ _ _ _ _ => False)
    (fun _ Q f w => Q .normal f w)
    (fun l Q f w => Q (.goto l) f w)
    (fun Q f w => Q .ret f w)
    (fun _ _ _ _ => False) c
/-- What is looked at once for each function: where results go, that there is a body where one is said to be. -/
def okDst (n : Nat) (o : Oper) : Bool := match o.dst with | some d => Nat.ble (d + 1) n | none => true
def okOp (P : Program) (ext : Nat → Bool) : Op → Bool
  | .call c => (match c.callee with | .value (.func g) => ext g || okCall P g | _ => true)
  | .alloc t => zSome P t
  | .load t _ | .store t _ _ => hasT P t && (P.underlying t).isSome
  | .slice t _ _ _ _ | .indexAddr t _ _ | .index t _ _ => (match P.underlying t with | some (.slice e) | some (.array _ e) => hasT P e && (P.underlying e).isSome | _ => true)
  | .fieldAddr s _ i | .field s _ i => (match P.underlying s with | some (.struct fs) => (match fs.toList[i]? with | some f => hasT P f.type && (P.underlying f.type).isSome | none => true) | _ => true)
  | _ => true
def okCode (P : Program) (ext : Nat → Bool) (n : Nat) : Code → Bool
  | .region _ ops _ => ops.toList.all fun o => okDst n o && okOp P ext o.op
  | .seq a b => okCode P ext n a && okCode P ext n b
  | .cond _ a b => okCode P ext n a && okCode P ext n b
  | .block _ c | .loop c => okCode P ext n c
  | _ => true
/-- The model's frame and ours. -/
def Rel (n : Nat) (a : Act) (f : Fr) : Prop := a.tmps.size = n ∧ a.defers = [] ∧ ∀ i, a.tmps.getD i undef = f i
theorem Rel.ev {n : Nat} {a : Act} {f : Fr} (h : Rel n a f) : a.eval = ev f := by
  funext x
  cases x with
  | tmp t => exact h.2.2 t
  | const v => rfl
  | global g => rfl
  | func g => rfl
theorem Rel.put {n : Nat} {a : Act} {f : Fr} (h : Rel n a f) (d : Option Tmp) (v : Value) (hd : ∀ x, d = some x → x < n) : Rel n (a.put d v) (f.putO d v) := by
  cases d with
  | none => exact h
  | some d =>
    obtain ⟨h1, h2, h3⟩ := h
    refine ⟨by simp [Act.put, h1], by simpa [Act.put] using h2, fun i => ?_⟩
    have hlt := hd d rfl
    simp only [Act.put, Fr.putO, Fr.put]
    by_cases hi : i = d
    · subst hi
      simp [Array.getD_eq_getD_getElem?, h1, hlt, Nat.beq_refl]
    · have : Nat.beq i d = false := by cases hb : Nat.beq i d with | false => rfl | true => exact absurd (Nat.eq_of_beq_eq_true hb) hi
      rw [this, cond_false, ← h3 i]
      simp [Array.getD_eq_getD_getElem?, Array.getElem?_setIfInBounds_ne (Ne.symm hi)]
theorem semW_mono {α : Type} {P : Program} {m : Sem α} {w : World} {K K' : α → World → Prop} (h : semW P m w K) (hk : ∀ v w, K v w → K' v w) : semW P m w K' :=
  let ⟨v, w', a, b⟩ := h; ⟨v, w', a, hk _ _ b⟩
theorem CallsR.mono {P : Program} {f : FuncId} {args : Array Value} {w : World} {K K' : Value → World → Prop} (h : CallsR P f args w K) (hk : ∀ v w, K v w → K' v w) : CallsR P f args w K' :=
  Calls.mono h fun _ _ ⟨v, e, k⟩ => ⟨v, e, hk _ _ k⟩
theorem run_value {P : Program} {m : Sem Value} {w w' : World} {v : Value} (h : m.run P w = .ok v w') : (do pure (Next.value (← m)) : Sem Next).run P w = .ok (.value v) w' := by
  rw [Sem.run_bind, h]; rfl
theorem run_unit {P : Program} {m : Sem Unit} {w w' : World} {v : Unit} (h : m.run P w = .ok v w') : (do m; pure Next.skip : Sem Next).run P w = .ok .skip w' := by
  rw [Sem.run_bind, h]; rfl
theorem run_valueN {P : Program} {m : Sem Next} {w w' : World} {v : Value} (h : (valueN m).run P w = .ok v w') : m.run P w = .ok (.value v) w' := by
  unfold valueN at h
  rw [Sem.run_bind] at h
  cases hm : m.run P w with
  | halt x y => rw [hm] at h; simp at h
  | ok x y =>
    rw [hm] at h
    cases x <;> simp [stuck, Sem.run] at h
    obtain ⟨rfl, rfl⟩ := h
    rfl
theorem run_callFunc {P : Program} {g : FuncId} {args : Array Value} (w : World) (h : okCall P g = true) : (callFunc g args).run P w = .ok (.enter g args) w := by
  unfold okCall at h
  cases hg : P.funcs[g]? with
  | none => rw [hg] at h; simp at h
  | some fn =>
    rw [hg] at h
    simp only [Bool.and_eq_true, Bool.not_eq_true'] at h
    obtain ⟨h1, h2⟩ := h
    have h1' : fn.body.isNone = false := by cases hb : fn.body <;> simp [hb] at h1 ⊢
    show (Sem.run P (match P.funcs[g]? with | none => _ | some fn => _) w) = _
    rw [hg]
    simp only [h2, h1']
    rfl
section
variable {P : Program} {ext : Nat → Bool} {a : Act} {f : Fr} {K' : Act → World → Prop} {Q : Exit → Act → World → Prop} {w : World}
theorem upon_value {o : Oper} {K : Value → World → Prop} {m : Sem Value} (he : execOp a.eval o = do pure (Next.value (← m))) (hk : ∀ v w, K v w → K' (a.put o.dst v) w) (h : semW P m w K) : o.wp P a w K' Q := by
  obtain ⟨v, w', hr, hv⟩ := h
  unfold Oper.wp
  rw [he, run_value hr]
  exact hk v w' hv
theorem upon_unit {o : Oper} {K : Value → World → Prop} {m : Sem Unit} (he : execOp a.eval o = do m; pure Next.skip) (hk : ∀ v w, K v w → K' (a.put o.dst v) w) (h : semW P m w fun _ w => K undef w) : o.wp P a w K' Q := by
  obtain ⟨v, w', hr, hv⟩ := h
  unfold Oper.wp
  rw [he, run_unit hr]
  exact hk undef w' hv
theorem upon_valueN {o : Oper} {K : Value → World → Prop} {m : Sem Next} (he : execOp a.eval o = m) (hk : ∀ v w, K v w → K' (a.put o.dst v) w) (h : semW P (valueN m) w K) : o.wp P a w K' Q := by
  obtain ⟨v, w', hr, hv⟩ := h
  unfold Oper.wp
  rw [he, run_valueN hr]
  exact hk v w' hv
theorem upon_call {o : Oper} {K : Value → World → Prop} {g : FuncId} {args : Array Value} (he : (execOp a.eval o).run P w = .ok (.enter g args) w) (hk : ∀ v w, K v w → K' (a.put o.dst v) w) (h : CallsR P g args w K) : o.wp P a w K' Q := by
  unfold Oper.wp
  rw [he]
  refine Calls.mono h ?_
  rintro e w' ⟨v, rfl, hv⟩
  exact hk v w' hv
theorem map_eq {α β : Type} (xs : Array α) (g : α → β) : (xs.toList.map g).toArray = xs.map g := by
  rw [← Array.toList_map]
theorem eqGuard_alike {o : BinOp} {t : TypeId} {x y x' y' : Operand} {u v : Value} (hx : isC x = isC x') (hy : isC y = isC y') : eqGuard o t x y u v = eqGuard o t x' y' u v := by
  cases x <;> cases y <;> cases x' <;> cases y' <;> simp [isC] at hx hy <;> rfl
theorem isC_pick (x : Operand) : isC (bif isC x then .const undef else .tmp 0) = isC x := by cases x <;> rfl
theorem upon_opt {o : Oper} {K : Value → World → Prop} {m : Sem Value} {O : Option Value} (he : execOp a.eval o = do pure (Next.value (← m))) (hk : ∀ v w, K v w → K' (a.put o.dst v) w) (hm : ∀ v, O = some v → m.run P w = .ok v w) (h : optW O w K) : o.wp P a w K' Q := by
  cases O with
  | none => exact h.elim
  | some v => exact upon_value he hk ⟨v, w, hm v rfl, h⟩
end
section
variable {P : Program} {w : World}
theorem rUnd {t : TypeId} {d : TypeDesc} (h : P.underlying t = some d) : (underlying t).run P w = .ok d w := by
  unfold underlying
  rw [Sem.run_bind]
  show ((Result.ok P w).andThen _) = _
  rw [Result.andThen_ok, h]
  rfl
theorem rInfo {t : TypeId} {i : TypeInfo} (h : P.info? t = some i) : (typeInfo t).run P w = .ok i w := by
  unfold typeInfo
  rw [Sem.run_bind]
  show ((Result.ok P w).andThen _) = _
  rw [Result.andThen_ok, h]
  rfl
theorem rSize {t : TypeId} (h : hasT P t = true) : (sizeOf t).run P w = .ok (szOf P t) w := by
  unfold hasT at h
  unfold sizeOf szOf
  cases hi : P.info? t with
  | none => rw [hi] at h; simp at h
  | some i =>
    rw [Sem.run_bind, rInfo hi, Result.andThen_ok]
    rfl
theorem rAgg {t : TypeId} (h : (P.underlying t).isSome = true) : (isAgg t).run P w = .ok (aggT P t) w := by
  unfold isAgg aggT
  cases hd : P.underlying t with
  | none => rw [hd] at h; simp at h
  | some d =>
    rw [Sem.run_bind, rUnd hd, Result.andThen_ok]
    cases d <;> rfl
theorem rZero {t : TypeId} (h : zSome P t = true) : ∃ v, (zeroValue t).run P w = .ok v w ∧ v.cells = zCells P t := by
  unfold zSome at h
  unfold zeroValue zCells
  cases hi : P.info? t with
  | none => rw [hi] at h; simp at h
  | some i =>
    rw [hi] at h
    simp only at h ⊢
    cases hz : i.zero with
    | none => rw [hz] at h; simp at h
    | some v => exact ⟨v, by rw [Sem.run_bind, rInfo hi, Result.andThen_ok, hz]; rfl, rfl⟩
theorem rLoad {a : Addr} {v : Value} (h : w.cell? a = some v) : (load a).run P w = .ok v w := by
  simp [load, Sem.run, h]
theorem rLoadFrom (a : Addr) : ∀ (n i : Nat) (acc : Array Value) (vs : List Value), rowO w a i n = some vs → (loadCellsFrom a i n acc).run P w = .ok (acc ++ vs.toArray) w
  | 0, i, acc, vs, h => by
    simp only [rowO, Option.some.injEq] at h
    subst h
    simp [loadCellsFrom]
  | n + 1, i, acc, vs, h => by
    unfold rowO at h
    cases hc : w.cell? (a.add i) with
    | none => rw [hc] at h; simp at h
    | some v =>
      rw [hc] at h
      simp only at h
      cases hr : rowO w a (i + 1) n with
      | none => rw [hr] at h; simp at h
      | some us =>
        rw [hr] at h
        simp only [Option.some.injEq] at h
        subst h
        unfold loadCellsFrom
        rw [Sem.run_bind, rLoad hc, Result.andThen_ok, rLoadFrom a n (i + 1) (acc.push v) us hr]
        congr 1
        apply Array.ext'
        simp
theorem rLoadVar {t : TypeId} {x : Value} {K : Value → World → Prop} (h1 : hasT P t = true) (h2 : (P.underlying t).isSome = true) (h : loadW P t x w K) : semW P (Instr.loadAt t x) w K := by
  unfold loadW at h
  cases x with
  | pointer a =>
    cases a with
    | none => cases hg : aggT P t <;> (rw [hg] at h; exact h.elim)
    | some a =>
      unfold semW Instr.loadAt
      rw [Sem.run_bind]
      show ∃ v w', ((Result.ok a w).andThen _) = _ ∧ _
      rw [Result.andThen_ok]
      unfold loadVar
      rw [Sem.run_bind, rAgg h2, Result.andThen_ok]
      cases hg : aggT P t with
      | true =>
        rw [hg, cond_true] at h
        simp only [ldN] at h
        cases hr : rowO w a 0 (szOf P t) with
        | none => rw [hr] at h; exact h.elim
        | some vs =>
          rw [hr] at h
          refine ⟨_, w, ?_, h⟩
          rw [if_pos rfl, Sem.run_bind, rSize h1, Result.andThen_ok, Sem.run_bind]
          unfold loadCells
          rw [rLoadFrom a _ 0 #[] vs hr]
          simp
      | false =>
        rw [hg, cond_false] at h
        simp only [ld1] at h
        cases hr : w.cell? a with
        | none => rw [hr] at h; exact h.elim
        | some v =>
          rw [hr] at h
          exact ⟨v, w, by rw [if_neg (by simp)]; exact rLoad hr, h⟩
  | _ => cases hg : aggT P t <;> (rw [hg] at h; exact h.elim)
theorem rStore {a : Addr} {v : Value} (h : okSt w a v) : (store a v).run P w = .ok () (w.setCell a v) := by
  obtain ⟨⟨u, hu⟩, hf, h1⟩ := h
  unfold store
  cases v <;> first | (simp [Value.oneCell'] at h1; done) | simp [Sem.run, hu, hf]
theorem rStoreCells {K : World → Prop} : ∀ (vs : List Value) (a : Addr) (i : Nat) (w : World), stW vs a i w K → ∃ w', (storeCells a vs i).run P w = .ok () w' ∧ K w'
  | [], a, i, w, h => ⟨w, rfl, h⟩
  | v :: vs, a, i, w, h => by
    obtain ⟨w', h1, h2⟩ := rStoreCells vs a (i + 1) _ h.2
    refine ⟨w', ?_, h2⟩
    unfold storeCells
    rw [Sem.run_bind, rStore h.1, Result.andThen_ok, h1]
theorem rStoreVar {t : TypeId} {x v : Value} {K : World → Prop} (h1 : hasT P t = true) (h : storeW P t x v w K) : semW P (Instr.storeAt t x v) w fun _ w => K w := by
  have key : ∀ n, szOf P t = n → stN n x v w K → semW P (Instr.storeAt t x v) w fun _ w => K w := by
    clear h
    intro n hn h
    unfold stN at h
    split at h
    · rename_i a
      obtain ⟨hs, h⟩ := h
      obtain ⟨w', h3, h4⟩ := rStoreCells (P := P) _ _ _ _ h
      refine ⟨(), w', ?_, h4⟩
      unfold Instr.storeAt storeVar
      rw [Sem.run_bind]
      show ((Result.ok a w).andThen _) = _
      rw [Result.andThen_ok, Sem.run_bind, rSize h1, Result.andThen_ok, if_neg (by omega)]
      exact h3
    · exact h.elim
  unfold storeW at h
  cases hg : aggT P t with
  | true => rw [hg, cond_true] at h; exact key _ rfl h
  | false =>
  rw [hg, cond_false] at h
  cases hn : Nat.beq (szOf P t) 1 with
  | false => rw [hn, cond_false] at h; exact key _ rfl h
  | true =>
    rw [hn, cond_true] at h
    refine key 1 (Nat.eq_of_beq_eq_true hn) ?_
    unfold st1 at h
    split at h
    · have hc : v.cells = #[v] := by
        have := h.1.2.2
        cases v <;> simp [Value.oneCell'] at this <;> rfl
      refine ⟨by rw [hc]; rfl, ?_⟩
      rw [hc]
      exact ⟨h.1, h.2⟩
    · exact h.elim
theorem rAsInt {i : Value} {k : IntKind} {n : Int} (h : i = .int k n) : (asIntOf i).run P w = .ok (k, n) w := by subst h; rfl
theorem rPart {t : TypeId} {cs : Array Value} {off : Nat} {v : Value} (h1 : hasT P t = true) (h2 : (P.underlying t).isSome = true) (h : partO (aggT P t) off (szOf P t) cs = some v) : (part t cs off).run P w = .ok v w := by
  unfold part
  rw [Sem.run_bind, rAgg h2, Result.andThen_ok]
  unfold partO at h
  cases hg : aggT P t with
  | true =>
    rw [hg, cond_true] at h
    simp only [Option.some.injEq] at h
    rw [if_pos rfl, Sem.run_bind, rSize h1, Result.andThen_ok]
    subst h
    rfl
  | false =>
    rw [hg, cond_false] at h
    rw [if_neg (by simp), h]
    rfl
theorem rField {t : TypeId} {fs : Array Field} {f : Field} {x v : Value} {i : Nat} (hu : P.underlying t = some (.struct fs)) (hf : fs.toList[i]? = some f) (h1 : hasT P f.type = true) (h2 : (P.underlying f.type).isSome = true)
    (h : fldO (aggT P f.type) f.offset (szOf P f.type) x = some v) : (Instr.field t x i).run P w = .ok v w := by
  unfold Instr.field
  rw [Sem.run_bind, rUnd hu, Result.andThen_ok]
  simp only
  rw [← Array.getElem?_toList, hf]
  unfold fldO at h
  split at h
  · simp only
    rw [Sem.run_bind]
    show ((Result.ok _ w).andThen _) = _
    rw [Result.andThen_ok]
    exact rPart h1 h2 h
  · simp at h
theorem rFieldAddr {t : TypeId} {fs : Array Field} {f : Field} {x v : Value} {i : Nat} (hu : P.underlying t = some (.struct fs)) (hf : fs.toList[i]? = some f) (h1 : hasT P f.type = true) (h2 : Nat.beq (szOf P f.type) 0 = false)
    (h : fadO f.offset x = some v) : (Instr.fieldAt t x i).run P w = .ok v w := by
  have h2 : szOf P f.type ≠ 0 := by intro e; rw [e] at h2; simp at h2
  unfold Instr.fieldAt
  rw [Sem.run_bind, rUnd hu, Result.andThen_ok]
  simp only
  rw [← Array.getElem?_toList, hf]
  simp only
  unfold fadO at h
  split at h
  · rename_i a
    rw [Sem.run_bind]
    show ((Result.ok a w).andThen _) = _
    rw [Result.andThen_ok, Sem.run_bind]
    unfold fieldPlace
    rw [Sem.run_bind, rSize h1, Result.andThen_ok, if_neg h2]
    simp only [Option.some.injEq] at h
    subst h
    rfl
  · simp at h
theorem rIndexS {t e : TypeId} {x i v : Value} (hu : P.underlying t = some (.slice e)) (h1 : hasT P e = true) (h : ixS (szOf P e) x i = some v) : (Instr.indexAt t x i).run P w = .ok v w := by
  unfold ixS at h
  split at h
  · rename_i a len c k n
    split at h
    · rename_i hb
      unfold Instr.indexAt
      rw [Sem.run_bind, rAsInt rfl, Result.andThen_ok]
      simp only
      rw [Sem.run_bind, rUnd hu, Result.andThen_ok]
      simp only
      rw [Sem.run_bind, Sem.run_pure, Result.andThen_ok]
      rw [Sem.run_bind, rUnd hu, Result.andThen_ok]
      simp only
      rw [if_pos hb, Sem.run_bind, rSize h1, Result.andThen_ok]
      simp only [Option.some.injEq] at h
      subst h
      rfl
    · simp at h
  · simp at h
theorem rIndexA {t e : TypeId} {m : Nat} {x i v : Value} (hu : P.underlying t = some (.array m e)) (h1 : hasT P e = true) (h : ixA m (szOf P e) x i = some v) : (Instr.indexAt t x i).run P w = .ok v w := by
  unfold ixA at h
  split at h
  · rename_i a k n
    split at h
    · rename_i hb
      unfold Instr.indexAt
      rw [Sem.run_bind, rAsInt rfl, Result.andThen_ok]
      simp only
      rw [Sem.run_bind, rUnd hu, Result.andThen_ok]
      simp only
      rw [Sem.run_bind]
      show ((Result.ok a w).andThen _) = _
      rw [Result.andThen_ok, Sem.run_bind, Sem.run_pure, Result.andThen_ok]
      rw [Sem.run_bind, rUnd hu, Result.andThen_ok]
      simp only
      rw [if_pos hb, Sem.run_bind, rSize h1, Result.andThen_ok]
      simp only [Option.some.injEq] at h
      subst h
      rfl
    · simp at h
  · simp at h
theorem rIdxA {t e : TypeId} {m : Nat} {x i v : Value} (hu : P.underlying t = some (.array m e)) (h1 : hasT P e = true) (h2 : (P.underlying e).isSome = true) (h : idxO (aggT P e) m (szOf P e) x i = some v) : (Instr.index t x i).run P w = .ok v w := by
  unfold idxO at h
  split at h
  · rename_i cs k n
    split at h
    · rename_i hb
      unfold Instr.index
      rw [Sem.run_bind, rAsInt rfl, Result.andThen_ok]
      simp only
      rw [Sem.run_bind, rUnd hu, Result.andThen_ok]
      simp only
      rw [if_pos hb, Sem.run_bind, rSize h1, Result.andThen_ok]
      exact rPart h1 h2 h
    · simp at h
  · simp at h
theorem rIdxT {t : TypeId} {x i v : Value} (hu : P.underlying t = some .string) (h : idxT x i = some v) : (Instr.index t x i).run P w = .ok v w := by
  unfold idxT at h
  split at h
  · rename_i s k n
    split at h
    · rename_i hb
      split at h
      · rename_i b hs
        simp only [Option.some.injEq] at h
        subst h
        unfold Instr.index
        rw [Sem.run_bind, rAsInt rfl, Result.andThen_ok]
        simp only
        rw [Sem.run_bind, rUnd hu, Result.andThen_ok]
        simp only
        rw [if_pos hb, hs]
        rfl
      · simp at h
    · simp at h
  · simp at h
theorem rBnd {x : Value} {most m : Nat} (c : BoundsCode) (h : bndO x most = some m) : (Instr.sliceBound x most c).run P w = .ok m w := by
  unfold bndO at h
  split at h
  · rename_i k n
    split at h
    · rename_i hb
      simp only [Option.some.injEq] at h
      subst h
      unfold Instr.sliceBound
      rw [Sem.run_bind, rAsInt rfl, Result.andThen_ok]
      simp only
      rw [if_pos hb]
      rfl
    · simp at h
  · simp at h
theorem rBnds {s : Bool} {len cap l h' m : Nat} {lo hi mx : Option Value} (h : bndsO len cap lo hi mx = some (l, h', m)) : (Instr.sliceBounds s len cap lo hi mx).run P w = .ok (l, h', m) w := by
  unfold bndsO at h
  split at h
  · simp at h
  · rename_i m0 hm
    split at h
    · simp at h
    · rename_i h0 hh
      split at h
      · simp at h
      · rename_i l0 hl
        simp only [Option.some.injEq, Prod.mk.injEq] at h
        obtain ⟨rfl, rfl, rfl⟩ := h
        cases mx <;> cases hi <;> cases lo <;> simp only [Option.some.injEq, reduceCtorEq] at hm hh hl <;> (try subst hm) <;> (try subst hh) <;> (try subst hl) <;> simp only [Instr.sliceBounds] <;>
          (repeat (first | rw [rBnd _ hm, Result.andThen_ok] | rw [rBnd _ hh, Result.andThen_ok] | rw [rBnd _ hl, Result.andThen_ok] | rw [Sem.run_bind] | rw [Sem.run_pure, Result.andThen_ok])) <;> rfl
theorem rSliceS {t e : TypeId} {x v : Value} {lo hi mx : Option Value} (hu : P.underlying t = some (.slice e)) (h1 : hasT P e = true) (h : slS (szOf P e) x lo hi mx = some v) : (Instr.sliceAt t x lo hi mx).run P w = .ok v w := by
  unfold slS at h
  split at h
  · rename_i a len cap
    split at h
    · rename_i l h' m hb
      simp only [Option.some.injEq] at h
      subst h
      unfold Instr.sliceAt
      rw [Sem.run_bind, rUnd hu, Result.andThen_ok]
      simp only
      unfold Instr.slice
      rw [Sem.run_bind, rUnd hu, Result.andThen_ok]
      simp only
      rw [Sem.run_bind, rBnds hb, Result.andThen_ok]
      simp only
      rw [Sem.run_bind, rSize h1, Result.andThen_ok]
      rfl
    · simp at h
  · simp at h
theorem rSliceA {t e : TypeId} {k : Nat} {x v : Value} {lo hi mx : Option Value} (hu : P.underlying t = some (.array k e)) (h1 : hasT P e = true) (h : slA k (szOf P e) x lo hi mx = some v) : (Instr.sliceAt t x lo hi mx).run P w = .ok v w := by
  unfold slA at h
  split at h
  · rename_i a
    split at h
    · rename_i l h' m hb
      simp only [Option.some.injEq] at h
      subst h
      unfold Instr.sliceAt
      rw [Sem.run_bind, rUnd hu, Result.andThen_ok]
      simp only
      rw [Sem.run_bind]
      show ((Result.ok a w).andThen _) = _
      rw [Result.andThen_ok, Sem.run_bind, rBnds hb, Result.andThen_ok]
      simp only
      rw [Sem.run_bind, rSize h1, Result.andThen_ok]
      rfl
    · simp at h
  · simp at h
theorem rSliceT {t : TypeId} {x v : Value} {lo hi : Option Value} (hu : P.underlying t = some .string) (h : slT x lo hi = some v) : (Instr.sliceAt t x lo hi none).run P w = .ok v w := by
  unfold slT at h
  split at h
  · rename_i s
    split at h
    · rename_i l h' m hb
      simp only [Option.some.injEq] at h
      subst h
      unfold Instr.sliceAt
      rw [Sem.run_bind, rUnd hu, Result.andThen_ok]
      simp only
      unfold Instr.slice
      rw [Sem.run_bind, rUnd hu, Result.andThen_ok]
      show (Sem.run P (do let (l, h, _) ← Instr.sliceBounds false s.size s.size lo hi none; pure (Value.string (s.extract l h)) : Sem Value) w) = _
      rw [Sem.run_bind, rBnds hb, Result.andThen_ok]
      rfl
    · simp at h
  · simp at h
theorem rBinI {o : BinOp} {t : TypeId} {k : IntKind} {a b : Int} {v : Value} (ho : o ≠ .shl ∧ o ≠ .shr) (h : binI o k a b = some v) : (binOp o t (.int k a) (.int k b)).run P w = .ok v w := by
  cases o <;> simp only [binI] at h <;> first | (simp at h; done) | exact absurd rfl ho.1 | exact absurd rfl ho.2 | (simp only [Option.some.injEq] at h; subst h; simp [binOp, Op.intArith, Op.intBits, Op.intCmp]; done) | skip
  all_goals
    split at h
    · simp at h
    · rename_i hb
      simp only [Option.some.injEq] at h
      subst h
      simp [binOp, Op.intDiv, hb]
theorem rBinT {o : BinOp} {t : TypeId} {a b : ByteArray} {v : Value} (h : binT o a b = some v) : (binOp o t (.string a) (.string b)).run P w = .ok v w := by
  cases o <;> simp only [binT] at h <;> first | (simp at h; done) | (simp only [Option.some.injEq] at h; subst h; simp [binOp, Op.stringOp]; done) | skip
  split at h
  · rename_i hb
    simp only [Option.some.injEq] at h
    subst h
    simp only [binOp, Op.stringOp]
    rw [if_neg (by omega)]
    rfl
  · simp at h
theorem rAr {o : BinOp} {t : TypeId} {x y v : Value} (ho : o ≠ .shl ∧ o ≠ .shr) (h : arO o x y = some v) : (binOp o t x y).run P w = .ok v w := by
  unfold arO at h
  split at h
  · split at h
    · rename_i hk; subst hk; exact rBinI ho h
    · simp at h
  · exact rBinT h
  · simp at h
theorem rSh {o : BinOp} {t : TypeId} {x y v : Value} (h : shO o x y = some v) : (binOp o t x y).run P w = .ok v w := by
  unfold shO at h
  split at h
  · split at h
    · rename_i hb
      cases o <;> simp only [] at h <;> first | (simp at h; done) | (simp only [Option.some.injEq] at h; subst h; simp only [binOp, Op.shift]; rw [if_neg (by omega)]; rfl)
    · simp at h
  · simp at h
theorem rEq {o : BinOp} {neq : Bool} {t : TypeId} {x y : Operand} {u v r : Value} (ho : o = bif neq then .neq else .eql) (h : eqO neq u v = some r) : (do eqGuard o t x y u v; binOp o t u v : Sem Value).run P w = .ok r w := by
  have hg : ∀ {u v : Value}, (match u, v with | .nilIface, _ => False | .agg _, _ => False | _, _ => True) → eqGuard o t x y u v = pure () := by
    intro u v hc
    unfold eqGuard
    cases u <;> first | exact hc.elim | (split <;> rfl)
  unfold eqO at h
  split at h
  · split at h
    · rename_i hk
      subst hk
      simp only [Option.some.injEq] at h
      subst h
      rw [hg trivial]
      cases neq <;> (subst ho; simp [binOp, Op.intCmp])
    · simp at h
  · simp only [Option.some.injEq] at h
    subst h
    rw [hg trivial]
    cases neq <;> (subst ho; simp [binOp, Op.stringOp])
  · simp at h
theorem rEqB {o : BinOp} {neq : Bool} {t : TypeId} {x y : Operand} {u v r : Value} (ho : o = bif neq then .neq else .eql) (hd : P.underlying t = some .bool) (h : eqB neq u v = some r) : (do eqGuard o t x y u v; binOp o t u v : Sem Value).run P w = .ok r w := by
  unfold eqB at h
  split at h
  · rename_i a b
    simp only [Option.some.injEq] at h
    subst h
    have hg : eqGuard o t x y (.bool a) (.bool b) = pure () := by
      unfold eqGuard
      split <;> rfl
    rw [hg]
    have he : (Op.equal t (.bool a) (.bool b)).run P w = .ok (a == b) w := by
      unfold Op.equal Op.maxDepth Op.equalIn
      rw [Sem.run_bind, rUnd hd, Result.andThen_ok]
      rfl
    cases neq
    · subst ho
      show (Sem.run P (do pure (Value.bool (← Op.equal t (.bool a) (.bool b))) : Sem Value) w) = _
      rw [Sem.run_bind, he]
      rfl
    · subst ho
      show (Sem.run P (do pure (Value.bool (!(← Op.equal t (.bool a) (.bool b)))) : Sem Value) w) = _
      rw [Sem.run_bind, he]
      rfl
  · simp at h
theorem rUn {o : UnOp} {x v : Value} (h : unO o x = some v) : (Op.unary o x).run P w = .ok v w := by
  unfold unO at h
  split at h
  · simp only [Option.some.injEq] at h; subst h; rfl
  · simp only [Option.some.injEq] at h; subst h; rfl
  · simp only [Option.some.injEq] at h; subst h; rfl
  · simp at h
theorem rBytes {vs : List Value} : ∀ (l : List UInt8) (s : ByteArray), u8s vs = some l → (forIn vs s fun c s => (match c with
      | .int .u8 n => pure (ForInStep.yield (s.push (UInt8.ofNat n.toNat)))
      | _ => do stuck "bytesToString: byte expected"; pure (ForInStep.yield s) : Sem (ForInStep ByteArray))).run P w = .ok ⟨(s.data.toList ++ l).toArray⟩ w := by
  induction vs with
  | nil => intro l s h; simp only [u8s, Option.some.injEq] at h; subst h; simp
  | cons v vs ih =>
    intro l s h
    unfold u8s at h
    split at h
    · simp_all
    · rename_i n us heq
      cases heq
      cases hu : u8s vs with
      | none => rw [hu] at h; simp at h
      | some l' =>
        rw [hu] at h
        simp only [Option.some.injEq] at h
        subst h
        rw [List.forIn_cons, Sem.run_bind]
        simp only [Sem.run_pure, Result.andThen_ok]
        rw [ih l' _ hu]
        simp [ByteArray.push]
    · simp at h
theorem rStr {s d e : TypeId} {x v : Value} (hs : P.underlying s = some (.slice e)) (he : P.underlying e = some (.int .u8)) (hd : P.underlying d = some .string) (h : strO x w = some v) : (convert s d x).run P w = .ok v w := by
  have key : (convert s d x).run P w = (Conv.bytesToString x).run P w := by
    unfold convert
    rw [Sem.run_bind, rUnd hs, Result.andThen_ok, Sem.run_bind, rUnd hd, Result.andThen_ok]
    unfold strO at h
    split at h
    · rw [Sem.run_bind, rUnd he, Result.andThen_ok]
    · rw [Sem.run_bind, rUnd he, Result.andThen_ok]
    · simp at h
  rw [key]
  unfold strO at h
  split at h
  · simp only [Option.some.injEq] at h; subst h; rfl
  · split at h
    · rename_i vs hr
      split at h
      · rename_i l hl
        simp only [Option.some.injEq] at h
        subst h
        unfold Conv.bytesToString
        simp only
        rw [Sem.run_bind]
        unfold loadCells
        rw [rLoadFrom _ _ 0 #[] vs hr, Result.andThen_ok, Sem.run_bind]
        have e2 := rBytes (P := P) (w := w) l .empty hl
        simp only [Array.empty_append]
        rw [← Array.forIn_toList]
        rw [show (vs.toArray).toList = vs from rfl]
        refine (congrArg (fun r => Result.andThen r _) e2).trans ?_
        simp only [Result.andThen_ok, Sem.run_pure]
        rfl
      · simp at h
    · simp at h
  · simp at h
theorem rLenS {t ty e : TypeId} {x v : Value} (hu : P.underlying t = some (.slice e)) (h : lenS x = some v) : (Builtin.len_ #[t] ty #[x]).run P w = .ok v w := by
  unfold lenS at h
  split at h
  · simp only [Option.some.injEq] at h
    subst h
    simp [Builtin.len_, rUnd hu, goInt]
  · simp at h
theorem rLenT {t ty : TypeId} {x v : Value} (hu : P.underlying t = some .string) (h : lenT x = some v) : (Builtin.len_ #[t] ty #[x]).run P w = .ok v w := by
  unfold lenT at h
  split at h
  · simp only [Option.some.injEq] at h
    subst h
    simp [Builtin.len_, rUnd hu, goInt]
  · simp at h
theorem rLenA {t ty e : TypeId} {n : Nat} {x : Value} (hu : P.underlying t = some (.array n e)) : (Builtin.len_ #[t] ty #[x]).run P w = .ok (.int .i64 n) w := by
  simp [Builtin.len_, rUnd hu, goInt]
end
section
variable {P : Program} {ext : Nat → Bool} {a : Act} {f : Fr} {K' : Act → World → Prop} {Q : Exit → Act → World → Prop} {w : World}
theorem upon_blt {dst : Option Tmp} {b : Builtin} {args : Array Operand} {argTypes : Array TypeId} {type : TypeId} {pos : String} {after : Array Edge} {guard : Option (Nat × Bool)} {K : Value → World → Prop} (he : a.eval = ev f)
    (hk : ∀ v w, K v w → K' (a.put dst v) w) (h : semW P (bltS b argTypes type (args.toList.map (ev f)).toArray) w K) : Oper.wp P ⟨dst, .call { callee := .builtin b, args := args, argTypes := argTypes }, type, pos, after, guard⟩ a w K' Q := by
  have hargs : (args.map a.eval) = (args.toList.map (ev f)).toArray := by rw [he, map_eq]
  obtain ⟨v, w', hr, hv⟩ := h
  unfold Oper.wp
  simp only [execOp, resolve, hargs]
  cases b <;> simp only [bltS] at hr <;> first | (simp [stuck] at hr; done) | (simp [invoke, builtin, hr]; exact hk v w' hv)
theorem OpS_sound {o : Oper} {K : Value → World → Prop} (he : a.eval = ev f) (hok : okOp P ext o.op = true) (hext : ∀ g, ext g = false → okOp P ext (.call { callee := .value (.func g), args := #[], argTypes := #[] }) = true → okCall P g = true)
    (hk : ∀ v w, K v w → K' (a.put o.dst v) w) (h : OpS P ext f o.op o.type w K) : o.wp P a w K' Q := by
  obtain ⟨dst, op, type, pos, after, guard⟩ := o
  cases op with
  | move x => exact hk _ _ (by rw [he]; exact h)
  | assign x => exact hk _ _ (by rw [he]; exact h)
  | pick c x y =>
    simp only [OpS] at h
    unfold Oper.wp
    simp only [execOp, he]
    unfold pickO at h
    split at h <;> first | exact h.elim | (rename_i hc; rw [hc]; exact hk _ _ h)
  | alloc t =>
    obtain ⟨v, hr, hz⟩ := rZero (P := P) (w := w) hok
    refine upon_value (m := Instr.alloc t true (.tuple #[])) (by simp only [execOp]) hk ⟨.pointer (some ⟨w.heap.size, 0, none⟩), w.alloc (.cells (zCells P t) t), ?_, h⟩
    unfold Instr.alloc
    rw [Sem.run_bind, hr, Result.andThen_ok, ← hz]
    rfl
  | box t x => exact upon_value (m := Instr.box t (ev f x)) (by simp only [execOp, he]) hk ⟨_, _, rfl, h⟩
  | build t parts => exact upon_value (by simp only [execOp, he]; rw [map_eq]) hk h
  | buildSlice t len parts => exact upon_value (by simp only [execOp, he]; rw [map_eq]) hk h
  | load t x =>
    simp only [okOp, Bool.and_eq_true] at hok
    exact upon_value (by simp only [execOp, he]) hk (rLoadVar hok.1 hok.2 h)
  | store t x y =>
    simp only [okOp, Bool.and_eq_true] at hok
    exact upon_unit (by simp only [execOp, he]) hk (rStoreVar hok.1 h)
  | nilCheck x =>
    have key : ∀ v, nilO (ev f x) = some v → (execOp a.eval ⟨dst, .nilCheck x, type, pos, after, guard⟩).run P w = .ok (.value v) w := by
      intro v hv
      simp only [execOp, he]
      unfold nilO at hv
      split at hv
      · simp at hv
      · simp at hv
      · simp at hv
      · simp at hv
      · rename_i h1 h2 h3 h4
        simp only [Option.some.injEq] at hv
        split
        · rename_i e; exact absurd e h1
        · rename_i e; exact absurd e h2
        · rename_i e; exact absurd e h3
        · rename_i e; exact absurd e (h4 _ _ _)
        · rw [← hv]; rfl
    simp only [OpS] at h
    cases hv : nilO (ev f x) with
    | none => rw [hv] at h; exact h.elim
    | some v =>
      rw [hv] at h
      unfold Oper.wp
      rw [key v hv]
      exact hk _ _ h
  | binOp o t x y u =>
    have key : ∀ (h : semW P (do eqGuard o t (bif isC x then .const undef else .tmp 0) (bif isC y then .const undef else .tmp 0) (ev f x) (ev f y); binOp o t (ev f x) (ev f y)) w K), Oper.wp P ⟨dst, .binOp o t x y u, type, pos, after, guard⟩ a w K' Q := fun h =>
      upon_value (by simp only [execOp, he]; rw [eqGuard_alike (isC_pick x) (isC_pick y)]) hk h
    have key2 : o ≠ .eql → o ≠ .neq → semW P (binOp o t (ev f x) (ev f y)) w K → Oper.wp P ⟨dst, .binOp o t x y u, type, pos, after, guard⟩ a w K' Q := fun h1 h2 h => by
      refine key ?_
      have e : eqGuard o t (bif isC x then .const undef else .tmp 0) (bif isC y then .const undef else .tmp 0) (ev f x) (ev f y) = pure () := by
        cases o <;> first | rfl | exact absurd rfl h1 | exact absurd rfl h2
      rw [e]
      exact h
    have opt : ∀ {O : Option Value} {m : Sem Value}, (∀ v, O = some v → m.run P w = .ok v w) → optW O w K → semW P m w K := fun {O m} hm h => by
      cases O with
      | none => exact h.elim
      | some v => exact ⟨v, w, hm v rfl, h⟩
    have keyE : ∀ neq, (o = bif neq then .neq else .eql) → eqTypeW P o neq t x y (ev f x) (ev f y) w K → Oper.wp P ⟨dst, .binOp o t x y u, type, pos, after, guard⟩ a w K' Q := fun neq ho h => by
      unfold eqTypeW at h
      split at h
      · exact key (opt (fun v hv => rEq ho hv) h)
      · exact key (opt (fun v hv => rEq ho hv) h)
      · rename_i hd; exact key (opt (fun v hv => rEqB ho hd hv) h)
      · exact key h
    cases o <;> first | exact keyE false rfl h | exact keyE true rfl h | exact key2 (by decide) (by decide) (opt (fun v hv => rSh hv) h) | exact key2 (by decide) (by decide) (opt (fun v hv => rAr ⟨by decide, by decide⟩ hv) h)
  | unOp o t x => exact upon_opt (by simp only [execOp, he]) hk (fun v hv => rUn hv) h
  | convert s d x =>
    simp only [OpS, convW] at h
    split at h
    · rename_i k k' hs hd
      refine upon_opt (m := convert s d (ev f x)) (by simp only [execOp, he]) hk (fun v hv => ?_) h
      unfold cvO at hv
      split at hv
      · rename_i _ k0 n hx
        simp only [Option.some.injEq] at hv
        subst hv
        rw [hx]
        unfold convert
        rw [Sem.run_bind, rUnd hs, Result.andThen_ok, Sem.run_bind, rUnd hd, Result.andThen_ok]
        rfl
      · simp at hv
    · rename_i e hs hd
      split at h
      · rename_i he8
        exact upon_opt (m := convert s d (ev f x)) (by simp only [execOp, he]) hk (fun v hv => rStr hs he8 hd hv) h
      · exact upon_value (by simp only [execOp, he]) hk h
    · exact upon_value (by simp only [execOp, he]) hk h
  | makeInterface t x =>
    simp only [OpS, ifaceW] at h
    split at h
    · exact h.elim
    · exact h.elim
    · rename_i d h1 h2
      refine upon_value (m := Instr.makeInterface t (ev f x)) (by simp only [execOp, he]) hk ⟨_, w, ?_, h⟩
      unfold Instr.makeInterface
      rw [Sem.run_bind, rUnd h2, Result.andThen_ok]
      cases d <;> first | rfl | exact (h1 _ rfl).elim
  | makeFunc fn first cap =>
    unfold Oper.wp
    simp only [execOp, he, Instr.makeFunc]
    simp only [OpS, map_eq] at h
    exact hk _ _ h
  | makeMap t r => exact upon_value (by cases r <;> simp only [execOp, he] <;> rfl) hk h
  | makeSlice t l c => exact upon_value (by simp only [execOp, he]) hk h
  | slice t x lo hi mx =>
    have key : ∀ v, (Instr.sliceAt t (ev f x) (oev f lo) (oev f hi) (oev f mx)).run P w = .ok v w → K v w → Oper.wp P ⟨dst, .slice t x lo hi mx, type, pos, after, guard⟩ a w K' Q := fun v hr hv =>
      upon_value (by cases lo <;> cases hi <;> cases mx <;> simp only [execOp, he] <;> rfl) hk ⟨v, w, hr, hv⟩
    have opt : ∀ {O : Option Value}, (∀ v, O = some v → (Instr.sliceAt t (ev f x) (oev f lo) (oev f hi) (oev f mx)).run P w = .ok v w) → optW O w K → Oper.wp P ⟨dst, .slice t x lo hi mx, type, pos, after, guard⟩ a w K' Q := fun {O} hm h => by
      cases O with
      | none => exact h.elim
      | some v => exact key v (hm v rfl) h
    simp only [OpS, sliceW] at h
    simp only [okOp] at hok
    split at h
    · rename_i e hu
      simp only [hu, Bool.and_eq_true] at hok
      exact opt (fun v hv => rSliceS hu hok.1 hv) h
    · rename_i n e hu
      simp only [hu, Bool.and_eq_true] at hok
      exact opt (fun v hv => rSliceA hu hok.1 hv) h
    · rename_i hu
      cases mx with
      | none => exact opt (fun v hv => rSliceT hu hv) h
      | some m => exact h.elim
    · exact h.elim
  | fieldAddr s x i =>
    simp only [OpS, fieldAddrW] at h
    simp only [okOp] at hok
    split at h
    · rename_i fs hu
      simp only [hu] at hok
      split at h
      · rename_i fd hf
        simp only [hf, Bool.and_eq_true] at hok
        cases hb : Nat.beq (szOf P fd.type) 0 with
        | true => rw [hb, cond_true] at h; exact upon_value (by simp only [execOp, he]) hk h
        | false => rw [hb, cond_false] at h; exact upon_opt (by simp only [execOp, he]) hk (fun v hv => rFieldAddr hu hf hok.1 hb hv) h
      · exact h.elim
    · exact h.elim
  | field t x i =>
    simp only [OpS, fieldW] at h
    simp only [okOp] at hok
    split at h
    · rename_i fs hu
      simp only [hu] at hok
      split at h
      · rename_i fd hf
        simp only [hf, Bool.and_eq_true] at hok
        exact upon_opt (by simp only [execOp, he]) hk (fun v hv => rField hu hf hok.1 hok.2 hv) h
      · exact h.elim
    · exact h.elim
  | indexAddr t x i =>
    simp only [OpS, indexAddrW] at h
    simp only [okOp] at hok
    split at h
    · rename_i n e hu
      simp only [hu, Bool.and_eq_true] at hok
      exact upon_opt (by simp only [execOp, he]) hk (fun v hv => rIndexA hu hok.1 hv) h
    · rename_i e hu
      simp only [hu, Bool.and_eq_true] at hok
      exact upon_opt (by simp only [execOp, he]) hk (fun v hv => rIndexS hu hok.1 hv) h
    · exact h.elim
  | index t x i =>
    simp only [OpS, indexW] at h
    simp only [okOp] at hok
    split at h
    · rename_i n e hu
      simp only [hu, Bool.and_eq_true] at hok
      exact upon_opt (by simp only [execOp, he]) hk (fun v hv => rIdxA hu hok.1 hok.2 hv) h
    · rename_i hu
      exact upon_opt (by simp only [execOp, he]) hk (fun v hv => rIdxT hu hv) h
    · exact h.elim
  | lookup t x i ok => exact upon_value (by simp only [execOp, he]) hk h
  | mapUpdate t m k x => exact upon_unit (by simp only [execOp, he]) hk h
  | insert t m k x => exact upon_unit (by simp only [execOp, he]) hk h
  | mapEntry t m k => exact upon_value (by simp only [execOp, he]) hk h
  | entryStore t m s x => exact upon_unit (by simp only [execOp, he]) hk h
  | range t x => exact upon_value (by simp only [execOp, he]) hk h
  | next it s => exact upon_value (by simp only [execOp, he]) hk h
  | entry it => exact upon_value (by simp only [execOp, he]) hk h
  | typeAssert x t u ok => exact upon_value (by simp only [execOp, he]) hk h
  | extract x i =>
    refine upon_opt (m := Instr.extract (ev f x) i) (by simp only [execOp, he]) hk (fun v hv => ?_) h
    unfold extO at hv
    split at hv
    · rename_i vs hx
      rw [hx]
      simp only [Instr.extract, hv]
      rfl
    · simp at hv
  | call c =>
    obtain ⟨callee, args, argTypes⟩ := c
    have hargs : (args.map a.eval) = (args.toList.map (ev f)).toArray := by rw [he, map_eq]
    cases callee with
    | value x =>
      cases x with
      | func g =>
        simp only [OpS] at h
        cases hx : ext g with
        | true =>
          rw [hx, cond_true] at h
          refine upon_valueN (m := callFunc g (args.toList.map (ev f)).toArray) ?_ hk h
          simp only [execOp, resolve, hargs]
          simp [Act.eval, Deferred.ofValue, invoke]
        | false =>
          rw [hx, cond_false] at h
          refine upon_call ?_ hk h
          simp only [execOp, resolve, hargs]
          simp [Act.eval, Deferred.ofValue, invoke]
          exact run_callFunc w (hext g hx hok)
      | _ =>
        simp only [OpS] at h
        obtain ⟨g, first, cap, hv, hg, hc⟩ := h
        refine upon_call (g := g) (args := first ++ (args.toList.map (ev f)).toArray ++ cap) ?_ hk hc
        rw [he] at hargs
        simp only [execOp, resolve, he, hargs, hv]
        generalize (args.toList.map (ev f)).toArray = A
        exact run_callFunc w hg
    | invoke r m =>
      obtain ⟨t, v, g, x, hr, hm, hg, hc⟩ := h
      refine upon_call (g := g) (args := #[x] ++ (args.toList.map (ev f)).toArray) ?_ hk hc
      rw [he] at hargs
      simp only [execOp, resolve, he, hargs, hr]
      generalize (args.toList.map (ev f)).toArray = A
      simp only [invoke, Sem.run_bind, Sem.run_pure, Result.andThen_ok]
      have e0 : (#[Value.iface t v] ++ A)[0]? = some (.iface t v) := by rw [Array.getElem?_append_left (by simp)]; rfl
      have e1 : (#[Value.iface t v] ++ A).extract 1 (#[Value.iface t v] ++ A).size = A := by
        apply Array.ext'
        simp
      rw [e0]
      have e2 : (#[Value.iface t v] ++ A).extract 1 = A := e1
      simp only [e2, callMethod]
      rw [Sem.run_bind]
      show ((Result.ok P w).andThen _) = _
      rw [Result.andThen_ok, Sem.run_bind, hm, Result.andThen_ok]
      exact run_callFunc w hg
    | builtin b =>
      simp only [OpS, bltW] at h
      split at h
      · rename_i t x ht hx
        have hat : argTypes = #[t] := by rw [← Array.toList_inj]; exact ht
        split at h
        · rename_i e hu
          refine upon_blt (f := f) he hk ?_
          rw [hx]
          subst hat
          cases hl : lenS x with
          | none => rw [hl] at h; exact h.elim
          | some v => rw [hl] at h; exact ⟨v, w, rLenS (ty := type) hu hl, h⟩
        · rename_i hu
          refine upon_blt (f := f) he hk ?_
          rw [hx]
          subst hat
          cases hl : lenT x with
          | none => rw [hl] at h; exact h.elim
          | some v => rw [hl] at h; exact ⟨v, w, rLenT (ty := type) hu hl, h⟩
        · rename_i n e hu
          refine upon_blt (f := f) he hk ?_
          rw [hx]
          subst hat
          exact ⟨_, w, rLenA (ty := type) hu, h⟩
        · exact upon_blt (f := f) he hk h
      · exact upon_blt (f := f) he hk h
  | _ => exact h.elim
end
section
variable {P : Program} {ext : Nat → Bool} {n : Nat}
theorem yielded_guard {a : Act} {f : Fr} (hr : Rel n a f) (ops : Array Oper) (j : Nat) : yielded ops a.tmps j = (match guardOf ops.toList f j with | .bool b => some b | _ => none) := by
  unfold yielded guardOf
  rw [Array.getElem?_toList]
  cases ops[j]? with
  | none => rfl
  | some o =>
    cases ho : o.dst with
    | none => simp [ho, undef]
    | some d =>
      simp only [Option.bind_some, ho]
      rw [← hr.2.2 d, Array.getD_eq_getD_getElem?]
      cases h : a.tmps[d]? with
      | none => simp [undef]
      | some v => cases v <;> simp
theorem wanted_guard {a : Act} {f : Fr} (hr : Rel n a f) (ops : Array Oper) {o : Oper} {j : Nat} {b : Bool} (hg : o.guard = some (j, b)) :
    Region.wanted o (yielded ops a.tmps) = (match guardOf ops.toList f j with | .bool x => x == b | _ => false) := by
  unfold Region.wanted
  rw [hg]
  simp only [yielded_guard hr]
  cases guardOf ops.toList f j with
  | bool x => cases x <;> cases b <;> rfl
  | _ => rfl
theorem okDst_lt {o : Oper} (h : okDst n o = true) : ∀ d, o.dst = some d → d < n := by
  intro d hd
  unfold okDst at h
  rw [hd] at h
  exact Nat.le_of_ble_eq_true h
/-- One operation under its guard. -/
theorem op_sound {a : Act} {f : Fr} {w : World} {ops : Array Oper} {o : Oper} {K' : Act → World → Prop} {K : Fr → World → Prop} {Q : Exit → Act → World → Prop} (hr : Rel n a f)
    (hd : okDst n o = true) (hok : okOp P ext o.op = true) (hext : ∀ g, ext g = false → okOp P ext (.call { callee := .value (.func g), args := #[], argTypes := #[] }) = true → okCall P g = true)
    (hk : ∀ a f w, Rel n a f → K f w → K' a w)
    (h : match o.guard with
      | none => OpS P ext f o.op o.type w fun v w => K (f.putO o.dst v) w
      | some (j, b) => gOp (guardOf ops.toList f j) b w (fun K => OpS P ext f o.op o.type w K) fun v w => K (f.putO o.dst v) w) :
    if Region.wanted o (yielded ops a.tmps) then o.wp P a w K' Q ∨ (o.asks P a w ∧ LetsOut Q) else K' (a.put o.dst undef) w := by
  have hput : ∀ v, Rel n (a.put o.dst v) (f.putO o.dst v) := fun v => hr.put _ _ (okDst_lt hd)
  cases hg : o.guard with
  | none =>
    rw [hg] at h
    rw [if_pos (by simp [Region.wanted, hg])]
    exact .inl (OpS_sound hr.ev hok hext (fun v w hv => hk _ _ _ (hput v) hv) h)
  | some jb =>
    obtain ⟨j, b⟩ := jb
    rw [hg] at h
    simp only at h
    rw [wanted_guard hr ops hg]
    unfold gOp at h
    generalize guardOf ops.toList f j = gv at h ⊢
    cases gv with
    | bool x =>
      simp only at h ⊢
      by_cases hb : (x == b) = true
      · rw [hb, cond_true] at h; rw [if_pos hb]; exact .inl (OpS_sound hr.ev hok hext (fun v w hv => hk _ _ _ (hput v) hv) h)
      · rw [Bool.not_eq_true] at hb; rw [hb, cond_false] at h; rw [if_neg (by simp [hb])]; exact hk _ _ _ (hput _) h
    | _ => (simp only at h ⊢; rw [if_neg (by simp)]; exact hk _ _ _ (hput _) h)
theorem Ops_sound (hext : ∀ g, ext g = false → okOp P ext (.call { callee := .value (.func g), args := #[], argTypes := #[] }) = true → okCall P g = true) {ops : Array Oper} {Q : Exit → Act → World → Prop} {K : Fr → World → Prop}
    (hq : ∀ a f w, Rel n a f → K f w → Q .normal a w) : ∀ (l : List Oper) (a : Act) (f : Fr) (w : World), (∀ o ∈ l, okDst n o = true ∧ okOp P ext o.op = true) → Rel n a f → Ops P ext ops.toList l f w K → wpList P ops Q l a w
  | [], a, f, w, _, hr, h => hq a f w hr h
  | o :: l, a, f, w, hl, hr, h => by
    have ho := hl o (List.mem_cons_self ..)
    unfold wpList
    exact op_sound (K := fun f w => Ops P ext ops.toList l f w K) hr ho.1 ho.2 hext (fun a f w hr h => Ops_sound hext hq l a f w (fun o' h' => hl o' (List.mem_cons_of_mem _ h')) hr h) h
theorem count_ready {ops : Array Oper} {listed : Array Bool} {i k : Nat} (hi : i ∈ Region.ready .any ops listed) (hc : listed.toList.count false = k + 1) : (listed.setIfInBounds i true).toList.count false = k := by
  unfold Region.ready at hi
  rw [List.mem_filter] at hi
  obtain ⟨_, h2⟩ := hi
  rw [Bool.and_eq_true] at h2
  have h3 := h2.1
  have hlt : i < listed.size := by
    by_cases h : i < listed.size
    · exact h
    · rw [Array.getD_eq_getD_getElem?, Array.getElem?_eq_none (by omega)] at h3; simp at h3
  have hf : listed.toList[i]'(by simpa using hlt) = false := by
    rw [Array.getD_eq_getD_getElem?, Array.getElem?_eq_getElem hlt] at h3
    simpa using h3
  rw [Array.toList_setIfInBounds, List.count_set (by simpa using hlt), hf, hc]
  simp
theorem ready_none {ops : Array Oper} {listed : Array Bool} (hc : listed.toList.count false = 0) : Region.ready .any ops listed = [] := by
  unfold Region.ready
  rw [List.filter_eq_nil_iff]
  intro i _ h
  rw [Bool.and_eq_true] at h
  have h3 := h.1
  rw [Array.getD_eq_getD_getElem?] at h3
  cases hx : listed[i]? with
  | none => rw [hx] at h3; simp at h3
  | some b =>
    rw [hx] at h3
    simp at h3
    subst h3
    rw [List.count_eq_zero] at hc
    exact hc (by rw [Array.getElem?_eq_some_iff] at hx; obtain ⟨h4, h5⟩ := hx; rw [← h5]; simp)
theorem anyW_sound (hext : ∀ g, ext g = false → okOp P ext (.call { callee := .value (.func g), args := #[], argTypes := #[] }) = true → okCall P g = true) {ops : Array Oper} {Q : Exit → Act → World → Prop} {K : Fr → World → Prop}
    (hl : ∀ o ∈ ops.toList, okDst n o = true ∧ okOp P ext o.op = true) (hq : ∀ a f w, Rel n a f → K f w → Q .normal a w) : ∀ (k : Nat) (listed : Array Bool) (a : Act) (f : Fr) (w : World), listed.toList.count false = k → Rel n a f →
    anyW P ext ops K k listed f w → wpAny P .any ops Q k listed a w
  | 0, listed, a, f, w, hc, hr, h => ⟨ready_none hc, hq a f w hr h⟩
  | k + 1, listed, a, f, w, hc, hr, h => by
    refine ⟨fun he => hq a f w hr (h.1 he), fun i hi => ?_⟩
    have h2 := h.2 i hi
    unfold wpOp
    cases ho : ops[i]? with
    | none =>
      exfalso
      unfold Region.ready at hi
      rw [List.mem_filter] at hi
      simp [ho] at hi
    | some o =>
      have hm := hl o (by rw [Array.getElem?_eq_some_iff] at ho; obtain ⟨h4, h5⟩ := ho; rw [← h5]; simp)
      exact op_sound (K := fun f w => anyW P ext ops K k (listed.setIfInBounds i true) f w) hr hm.1 hm.2 hext (fun a f w hr h => anyW_sound hext hl hq k _ a f w (count_ready hi hc) hr h) (h2 o ho)
end
end Go.Ev
