/-
  A runner of the model's code over virtual blocks: which number a block has, and what capacity the tape draws for a grown row, stay unknown. Plain definitions; that it is right is shown elsewhere.
-/
import Derived.WalkKit
namespace Go.EV
open Go
noncomputable section

/-! ## Tries -/

inductive Tr (α : Type) where
  | e
  | n (l : Tr α) (v : Option α) (r : Tr α)
def Tr.get {α : Type} (t : Tr α) : Nat → Option α :=
  Tr.rec (motive := fun _ => Nat → Option α) (fun _ => none)
    (fun _ v _ gl gr k => Bool.rec (motive := fun _ => Option α) (Nat.rec (motive := fun _ => Option α) (gl (Nat.div k 2)) (fun _ _ => gr (Nat.div k 2)) (Nat.mod k 2)) v (Nat.beq k 1)) t
def Tr.set {α : Type} (x : Option α) (f : Nat) : Tr α → Nat → Tr α :=
  Nat.rec (motive := fun _ => Tr α → Nat → Tr α) (fun t _ => t) (fun _ ih t k =>
    Tr.rec (motive := fun _ => Tr α)
      (Bool.rec (motive := fun _ => Tr α) (Nat.rec (motive := fun _ => Tr α) (.n (ih .e (Nat.div k 2)) none .e) (fun _ _ => .n .e none (ih .e (Nat.div k 2))) (Nat.mod k 2)) (.n .e x .e) (Nat.beq k 1))
      (fun l v r _ _ => Bool.rec (motive := fun _ => Tr α) (Nat.rec (motive := fun _ => Tr α) (.n (ih l (Nat.div k 2)) v r) (fun _ _ => .n l v (ih r (Nat.div k 2))) (Nat.mod k 2)) (.n l x r) (Nat.beq k 1)) t) f
--END
def tget {α : Type} (t : Tr α) (k : Nat) : Option α := t.get (Nat.succ k)
def tset {α : Type} (t : Tr α) (k : Nat) (x : Option α) : Tr α := Tr.set x (Nat.succ k) t (Nat.succ k)

/-! ## Values, blocks -/

inductive AV where
  | v (x : Value)
  | ptr (b off : Nat)
  | sl (b e0 sz len : Nat) (cap : Option Nat)
  | slz
  | map (b : Nat)
  | fn (f : FuncId) (first cap : List AV)
  | iface (t : TypeId) (x : AV)
  | agg (l : List AV)
  | tup (l : List AV)
inductive AO where
  | cells (l : List AV)
  | rowu (sz : Nat) (l : List AV)
  | map (es : List (Value × AV))
structure Hp where
  tr : Tr AO
  next : Nat

def allV : List AV → Option (List Value)
  | [] => some []
  | .v x :: r => match allV r with
    | some l => some (x :: l)
    | none => none
  | _ => none
def mkAgg (l : List AV) : AV := match allV l with
  | some vs => .v (.agg vs.toArray)
  | none => .agg l
def mkTup (l : List AV) : AV := match allV l with
  | some vs => .v (.tuple vs.toArray)
  | none => .tup l
def cellsA : AV → List AV
  | .v (.agg a) => a.toList.map .v
  | .v (.tuple a) => [.v (.tuple a)]
  | .agg l => l
  | a => [a]
def oneA : AV → Bool
  | .v x => x.oneCell'
  | .agg _ => false
  | .tup _ => false
  | _ => true

/-! ## What is fixed: types, functions, package-level variables that are read -/

structure TI where
  u : TypeDesc
  sz : Nat
  by_ : Nat
  zero : Value
  agg : Bool
structure FI where
  body : Option Code
  n : Nat
  res : List ResultVar
structure Sx where
  P : Program
  TT : Nat → Option TI
  FT : Nat → Option FI
  GT : Nat → Option (List Value)

def newB (h : Hp) (o : AO) : Hp := ⟨tset h.tr h.next (some o), Nat.succ h.next⟩
def cellsOf? : AO → Option (List AV)
  | .cells l => some l
  | .rowu _ l => some l
  | _ => none
def setCells : AO → List AV → AO
  | .cells _, l => .cells l
  | .rowu s _, l => .rowu s l
  | o, _ => o
def sub (l : List AV) (off n : Nat) : Option (List AV) := match Nat.ble (Nat.add off n) l.length with
  | true => some ((l.drop off).take n)
  | false => none
def rd (h : Hp) (b off n : Nat) : Option (List AV) := match tget h.tr b with
  | some (.cells l) => sub l off n
  | some (.rowu _ l) => sub l off n
  | _ => none
/-- How many cells of a grown row are known. -/
def known (h : Hp) (b sz : Nat) : Nat := match tget h.tr b with
  | some (.rowu s l) => match Nat.beq s sz with
    | true => l.length
    | false => 0
  | _ => 0
def wrL (l : List AV) (off : Nat) (vs : List AV) : List AV := l.take off ++ (vs ++ l.drop (Nat.add off vs.length))
def wr (h : Hp) (b off : Nat) (vs : List AV) : Option Hp := match tget h.tr b with
  | none => none
  | some o => match cellsOf? o with
    | none => none
    | some l => match Nat.ble (Nat.add off vs.length) l.length && vs.all oneA with
      | true => some ⟨tset h.tr b (some (setCells o (wrL l off vs))), h.next⟩
      | false => none

/-- A thing that looks at nothing but the program. -/
def pureRun {α : Type} (P : Program) : Sem α → Option α
  | .pure a => some a
  | .program k => pureRun P (k P)
  | .mark _ k => pureRun P k
  | _ => none

abbrev Rho := Nat → Option AV
def evO (ρ : Rho) : Operand → Option AV
  | .tmp t => ρ t
  | .const v => some (.v v)
  | .global g => some (.v (.pointer (some ⟨g, 0, none⟩)))
  | .func f => some (.v (.func (.func f) #[] #[]))
def conc (ρ : Rho) (x : Operand) : Value := match evO ρ x with
  | some (.v u) => u
  | _ => undef
def isV : Option AV → Bool
  | some (.v _) => true
  | _ => false
def allConc (ρ : Rho) (o : Op) : Bool := o.operands.toList.all fun x => isV (evO ρ x)
def evL (ρ : Rho) : List Operand → Option (List AV)
  | [] => some []
  | x :: r => match evO ρ x with
    | some a => match evL ρ r with
      | some l => some (a :: l)
      | none => none
    | none => none

def fill (place : Nat → Option (Nat × Nat)) (cells : List AV) : List (Nat × AV) → Option (List AV)
  | [] => some cells
  | (i, v) :: rest => match place i with
    | none => none
    | some (off, size) => match Nat.beq (cellsA v).length size && Nat.ble (Nat.add off size) cells.length with
      | true => fill place (wrL cells off (cellsA v)) rest
      | false => none

def keyEq : Value → Value → Option Bool
  | .int k a, .int k' b => if k = k' then some (a == b) else none
  | .string a, .string b => some (a == b)
  | _, _ => none
def findK (k : Value) : List (Value × AV) → Option (Option AV)
  | [] => some none
  | (k', v) :: r => match keyEq k k' with
    | some true => some (some v)
    | some false => findK k r
    | none => none
def setK (k : Value) (x : AV) : List (Value × AV) → Option (List (Value × AV))
  | [] => some [(k, x)]
  | (k', v) :: r => match keyEq k k' with
    | some true => some ((k, x) :: r)
    | some false => match setK k x r with
      | some l => some ((k', v) :: l)
      | none => none
    | none => none
def delK (k : Value) : List (Value × AV) → Option (List (Value × AV))
  | [] => some []
  | (k', v) :: r => match keyEq k k' with
    | some true => some r
    | some false => match delK k r with
      | some l => some ((k', v) :: l)
      | none => none
    | none => none

def byteV (b : UInt8) : AV := .v (.int .u8 (b.toNat : Int))
def repZ (z : List AV) : Nat → List AV
  | 0 => []
  | n + 1 => z ++ repZ z n

/-- nil beside something of the same kind that isn't. -/
def nilPair : TypeDesc → AV → AV → Bool
  | .pointer _, .v (.pointer none), .ptr _ _ => true
  | .slice _, .v (.slice none _ _), .sl _ _ _ _ _ => true
  | .slice _, .v (.slice none _ _), .slz => true
  | .map _ _, .v (.map none), .map _ => true
  | .func _ _ _, .v .nilFunc, .fn _ _ _ => true
  | .interface _, .v .nilIface, .iface _ _ => true
  | _, _, _ => false

def bnd (ρ : Rho) (x : Option Operand) (dflt : Nat) : Option Nat := match x with
  | none => some dflt
  | some x => match evO ρ x with
    | some (.v (.int _ (.ofNat n))) => some n
    | _ => none

def elemTI (X : Sx) (t : TypeId) : Option TI := match X.TT t with
  | some ti => match ti.u with
    | .slice e => X.TT e
    | _ => none
  | none => none

/-! ## Numbers, quickly -/

def ikN : IntKind → Nat
  | .i8 => 0 | .i16 => 1 | .i32 => 2 | .i64 => 3 | .u8 => 4 | .u16 => 5 | .u32 => 6 | .u64 => 7
/-- below this a number that is not negative stays as it is -/
def lim : IntKind → Nat
  | .i8 => 128 | .i16 => 32768 | .i32 => 2147483648 | .i64 => 9223372036854775808
  | .u8 => 256 | .u16 => 65536 | .u32 => 4294967296 | .u64 => 18446744073709551616
def wrapF (k : IntKind) : Int → Int
  | .ofNat m => match Nat.blt m (lim k) with
    | true => .ofNat m
    | false => k.wrap (.ofNat m)
  | .negSucc m => k.wrap (.negSucc m)
def eqI : Int → Int → Bool
  | .ofNat a, .ofNat b => Nat.beq a b
  | .negSucc a, .negSucc b => Nat.beq a b
  | _, _ => false
def ltI : Int → Int → Bool
  | .ofNat a, .ofNat b => Nat.blt a b
  | .negSucc _, .ofNat _ => true
  | .negSucc a, .negSucc b => Nat.blt b a
  | .ofNat _, .negSucc _ => false
/-- the numbers of a kind that are no negative ones, by their bits -/
def bitF (f : Nat → Nat → Nat) (k : IntKind) : Int → Int → Option Int
  | .ofNat a, .ofNat b => match Nat.blt a (lim k) with
    | true => match Nat.blt b (lim k) with
      | true => some (.ofNat (f a b))
      | false => none
    | false => none
  | _, _ => none
def shrF (k : IntKind) : Int → Int → Option Int
  | .ofNat a, .ofNat b => match Nat.ble b k.bits with
    | true => some (.ofNat (Nat.div a (Nat.pow 2 b)))
    | false => none
  | _, _ => none
def shlF (k : IntKind) : Int → Int → Option Int
  | .ofNat a, .ofNat b => match Nat.ble b k.bits with
    | true => some (wrapF k (.ofNat (Nat.mul a (Nat.pow 2 b))))
    | false => none
  | _, _ => none

inductive Res where
  | no
  /-- looks at nothing but slots -/
  | pure (v : AV)
  /-- looks at memory -/
  | rd (v : AV)
  | eff (v : AV) (h : Hp)
  | call (f : FuncId) (args : List AV)
def pI (k : IntKind) : Option Int → Res
  | some n => .pure (.v (.int k n))
  | none => .no
def pB (b : Bool) : Res := .pure (.v (.bool b))
def pO : Option AV → Res
  | some a => .pure a
  | none => .no
def rO : Option AV → Res
  | some a => .rd a
  | none => .no
def ofRun : Option Value → Res
  | some v => .pure (.v v)
  | none => .no
def binG (X : Sx) (op : BinOp) (t : TypeId) (x y : Operand) (u w : Value) : Res :=
  ofRun (pureRun X.P (do eqGuard op t x y u w; binOp op t u w))
def binI (op : BinOp) (k : IntKind) (a b : Int) : Res := match op with
  | .add => .pure (.v (.int k (wrapF k (Int.add a b))))
  | .sub => .pure (.v (.int k (wrapF k (Int.sub a b))))
  | .mul => .pure (.v (.int k (wrapF k (Int.mul a b))))
  | .quo => match eqI b 0 with
    | true => .no
    | false => .pure (.v (.int k (wrapF k (Int.tdiv a b))))
  | .rem => match eqI b 0 with
    | true => .no
    | false => .pure (.v (.int k (Int.tmod a b)))
  | .and => pI k (bitF Nat.land k a b)
  | .or => pI k (bitF Nat.lor k a b)
  | .xor => pI k (bitF Nat.xor k a b)
  | .shl => .no
  | .shr => .no
  | .andNot => .no
  | .eql => pB (eqI a b)
  | .neq => pB (!eqI a b)
  | .lss => pB (ltI a b)
  | .leq => pB (!ltI b a)
  | .gtr => pB (ltI b a)
  | .geq => pB (!ltI a b)
def orElse (a : Res) (b : Unit → Res) : Res := match a with
  | .no => b ()
  | r => r
def binII (X : Sx) (op : BinOp) (t : TypeId) (x y : Operand) (k : IntKind) (a : Int) (k' : IntKind) (b : Int) : Res := match op with
  | .shr => orElse (pI k (shrF k a b)) fun _ => binG X op t x y (.int k a) (.int k' b)
  | .shl => orElse (pI k (shlF k a b)) fun _ => binG X op t x y (.int k a) (.int k' b)
  | op => match Nat.beq (ikN k) (ikN k') with
    | true => orElse (binI op k a b) fun _ => binG X op t x y (.int k a) (.int k' b)
    | false => .no
def binVV (X : Sx) (op : BinOp) (t : TypeId) (x y : Operand) (u w : Value) : Res := match u with
  | .int k a => match w with
    | .int k' b => binII X op t x y k a k' b
    | _ => .no
  | _ => binG X op t x y u w
def nilCmp (X : Sx) (op : BinOp) (t : TypeId) (c a : AV) : Res := match X.TT t with
  | some ti => match nilPair ti.u c a with
    | true => match op with
      | .eql => pB false
      | .neq => pB true
      | _ => .no
    | false => .no
  | none => .no
def binAV (X : Sx) (op : BinOp) (t : TypeId) (x y : Operand) (a b : AV) : Res := match a with
  | .v u => match b with
    | .v w => binVV X op t x y u w
    | b => nilCmp X op t (.v u) b
  | a => match b with
    | .v w => nilCmp X op t (.v w) a
    | _ => .no
def oBin (X : Sx) (ρ : Rho) (op : BinOp) (t : TypeId) (x y : Operand) : Res := match evO ρ x with
  | some a => match evO ρ y with
    | some b => binAV X op t x y a b
    | none => .no
  | none => .no

/-! ## Operations, one by one -/

def oMove (ρ : Rho) (x : Operand) : Res := pO (evO ρ x)
def oPick (ρ : Rho) (c a b : Operand) : Res := match evO ρ c with
  | some (.v (.bool true)) => pO (evO ρ a)
  | some (.v (.bool false)) => pO (evO ρ b)
  | _ => .no
def oNil (ρ : Rho) (x : Operand) : Res := match evO ρ x with
  | some (.ptr b f) => .pure (.ptr b f)
  | some (.fn a b c) => .pure (.fn a b c)
  | some (.v (.func (.func f) a b)) => .pure (.v (.func (.func f) a b))
  | some (.v (.pointer (some p))) => .pure (.v (.pointer (some p)))
  | _ => .no
/-- an op whose operands are all plain -/
def oGen (X : Sx) (ρ : Rho) (o : Oper) : Res := match allConc ρ o.op with
  | true => match pureRun X.P (execOp (conc ρ) o) with
    | some (.value v) => .pure (.v v)
    | _ => .no
  | false => .no
def fieldOf (X : Sx) (t : TypeId) (i : Nat) : Option (Field × TI) := match X.TT t with
  | some ti => match ti.u with
    | .struct fs => match fs.toList[i]? with
      | some f => match X.TT f.type with
        | some fi => some (f, fi)
        | none => none
      | none => none
    | _ => none
  | none => none
def oFieldAddr (X : Sx) (ρ : Rho) (o : Oper) (t : TypeId) (x : Operand) (i : Nat) : Res := match evO ρ x with
  | some (.ptr b off) => match fieldOf X t i with
    | some (f, fi) => match fi.sz with
      | 0 => .no
      | _ + 1 => .pure (.ptr b (Nat.add off f.offset))
    | none => .no
  | _ => oGen X ρ o
def arrTI (X : Sx) (t : TypeId) : Option (Nat × TI) := match X.TT t with
  | some ti => match ti.u with
    | .array n e => match X.TT e with
      | some ei => some (n, ei)
      | none => none
    | _ => none
  | none => none
def ixSl (b e0 sz len n : Nat) (ei : TI) : Res := match Nat.blt n len with
  | true => match Nat.beq ei.sz sz with
    | true => .pure (.ptr b (Nat.mul (Nat.add e0 n) sz))
    | false => .no
  | false => .no
def ixArr (b off len n : Nat) (ei : TI) : Res := match Nat.blt n len with
  | true => .pure (.ptr b (Nat.add off (Nat.mul n ei.sz)))
  | false => .no
def natO (ρ : Rho) (y : Operand) : Option Nat := match evO ρ y with
  | some (.v (.int _ (.ofNat n))) => some n
  | _ => none
def oIndexAddr (X : Sx) (ρ : Rho) (o : Oper) (t : TypeId) (x y : Operand) : Res := match evO ρ x with
  | some (.sl b e0 sz len _) => match natO ρ y with
    | some n => match elemTI X t with
      | some ei => ixSl b e0 sz len n ei
      | none => .no
    | none => .no
  | some (.ptr b off) => match natO ρ y with
    | some n => match arrTI X t with
      | some (len, ei) => ixArr b off len n ei
      | none => .no
    | none => .no
  | _ => oGen X ρ o
def placeS (X : Sx) (t : TypeId) (k : Nat) : Option (Nat × Nat) := match fieldOf X t k with
  | some (f, fi) => some (f.offset, fi.sz)
  | none => none
def oBuild (X : Sx) (ρ : Rho) (o : Oper) (t : TypeId) (parts : List (Nat × Operand)) : Res := match allConc ρ o.op with
  | true => oGen X ρ o
  | false => match X.TT t with
    | some ti => match evL ρ (parts.map (·.2)) with
      | some vs => match ti.u with
        | .struct _ => match fill (placeS X t) (cellsA (.v ti.zero)) ((parts.map (·.1)).zip vs) with
          | some cs => .pure (mkAgg cs)
          | none => .no
        | _ => .no
      | none => .no
    | none => .no
def oMakeFunc (ρ : Rho) (fn : Fn) (first cap : List Operand) : Res := match fn with
  | .func f => match evL ρ first with
    | some a => match evL ρ cap with
      | some b => .pure (.fn f a b)
      | none => .no
    | none => .no
  | _ => .no
def oMakeIface (X : Sx) (ρ : Rho) (o : Oper) (t : TypeId) (x : Operand) : Res := match evO ρ x with
  | some (.v _) => oGen X ρ o
  | some a => match X.TT t with
    | some ti => match ti.u with
      | .interface _ => .no
      | _ => .pure (.iface t a)
    | none => .no
  | none => .no
def aggOr (agg : Bool) (cs : List AV) : Option AV := match agg with
  | true => some (mkAgg cs)
  | false => match cs with
    | [c] => some c
    | _ => none
def oField (X : Sx) (ρ : Rho) (o : Oper) (t : TypeId) (x : Operand) (i : Nat) : Res := match evO ρ x with
  | some (.agg l) => match fieldOf X t i with
    | some (f, fi) => match sub l f.offset fi.sz with
      | some cs => pO (aggOr fi.agg cs)
      | none => .no
    | none => .no
  | _ => oGen X ρ o
def oExtract (X : Sx) (ρ : Rho) (o : Oper) (x : Operand) (i : Nat) : Res := match evO ρ x with
  | some (.tup l) => pO l[i]?
  | _ => oGen X ρ o
def slArr (b off n : Nat) (ei : TI) (l hh : Nat) : Res := match Nat.ble l hh && Nat.ble hh n && Nat.beq (Nat.mul (Nat.div off ei.sz) ei.sz) off with
  | true => .pure (.sl b (bif Nat.beq n l then Nat.div off ei.sz else Nat.add (Nat.div off ei.sz) l) ei.sz (Nat.sub hh l) (some (Nat.sub n l)))
  | false => .no
/-- cut with a capacity told -/
def slCap (b e0 sz l hh m c : Nat) : Option AV := match Nat.ble l hh && Nat.ble hh m && Nat.ble m c with
  | true => some (.sl b (bif Nat.beq m l then e0 else Nat.add e0 l) sz (Nat.sub hh l) (some (Nat.sub m l)))
  | false => none
/-- cut of a row that has grown: kn cells of it are known -/
def slRow (b e0 sz l hh kn : Nat) : Option AV := match Nat.ble l hh && Nat.ble (Nat.mul (Nat.add e0 hh) sz) kn && Nat.blt 0 sz with
  | true => match Nat.beq l 0 || Nat.blt (Nat.mul (Nat.add e0 l) sz) kn with
    | true => some (.sl b (Nat.add e0 l) sz (Nat.sub hh l) none)
    | false => match Nat.beq l hh with
      | true => some .slz
      | false => none
  | false => none
def slRow3 (b e0 sz l hh m kn : Nat) : Option AV := match Nat.ble l hh && Nat.ble hh m && (Nat.ble (Nat.mul (Nat.add e0 m) sz) kn && Nat.blt 0 sz) with
  | true => some (.sl b (bif Nat.beq m l then e0 else Nat.add e0 l) sz (Nat.sub hh l) (some (Nat.sub m l)))
  | false => none
def slSl (ρ : Rho) (h : Hp) (b e0 sz len : Nat) (cap : Option Nat) (l : Nat) (hi mx : Option Operand) : Option AV := match mx with
  | none => match bnd ρ hi len with
    | some hh => match cap with
      | some c => slCap b e0 sz l hh c c
      | none => slRow b e0 sz l hh (known h b sz)
    | none => none
  | some m => match hi with
    | some hi => match bnd ρ (some hi) 0 with
      | some hh => match bnd ρ (some m) 0 with
        | some m => match cap with
          | some c => slCap b e0 sz l hh m c
          | none => slRow3 b e0 sz l hh m (known h b sz)
        | none => none
      | none => none
    | none => none
def oSlice (X : Sx) (ρ : Rho) (h : Hp) (o : Oper) (t : TypeId) (x : Operand) (lo hi mx : Option Operand) : Res := match evO ρ x with
  | some (.v _) => oGen X ρ o
  | some (.sl b e0 sz len cap) => match elemTI X t with
    | some ei => match Nat.beq ei.sz sz with
      | true => match bnd ρ lo 0 with
        | some l => rO (slSl ρ h b e0 sz len cap l hi mx)
        | none => .no
      | false => .no
    | none => .no
  | some (.ptr b off) => match arrTI X t with
    | some (n, ei) => match bnd ρ lo 0 with
      | some l => match bnd ρ hi n with
        | some hh => match mx with
          | none => slArr b off n ei l hh
          | some _ => .no
        | none => .no
      | none => .no
    | none => .no
  | _ => .no
def ldG (X : Sx) (g off : Nat) (ti : TI) : Res := match X.GT g with
  | some l => match sub (l.map .v) off ti.sz with
    | some cs => rO (aggOr ti.agg cs)
    | none => .no
  | none => .no
def ldB (h : Hp) (b off : Nat) (ti : TI) : Res := match rd h b off ti.sz with
  | some cs => rO (aggOr ti.agg cs)
  | none => .no
def oLoad (X : Sx) (ρ : Rho) (h : Hp) (t : TypeId) (x : Operand) : Res := match X.TT t with
  | some ti => match evO ρ x with
    | some (.ptr b off) => ldB h b off ti
    | some (.v (.pointer (some ⟨g, off, none⟩))) => ldG X g off ti
    | _ => .no
  | none => .no
def lkRes (ok : Bool) (z : Value) : Option (Option AV) → Option AV
  | some (some v) => some (bif ok then mkTup [v, .v (.bool true)] else v)
  | some none => some (bif ok then mkTup [.v z, .v (.bool false)] else .v z)
  | none => none
def mapTI (X : Sx) (t : TypeId) : Option TI := match X.TT t with
  | some ti => match ti.u with
    | .map _ et => X.TT et
    | _ => none
  | none => none
def keyOk : TypeDesc → Value → Bool
  | .int _, .int _ _ => true
  | .string, .string _ => true
  | _, _ => false
/-- the elements' type, where the key is one of the map's -/
def mapKT (X : Sx) (t : TypeId) (k : Value) : Option TI := match X.TT t with
  | some ti => match ti.u with
    | .map kt et => match X.TT kt with
      | some ki => match keyOk ki.u k with
        | true => X.TT et
        | false => none
      | none => none
    | _ => none
  | none => none
def mapAt (h : Hp) (b : Nat) : Option (List (Value × AV)) := match tget h.tr b with
  | some (.map es) => some es
  | _ => none
def valO (ρ : Rho) (y : Operand) : Option Value := match evO ρ y with
  | some (.v k) => some k
  | _ => none
def mapO (ρ : Rho) (x : Operand) : Option Nat := match evO ρ x with
  | some (.map b) => some b
  | _ => none
def oLookup (X : Sx) (ρ : Rho) (h : Hp) (t : TypeId) (x y : Operand) (ok : Bool) : Res := match mapO ρ x with
  | some b => match valO ρ y with
    | some k => match mapKT X t k with
      | some ei => match mapAt h b with
        | some es => rO (lkRes ok ei.zero (findK k es))
        | none => .no
      | none => .no
    | none => .no
  | none => .no
def bytesA : List AV → Option (List UInt8)
  | [] => some []
  | .v (.int .u8 n) :: r => match bytesA r with
    | some l => some (UInt8.ofNat n.toNat :: l)
    | none => none
  | _ => none
def isByteT (X : Sx) (s : TypeId) : Bool := match elemTI X s with
  | some ei => match ei.u with
    | .int .u8 => true
    | _ => false
  | none => false
def cvStr (X : Sx) (h : Hp) (s : TypeId) (b e0 sz len : Nat) : Res := match Nat.beq sz 1 && isByteT X s with
  | true => match rd h b e0 len with
    | some cs => match bytesA cs with
      | some bs => .rd (.v (.string ⟨bs.toArray⟩))
      | none => .no
    | none => .no
  | false => .no
def isStrT (X : Sx) (t : TypeId) : Bool := match X.TT t with
  | some ti => match ti.u with
    | .string => true
    | _ => false
  | none => false
def intT (X : Sx) (t : TypeId) : Option IntKind := match X.TT t with
  | some ti => match ti.u with
    | .int k => some k
    | _ => none
  | none => none
def refr (h : Hp) (b : Nat) (v : AV) : Option AO → Res
  | some (.cells l) => .eff v ⟨tset h.tr b (some (.cells l)), h.next⟩
  | some (.rowu s l) => .eff v ⟨tset h.tr b (some (.rowu s l)), h.next⟩
  | _ => .no
def cvOther (X : Sx) (h : Hp) (s d b e0 sz len : Nat) (cap : Option Nat) : Res := match Nat.beq s d && isByteT X d with
  | true => refr h b (.sl b e0 sz len cap) (tget h.tr b)
  | false => .no
def cvBytes (X : Sx) (h : Hp) (s d : TypeId) (x : ByteArray) : Res := match isByteT X d && isStrT X s && Nat.ble x.data.toList.length 16777216 with
  | true => .eff (.sl h.next 0 1 x.data.toList.length none) (newB h (.rowu 1 (x.data.toList.map byteV)))
  | false => .no
def oConvert (X : Sx) (ρ : Rho) (h : Hp) (o : Oper) (s d : TypeId) (x : Operand) : Res := match evO ρ x with
  | some (.v (.int _ n)) => match intT X d with
    | some k => match intT X s with
      | some _ => .pure (.v (.int k (wrapF k n)))
      | none => .no
    | none => oGen X ρ o
  | some (.sl b e0 sz len cap) => match isStrT X d with
    | true => cvStr X h s b e0 sz len
    | false => cvOther X h s d b e0 sz len cap
  | some (.v (.string b)) => match isStrT X d with
    | true => oGen X ρ o
    | false => cvBytes X h s d b
  | _ => oGen X ρ o

/-! ## Operations that turn memory -/

def whenB (b : Bool) (r : Res) : Res := match b with
  | true => r
  | false => .no
def isIntT (X : Sx) (t : Option TypeId) : Bool := match t with
  | some t => match intT X t with
    | some _ => true
    | none => false
  | none => false
def effO (v : AV) : Option Hp → Res
  | some h => .eff v h
  | none => .no
def isSl1 (X : Sx) (t : TypeId) : Bool := match elemTI X t with
  | some _ => true
  | none => false
/-- What is appended or copied: how many elements, and their cells. -/
def srcCells (X : Sx) (h : Hp) (tx : TypeId) (sz : Nat) : AV → Option (Nat × List AV)
  | .v (.string s) => match Nat.beq sz 1 && isStrT X tx with
    | true => some (s.data.toList.length, s.data.toList.map byteV)
    | false => none
  | .v (.slice none 0 0) => match isSl1 X tx with
    | true => some (0, [])
    | false => none
  | .slz => match isSl1 X tx with
    | true => some (0, [])
    | false => none
  | .sl b e0 sz' len _ => match Nat.beq sz sz' && isSl1 X tx with
    | true => match rd h b (Nat.mul e0 sz) (Nat.mul len sz) with
      | some l => some (len, l)
      | none => none
    | false => none
  | _ => none
def roomOk (n bt : Nat) : Bool := Nat.ble (Nat.mul n bt) 16777216 && Nat.ble n 16777216
def rowAt (h : Hp) (b sz : Nat) : Option (List AV) := match tget h.tr b with
  | some (.rowu s l) => match Nat.beq s sz with
    | true => some l
    | false => none
  | _ => none
/-- behind a row whose capacity the tape drew -/
def appRow (h : Hp) (bt b e0 sz len n : Nat) (new : List AV) : Res := match Nat.ble (Nat.mul (Nat.add e0 (Nat.add len n)) sz) (known h b sz) && Nat.blt 0 sz with
  | true => effO (.sl b e0 sz (Nat.add len n) none) (wr h b (Nat.mul (Nat.add e0 len) sz) new)
  | false => match e0 with
    | _ + 1 => .no
    | 0 => match rowAt h b sz with
      | some l => match Nat.ble (Nat.mul len sz) l.length && (roomOk (Nat.add len n) bt && new.all oneA) with
        | true => .eff (.sl h.next 0 sz (Nat.add len n) none) (newB ⟨tset h.tr b none, h.next⟩ (.rowu sz (l.take (Nat.mul len sz) ++ new)))
        | false => .no
      | none => .no
def appCap (h : Hp) (bt b e0 sz len n c : Nat) (new : List AV) : Res := match Nat.ble (Nat.add len n) c with
  | true => effO (.sl b e0 sz (Nat.add len n) (some c)) (wr h b (Nat.mul (Nat.add e0 len) sz) new)
  | false => match rd h b (Nat.mul e0 sz) (Nat.mul len sz) with
    | some old => match roomOk (Nat.add len n) bt && new.all oneA with
      | true => .eff (.sl h.next 0 sz (Nat.add len n) none) (newB h (.rowu sz (old ++ new)))
      | false => .no
    | none => .no
def appOp (h : Hp) (ei : TI) (s : AV) (n : Nat) (new : List AV) : Res := match s with
  | .v (.slice none 0 0) => match n with
    | 0 => whenB (new.all oneA) (.eff s h)
    | _ + 1 => match roomOk n ei.by_ && new.all oneA with
      | true => .eff (.sl h.next 0 ei.sz n none) (newB h (.rowu ei.sz new))
      | false => .no
  | .slz => match n with
    | 0 => whenB (new.all oneA) (.eff s h)
    | _ + 1 => .no
  | .sl b e0 sz len cap => match Nat.beq sz ei.sz with
    | false => .no
    | true => match cap with
      | some c => appCap h ei.by_ b e0 sz len n c new
      | none => appRow h ei.by_ b e0 sz len n new
  | _ => .no
def oAlloc (X : Sx) (h : Hp) (t : TypeId) : Res := match X.TT t with
  | some i => .eff (.ptr h.next 0) (newB h (.cells (cellsA (.v i.zero))))
  | none => .no
def oBox (ρ : Rho) (h : Hp) (x : Operand) : Res := match evO ρ x with
  | some v => .eff (.ptr h.next 0) (newB h (.cells (cellsA v)))
  | none => .no
def oBuildSlice (X : Sx) (ρ : Rho) (h : Hp) (t : TypeId) (len : Nat) (parts : List (Nat × Operand)) : Res := match elemTI X t with
  | some ei => match evL ρ (parts.map (·.2)) with
    | some vs => match Nat.ble (Nat.mul len ei.sz) 16777216 with
      | true => match fill (fun k => some (Nat.mul k ei.sz, ei.sz)) (repZ (cellsA (.v ei.zero)) len) ((parts.map (·.1)).zip vs) with
        | some cs => .eff (.sl h.next 0 ei.sz len (some len)) (newB h (.cells cs))
        | none => .no
      | false => .no
    | none => .no
  | none => .no
def oMakeSlice (X : Sx) (ρ : Rho) (h : Hp) (t : TypeId) (l c : Operand) : Res := match elemTI X t with
  | some ei => match natO ρ l with
    | some l => match natO ρ c with
      | some c => match Nat.ble l c && Nat.ble (Nat.mul c ei.by_) 16777216 && Nat.ble c 16777216 with
        | true => .eff (.sl h.next 0 ei.sz l (some c)) (newB h (.cells (repZ (cellsA (.v ei.zero)) c)))
        | false => .no
      | none => .no
    | none => .no
  | none => .no
def oMakeMap (h : Hp) (r : Option Operand) : Res := match r with
  | none => .eff (.map h.next) (newB h (.map []))
  | some _ => .no
def stB (h : Hp) (b off : Nat) (cs : List AV) (sz : Nat) : Res := match Nat.beq cs.length sz with
  | true => effO (.v undef) (wr h b off cs)
  | false => .no
def oStore (X : Sx) (ρ : Rho) (h : Hp) (t : TypeId) (x y : Operand) : Res := match X.TT t with
  | some i => match evO ρ x with
    | some (.ptr b off) => match evO ρ y with
      | some v => stB h b off (cellsA v) i.sz
      | none => .no
    | _ => .no
  | none => .no
def setM (h : Hp) (b : Nat) : Option (List (Value × AV)) → Res
  | some es => .eff (.v undef) ⟨tset h.tr b (some (.map es)), h.next⟩
  | none => .no
def oMapUpdate (X : Sx) (ρ : Rho) (h : Hp) (t : TypeId) (x y z : Operand) : Res := match mapO ρ x with
  | some b => match valO ρ y with
    | some k => match mapKT X t k with
      | some _ => match evO ρ z with
        | some v => match mapAt h b with
          | some es => setM h b (setK k v es)
          | none => .no
        | none => .no
      | none => .no
    | none => .no
  | none => .no
def appZ (h : Hp) (ei : TI) (s x : AV) : Res := match x with
  | .v (.int _ (.ofNat n)) => match roomOk n ei.by_ && Nat.blt 0 n && Nat.blt 0 ei.sz with
    | true => appOp h ei s n (repZ (cellsA (.v ei.zero)) n)
    | false => .no
  | _ => .no
def oAppend (X : Sx) (ρ : Rho) (h : Hp) (ts : List TypeId) (xs : List Operand) : Res := match ts with
  | [t, tx] => match xs with
    | [s, x] => match elemTI X t with
      | some ei => match evO ρ s with
        | some s => match evO ρ x with
          | some x => match isIntT X (some tx) with
            | true => appZ h ei s x
            | false => match srcCells X h tx ei.sz x with
              | some (n, new) => appOp h ei s n new
              | none => .no
          | none => .no
        | none => .no
      | none => .no
    | _ => .no
  | _ => .no
def copyTo (h : Hp) (ei : TI) (n : Nat) (cs : List AV) (d : AV) : Res := match d with
  | .sl b e0 sz len _ => match Nat.beq sz ei.sz with
    | true => effO (.v (.int .i64 (.ofNat (min n len)))) (wr h b (Nat.mul e0 sz) (cs.take (Nat.mul (min n len) sz)))
    | false => .no
  | .v (.slice none 0 0) => .eff (.v (.int .i64 0)) h
  | .slz => .eff (.v (.int .i64 0)) h
  | _ => .no
def oCopy (X : Sx) (ρ : Rho) (h : Hp) (ts : List TypeId) (xs : List Operand) : Res := match ts with
  | [t, tx] => match xs with
    | [d, s] => match elemTI X t with
      | some ei => match evO ρ d with
        | some d => match evO ρ s with
          | some s => match srcCells X h tx ei.sz s with
            | some (n, cs) => copyTo h ei n cs d
            | none => .no
          | none => .no
        | none => .no
      | none => .no
    | _ => .no
  | _ => .no
def clearTo (h : Hp) (ei : TI) (d : AV) : Res := match d with
  | .sl b e0 sz len _ => match Nat.beq sz ei.sz with
    | true => effO (.v undef) (wr h b (Nat.mul e0 sz) (repZ (cellsA (.v ei.zero)) len))
    | false => .no
  | .v (.slice none 0 0) => .eff (.v undef) h
  | .slz => .eff (.v undef) h
  | _ => .no
def oClear (X : Sx) (ρ : Rho) (h : Hp) (ts : List TypeId) (xs : List Operand) : Res := match ts with
  | t :: _ => match xs with
    | [x] => match elemTI X t with
      | some ei => match evO ρ x with
        | some d => clearTo h ei d
        | none => .no
      | none => .no
    | _ => .no
  | [] => .no
def oDelete (X : Sx) (ρ : Rho) (h : Hp) (ts : List TypeId) (xs : List Operand) : Res := match ts with
  | t :: _ => match xs with
    | [x, y] => match mapO ρ x with
      | some b => match valO ρ y with
        | some k => match mapKT X t k with
          | some _ => match mapAt h b with
            | some es => setM h b (delK k es)
            | none => .no
          | none => .no
        | none => .no
      | none => .no
    | _ => .no
  | [] => .no
def isSlT (X : Sx) : List TypeId → Bool
  | t :: _ => match elemTI X t with
    | some _ => true
    | none => false
  | [] => false
def isMapT (X : Sx) : List TypeId → Bool
  | t :: _ => match mapTI X t with
    | some _ => true
    | none => false
  | [] => false
def lenM (es : Option (List (Value × AV))) : Res := match es with
  | some es => .rd (.v (.int .i64 (.ofNat es.length)))
  | none => .no
def oLen (X : Sx) (ρ : Rho) (h : Hp) (o : Oper) (ts : List TypeId) (xs : List Operand) : Res := match xs with
  | [x] => match evO ρ x with
    | some (.sl _ _ _ len _) => whenB (isSlT X ts) (.pure (.v (.int .i64 (.ofNat len))))
    | some .slz => whenB (isSlT X ts) (.pure (.v (.int .i64 0)))
    | some (.map b) => whenB (isMapT X ts) (lenM (mapAt h b))
    | _ => oGen X ρ o
  | _ => .no
def oCap (X : Sx) (ρ : Rho) (o : Oper) (ts : List TypeId) (xs : List Operand) : Res := match xs with
  | [x] => match evO ρ x with
    | some (.sl _ _ _ _ (some c)) => whenB (isSlT X ts) (.pure (.v (.int .i64 (.ofNat c))))
    | _ => oGen X ρ o
  | _ => .no
def oFn (f : Option AV) (args : Option (List AV)) : Res := match args with
  | some args => match f with
    | some (.fn f a b) => .call f (a ++ (args ++ b))
    | some (.v (.func (.func f) a b)) => .call f (a.toList.map .v ++ (args ++ b.toList.map .v))
    | _ => .no
  | none => .no
def oBuiltin (X : Sx) (ρ : Rho) (h : Hp) (o : Oper) (b : Builtin) (ts : List TypeId) (xs : List Operand) : Res := match b with
  | .len => oLen X ρ h o ts xs
  | .cap => oCap X ρ o ts xs
  | .min => oGen X ρ o
  | .max => oGen X ρ o
  | .append => oAppend X ρ h ts xs
  | .copy => oCopy X ρ h ts xs
  | .clear => oClear X ρ h ts xs
  | .delete => oDelete X ρ h ts xs
  | _ => .no
def oCall (X : Sx) (ρ : Rho) (h : Hp) (o : Oper) (c : Call) : Res := match c.callee with
  | .value f => oFn (evO ρ f) (evL ρ c.args.toList)
  | .builtin b => oBuiltin X ρ h o b c.argTypes.toList c.args.toList
  | .invoke _ _ => .no

def stepO (X : Sx) (ρ : Rho) (h : Hp) (o : Oper) : Res :=
  Op.casesOn (motive := fun _ => Res) o.op
    (fun x => oMove ρ x) -- move
    (fun x => oMove ρ x) -- assign
    (fun c a b => oPick ρ c a b)
    (fun t => oAlloc X h t)
    (fun _ x => oBox ρ h x)
    (fun t ps => oBuild X ρ o t ps.toList)
    (fun t n ps => oBuildSlice X ρ h t n ps.toList)
    (fun _ _ _ _ => .no) -- insert
    (fun t x => oLoad X ρ h t x)
    (fun t x y => oStore X ρ h t x y)
    (fun _ => .no) -- ready
    (fun _ => .no) -- waits
    (fun x => oNil ρ x)
    (fun op t x y _ => oBin X ρ op t x y)
    (fun _ _ _ => oGen X ρ o) -- unOp
    (fun s d x => oConvert X ρ h o s d x)
    (fun _ _ => .no) -- sliceToArrayPointer
    (fun t x => oMakeIface X ρ o t x)
    (fun fn f c => oMakeFunc ρ fn f.toList c.toList)
    (fun _ r => oMakeMap h r)
    (fun _ _ => .no) -- makeChan
    (fun t l c => oMakeSlice X ρ h t l c)
    (fun t x lo hi mx => oSlice X ρ h o t x lo hi mx)
    (fun t x i => oFieldAddr X ρ o t x i)
    (fun t x i => oField X ρ o t x i)
    (fun t x y => oIndexAddr X ρ o t x y)
    (fun _ _ _ => oGen X ρ o) -- index
    (fun t x y ok => oLookup X ρ h t x y ok)
    (fun t x y z => oMapUpdate X ρ h t x y z)
    (fun _ _ _ => .no) -- mapEntry
    (fun _ _ _ _ => .no) -- entryStore
    (fun _ _ => .no) -- range
    (fun _ _ => .no) -- next
    (fun _ => .no) -- entry
    (fun _ _ _ _ => .no) -- typeAssert
    (fun x i => oExtract X ρ o x i)
    (fun c => oCall X ρ h o c)
    (fun _ => .no) (fun _ => .no) (fun _ => .no) (fun _ _ => .no) (fun _ _ _ => .no) (fun _ _ => .no)

/-! ## Regions -/

abbrev CF := FuncId → List AV → Hp → Option (AV × Hp)
def putT (T : Tr AV) (d : Option Nat) (v : AV) : Tr AV := match d with
  | some d => tset T d (some v)
  | none => T
def gdV (b : Bool) : Option AV → Option Bool
  | some (.v (.bool c)) => some (c == b)
  | some (.v (.tuple _)) => some false
  | _ => none
/-- Is the op to be done? -/
def guardOn (ops : List Oper) (ρ : Rho) (g : Option (Nat × Bool)) : Option Bool := match g with
  | none => some true
  | some (j, b) => match ops[j]? with
    | some oj => match oj.dst with
      | some d => gdV b (ρ d)
      | none => none
    | none => none
def fin (cf : CF) (h : Hp) (r : Res) : Option (AV × Hp) := match r with
  | .no => none
  | .pure v => some (v, h)
  | .rd v => some (v, h)
  | .eff v h => some (v, h)
  | .call f args => cf f args h

def evOps (X : Sx) (cf : CF) (ops : List Oper) (l : List Oper) : Tr AV → Hp → Option (Tr AV × Hp) :=
  List.rec (motive := fun _ => Tr AV → Hp → Option (Tr AV × Hp)) (fun T h => some (T, h))
    (fun o _ ih T h => match guardOn ops (tget T) o.guard with
      | none => none
      | some false => ih (putT T o.dst (.v undef)) h
      | some true => match fin cf h (stepO X (tget T) h o) with
        | some (a, h) => ih (putT T o.dst a) h
        | none => none) l
--END

/-! ### Regions whose order is drawn -/

def tb (m i : Nat) : Bool := match Nat.mod (Nat.div m (Nat.pow 2 i)) 2 with
  | 0 => false
  | _ + 1 => true
def bit (i : Nat) : Nat := Nat.pow 2 i
/-- The ops that an op waits for, at once or through another, as bits. -/
def maskOf (A : List Nat) : List Edge → Nat
  | [] => 0
  | e :: r => match Region.binds .any e with
    | true => Nat.lor (Nat.lor (bit e.on) (A.getD e.on 0)) (maskOf A r)
    | false => maskOf A r
def ancs : List Oper → List Nat → List Nat
  | [], A => A
  | o :: r, A => ancs r (A ++ [maskOf A o.after.toList])
def lkp {α : Type} : List (Nat × α) → Nat → Option α
  | [], _ => none
  | (k, v) :: r, n => match Nat.beq n k with
    | true => some v
    | false => lkp r n
def dstsOf : List Oper → Nat → List (Nat × Nat)
  | [], _ => []
  | o :: r, i => match o.dst with
    | some d => (d, i) :: dstsOf r (Nat.succ i)
    | none => dstsOf r (Nat.succ i)
def nodupN : List (Nat × Nat) → Bool
  | [] => true
  | (x, _) :: r => match lkp r x with
    | none => nodupN r
    | some _ => false
/-- What a slot holds when op i runs, as far as that does not hang on the order. -/
def look (T : Tr AV) (D : List (Nat × Nat)) (A : List Nat) (vals : List (Nat × AV)) (i : Nat) : Rho := fun n =>
  match lkp D n with
  | none => tget T n
  | some x => match tb (A.getD i 0) x with
    | true => lkp vals x
    | false => match tb (A.getD x 0) i with
      | true => tget T n
      | false => none

/-- How far a region may have come: which ops that turn memory are done, the heap, a number that is kept free. -/
structure Nd where
  X : Nat
  h : Hp
  free : Option Nat
structure Dr where
  vals : List (Nat × AV)
  cur : Nd
  last : Nat
  nodes : List Nd
  edges : List (Nat × Nat)
  effs : List Nat
  reads : List Nat
  /-- an op that may come on either side of the last call: its block's number, and what was ahead of both -/
  kept : Option (Nat × Nat × Nd)

def isAlloc (o : Op) : Bool := match o with
  | .alloc _ => true
  | .buildSlice _ _ _ => true
  | _ => false
/-- An op behind i that makes a block and does not wait for i. -/
def loose (A : List Nat) (i : Nat) : List Oper → Nat → Option Nat
  | [], _ => none
  | o :: r, j => match isAlloc o.op && Nat.blt i j && !tb (A.getD j 0) i with
    | true => some j
    | false => loose A i r (Nat.succ j)

def Dr.val (s : Dr) (i : Nat) (v : AV) : Dr := ⟨(i, v) :: s.vals, s.cur, s.last, s.nodes, s.edges, s.effs, s.reads, s.kept⟩
def Dr.read (s : Dr) (i : Nat) (v : AV) : Dr := ⟨(i, v) :: s.vals, s.cur, s.last, s.nodes, s.edges, s.effs, i :: s.reads, s.kept⟩
def Dr.eff (s : Dr) (i : Nat) (v : AV) (c : Nd) (kept : Option (Nat × Nat × Nd)) : Dr :=
  ⟨(i, v) :: s.vals, c, i, c :: s.nodes, (s.cur.X, i) :: s.edges, i :: s.effs, s.reads, kept⟩
/-- A block is made on either side of the call: c0 is ahead of both, c1 behind the block alone, c behind both. -/
def Dr.both (s : Dr) (i : Nat) (v : AV) (c0 c1 c : Nd) : Dr :=
  ⟨(i, v) :: s.vals, c, i, c :: c1 :: s.nodes, (s.cur.X, i) :: (c0.X, i) :: (c1.X, s.last) :: s.edges, i :: s.effs, s.reads, none⟩

def drBoth (i : Nat) (s : Dr) (v : AV) (n : Nat) (c0 : Nd) (h1 : Hp) : Option AO → Option Dr
  | some ao => some (s.both i v c0 ⟨Nat.lor c0.X (bit i), ⟨tset c0.h.tr n (some ao), Nat.succ n⟩, none⟩ ⟨Nat.lor s.cur.X (bit i), ⟨h1.tr, s.cur.h.next⟩, none⟩)
  | none => none
def drEff (X : Sx) (ρ : Rho) (i : Nat) (o : Oper) (s : Dr) (v : AV) (h : Hp) : Option Dr := match s.kept with
  | none => some (s.eff i v ⟨Nat.lor s.cur.X (bit i), h, none⟩ none)
  | some (f, n, c0) => match Nat.beq f i && isAlloc o.op with
    | true => match stepO X ρ ⟨s.cur.h.tr, n⟩ o with
      | .eff v h1 => drBoth i s v n c0 h1 (tget h1.tr n)
      | _ => none
    | false => none
def drLoose (cf : CF) (i j : Nat) (s : Dr) (f : FuncId) (args : List AV) : Option AO → Option Dr
  | some _ => none
  | none => match cf f args ⟨s.cur.h.tr, Nat.succ s.cur.h.next⟩ with
    | some (v, h) => some (s.eff i v ⟨Nat.lor s.cur.X (bit i), h, some s.cur.h.next⟩ (some (j, s.cur.h.next, s.cur)))
    | none => none
def drCall (cf : CF) (A : List Nat) (ops : List Oper) (i : Nat) (s : Dr) (f : FuncId) (args : List AV) : Option Dr := match s.kept with
  | some _ => none
  | none => match loose A i ops 0 with
    | none => match cf f args s.cur.h with
      | some (v, h) => some (s.eff i v ⟨Nat.lor s.cur.X (bit i), h, none⟩ none)
      | none => none
    | some j => drLoose cf i j s f args (tget s.cur.h.tr s.cur.h.next)
def drRes (X : Sx) (cf : CF) (A : List Nat) (ops : List Oper) (ρ : Rho) (i : Nat) (o : Oper) (s : Dr) (r : Res) : Option Dr := match r with
  | .no => none
  | .pure v => some (s.val i v)
  | .rd v => some (s.read i v)
  | .eff v h => drEff X ρ i o s v h
  | .call f args => drCall cf A ops i s f args
def drStep (X : Sx) (cf : CF) (ops : List Oper) (T : Tr AV) (D : List (Nat × Nat)) (A : List Nat) (i : Nat) (o : Oper) (s : Dr) : Option Dr :=
  match guardOn ops (look T D A s.vals i) o.guard with
  | none => none
  | some false => some (s.val i (.v undef))
  | some true => drRes X cf A ops (look T D A s.vals i) i o s (stepO X (look T D A s.vals i) s.cur.h o)
def drRun (X : Sx) (cf : CF) (ops : List Oper) (T : Tr AV) (D : List (Nat × Nat)) (A : List Nat) : List Oper → Nat → Dr → Option Dr
  | [], _, s => some s
  | o :: r, i, s => match drStep X cf ops T D A i o s with
    | some s => drRun X cf ops T D A r (Nat.succ i) s
    | none => none

def putAll (ops : List Oper) : List (Nat × AV) → Tr AV → Tr AV
  | [], T => T
  | (i, v) :: r, T => putT (putAll ops r T) ((ops[i]?).bind (·.dst)) v

def eqV : Value → Value → Bool
  | .int k a, .int k' b => Nat.beq (ikN k) (ikN k') && eqI a b
  | .bool a, .bool b => a == b
  | .string a, .string b => a.data.toList == b.data.toList
  | .float k a, .float k' b => k == k' && Nat.beq a b
  | .pointer none, .pointer none => true
  | .slice none a b, .slice none c d => Nat.beq a c && Nat.beq b d
  | .nilFunc, .nilFunc => true
  | .map none, .map none => true
  | _, _ => false
def eqVL : List Value → List Value → Bool
  | [], [] => true
  | a :: r, b :: t => eqV a b && eqVL r t
  | _, _ => false
mutual
def eqA : AV → AV → Bool
  | .v (.agg a), .v (.agg b) => eqVL a.toList b.toList
  | .v (.func (.func f) a b), .v (.func (.func g) c d) => Nat.beq f g && eqVL a.toList c.toList && eqVL b.toList d.toList
  | .v a, .v b => eqV a b
  | .ptr a b, .ptr c d => Nat.beq a c && Nat.beq b d
  | .sl a b c d e, .sl a' b' c' d' e' => Nat.beq a a' && Nat.beq b b' && Nat.beq c c' && Nat.beq d d' && e == e'
  | .slz, .slz => true
  | .map a, .map b => Nat.beq a b
  | .agg a, .agg b => eqAL a b
  | .tup a, .tup b => eqAL a b
  | .fn f a b, .fn g c d => Nat.beq f g && eqAL a c && eqAL b d
  | _, _ => false
def eqAL : List AV → List AV → Bool
  | [], [] => true
  | a :: r, b :: t => eqA a b && eqAL r t
  | _, _ => false
end

def nz : Nat → Bool
  | 0 => false
  | _ + 1 => true
/-- Each op that turns memory and may come next at a node has an edge. -/
def chkEdge (A : List Nat) (s : Dr) (c : Nd) (e : Nat) : Bool :=
  tb c.X e || nz (Nat.land (Nat.xor s.cur.X c.X) (A.getD e 0)) || s.edges.any fun p => Nat.beq p.1 c.X && Nat.beq p.2 e
def chkEdges (A : List Nat) (s : Dr) : Bool := s.nodes.all fun c => s.effs.all fun e => chkEdge A s c e
def sameRd (v : Option AV) : Res → Bool
  | .rd u => match v with
    | some v => eqA u v
    | none => false
  | _ => false
/-- Each op that looks at memory finds the same wherever it may come. -/
def chkRead (X : Sx) (ops : List Oper) (T : Tr AV) (D : List (Nat × Nat)) (A : List Nat) (s : Dr) (i : Nat) (c : Nd) : Bool :=
  nz (Nat.land (Nat.xor s.cur.X c.X) (A.getD i 0)) || s.effs.any (fun e => tb c.X e && tb (A.getD e 0) i) ||
    match ops[i]? with
    | some o => sameRd (lkp s.vals i) (stepO X (look T D A s.vals i) c.h o)
    | none => false
def chkReads (X : Sx) (ops : List Oper) (T : Tr AV) (D : List (Nat × Nat)) (A : List Nat) (s : Dr) : Bool :=
  s.reads.all fun i => s.nodes.all fun c => chkRead X ops T D A s i c
/-- The ops wait for earlier ones alone. -/
def chkDep (i : Nat) : List Edge → Bool
  | [] => true
  | e :: r => (!Region.binds .any e || Nat.blt e.on i) && chkDep i r
def chkDeps : List Oper → Nat → Bool
  | [], _ => true
  | o :: r, i => chkDep i o.after.toList && chkDeps r (Nat.succ i)
def evD2 (X : Sx) (ops : List Oper) (T : Tr AV) (h : Hp) (D : List (Nat × Nat)) (A : List Nat) (s : Dr) : Option (Tr AV × Hp) :=
  match chkDeps ops 0 && nodupN D && (chkEdges A s && (chkReads X ops T D A s && Nat.ble h.next s.cur.h.next)) with
  | true => some (putAll ops s.vals T, s.cur.h)
  | false => none
def evD1 (X : Sx) (cf : CF) (ops : List Oper) (T : Tr AV) (h : Hp) (D : List (Nat × Nat)) (A : List Nat) : Option (Tr AV × Hp) :=
  match drRun X cf ops T D A ops 0 ⟨[], ⟨0, h, none⟩, 0, [⟨0, h, none⟩], [], [], [], none⟩ with
  | none => none
  | some s => evD2 X ops T h D A s
def evD (X : Sx) (cf : CF) (ops : List Oper) (T : Tr AV) (h : Hp) : Option (Tr AV × Hp) := evD1 X cf ops T h (dstsOf ops 0) (ancs ops [])

/-! ## Code, functions -/

inductive Ex where
  | norm
  | exit (id : Nat)
  | ret
def initT : List AV → Nat → Tr AV → Tr AV
  | [], _, T => T
  | a :: r, i, T => initT r (Nat.succ i) (tset T i (some a))
def resL (X : Sx) (T : Tr AV) (h : Hp) : List ResultVar → Option (List AV)
  | [] => some []
  | .tmp t :: r => match tget T t with
    | some v => match resL X T h r with
      | some l => some (v :: l)
      | none => none
    | none => none
  | .cell t ty :: r => match oLoad X (tget T) h ty (.tmp t) with
    | .rd v => match resL X T h r with
      | some l => some (v :: l)
      | none => none
    | _ => none
def resA : List AV → AV
  | [v] => v
  | l => mkTup l

/-- A call: the body, or what the model knows of a function without one. -/
def callF (X : Sx) (ec : Code → Tr AV → Hp → Option (Ex × Tr AV × Hp)) : CF := fun g args h => match X.FT g with
  | some fi => match fi.body with
    | some c => match ec c (initT args 0 .e) h with
      | some (.exit _, _, _) => none
      | some (_, T, h) => match resL X T h fi.res with
        | some l => some (resA l, h)
        | none => none
      | none => none
    | none => match allV args with
      | some vs => match pureRun X.P (callFunc g vs.toArray) with
        | some (.value v) => some (.v v, h)
        | _ => none
      | none => none
  | none => none

abbrev RC := Option (Ex × Tr AV × Hp)
def evC (X : Sx) (f : Nat) : Code → Tr AV → Hp → RC :=
  Nat.rec (motive := fun _ => Code → Tr AV → Hp → RC) (fun _ _ _ => none) (fun _ ih c => Code.casesOn (motive := fun _ => Tr AV → Hp → RC) c
    (fun T h => some (.norm, T, h))
    (fun _ ops dr T h => match (Bool.rec (motive := fun _ => Option (Tr AV × Hp)) (evOps X (callF X ih) ops.toList ops.toList T h) (evD X (callF X ih) ops.toList T h) dr) with
      | some (T, h) => some (.norm, T, h)
      | none => none)
    (fun a b T h => match ih a T h with
      | some (.norm, T, h) => ih b T h
      | r => r)
    (fun c a b T h => match evO (tget T) c with
      | some (.v (.bool true)) => ih a T h
      | some (.v (.bool false)) => ih b T h
      | _ => none)
    (fun id b T h => match ih b T h with
      | some (.exit i, T, h) => some (match Nat.beq i id with | true => .norm | false => .exit i, T, h)
      | r => r)
    (fun b T h => match ih b T h with
      | some (.norm, T, h) => ih (.loop b) T h
      | r => r)
    (fun _ _ _ _ _ _ => none)
    (fun id T h => some (.exit id, T, h))
    (fun b T h => ih b T h)
    (fun _ T h => some (.norm, T, h))
    (fun _ _ _ => none)
    (fun T h => some (.ret, T, h))
    (fun _ _ _ => none)) f
--END
end
end Go.EV
