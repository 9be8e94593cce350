/- The abstract executor: definitions. It runs GoSem code over abstract values (integers that are literal or symbolic, addresses of numbered blocks) and tells what has to hold on the way. No statement of a program stands here; soundness is proved in the texts behind it. -/
import Derived.Test.YtljchidgchjoeaaAx0d
namespace Go.Ax
open Go Go.RowKit

/-! ## Integers -/

def binI (op : BinOp) (k : IntKind) (a b : Int) : Int :=
  match op with
  | .add => k.wrap (a + b)
  | .sub => k.wrap (a - b)
  | .mul => k.wrap (a * b)
  | .quo => k.wrap (a.tdiv b)
  | .rem => a.tmod b
  | .and => k.wrap (BitVec.ofInt k.bits a &&& BitVec.ofInt k.bits b).toNat
  | .or => k.wrap (BitVec.ofInt k.bits a ||| BitVec.ofInt k.bits b).toNat
  | .xor => k.wrap (BitVec.ofInt k.bits a ^^^ BitVec.ofInt k.bits b).toNat
  | .andNot => k.wrap (BitVec.ofInt k.bits a &&& ~~~ BitVec.ofInt k.bits b).toNat
  | .shl => k.wrap (a * 2 ^ (min b.toNat k.bits))
  | .shr => a.fdiv (2 ^ (min b.toNat k.bits))
  | _ => 0

def cmpI (op : BinOp) (a b : Int) : Bool :=
  match op with
  | .eql => a == b
  | .neq => a != b
  | .lss => decide (a < b)
  | .leq => decide (a ≤ b)
  | .gtr => decide (a > b)
  | .geq => decide (a ≥ b)
  | _ => false

def unI (op : UnOp) (k : IntKind) (a : Int) : Int :=
  match op with
  | .neg => binI .sub k 0 a
  | .xor => binI .xor k (if k.signed then -1 else k.max) a
  | _ => 0

def okI (k : IntKind) (n : Int) : Prop := k.min ≤ n ∧ n ≤ k.max
instance (k : IntKind) (n : Int) : Decidable (okI k n) := by unfold okI; infer_instance

/-- The number at a computed place of a list. -/
def sel (L : List Int) (i : Int) : Int := L.getD i.toNat 0

/-- A choice between two numbers. -/
def iteI (c : Bool) (a b : Int) : Int := match c with | true => a | false => b
def iteB (c : Bool) (a b : Bool) : Bool := match c with | true => a | false => b

/-! ## Abstract values -/

/-- What a function value has captured. -/
inductive CV where
  | p (blk off : Nat)
  | r (v : Value)

/-- What lies in one cell. -/
inductive SV where
  | any
  | li (k : IntKind) (n : Int)
  | si (k : IntKind) (e : Int)
  | lb (x : Bool)
  | sb (x : Bool)
  | ptr (blk off : Nat)
  | ptrS (blk : Nat) (off : Int)
  | ptrR (blk g : Nat) (off : Int)
  | slice (blk off len cap : Nat)
  | slx (blk off len : Nat)
  | fn (f : Nat) (caps : List CV)
  | raw (v : Value)
  /-- A slice of a block: from 'o' on, 'n' long; how far the block goes is the number that 'g' stands for. -/
  | sq (blk g o n : Nat)
  /-- A slice of whatever capacity (where it is empty, of whatever block). -/
  | slq (blk o n : Nat)
  /-- A slice of a row that stays; where the row begins in its block is the number that 'g' stands for. -/
  | slr (blk g o n : Nat)
  /-- A slice without room. -/
  | e0
  /-- A text, of so many bytes. -/
  | st (L : List Int)
  /-- A map. -/
  | mp (blk : Nat)
  /-- What a range over a function calls for each round: of which loop. -/
  | yl (blk : Nat)

/-- A part of a tuple. -/
inductive TV where
  | one (s : SV)
  | agg (l : List SV)

inductive AV where
  | one (s : SV)
  | agg (l : List SV)
  | tup (l : List TV)

def AV.any : AV := .one .any

/-! ## Tables by number: the kernel finds a place in a few steps -/

inductive Tr (α : Type) where
  | leaf
  | node (v : Option α) (l r : Tr α)

def Tr.mk {α : Type} : Nat → Tr α
  | 0 => .leaf
  | d + 1 => .node none (Tr.mk d) (Tr.mk d)

def Tr.get {α : Type} : Tr α → Nat → Option α
  | .leaf, _ => none
  | .node v l r, n => match Nat.beq n 0 with
    | true => v
    | false => match Nat.beq (n % 2) 1 with
      | true => l.get (n / 2)
      | false => r.get (n / 2 - 1)

def Tr.set {α : Type} : Tr α → Nat → α → Tr α
  | .leaf, _, _ => .leaf
  | .node v l r, n, a => match Nat.beq n 0 with
    | true => .node (some a) l r
    | false => match Nat.beq (n % 2) 1 with
      | true => .node v (l.set (n / 2) a) r
      | false => .node v l (r.set (n / 2 - 1) a)

/-- A deferred call: a mark; a function's call. -/
inductive DE where
  | mark (b : Nat)
  | call (g : Nat) (args : List AV)

/-- The slots of a frame; its deferred calls. -/
structure TM where
  sz : Nat
  t : Tr AV
  df : List DE

def TM.get (tm : TM) (n : Nat) : AV := match tm.t.get n with | some v => v | none => .any
def TM.set (tm : TM) (n : Nat) (v : AV) : TM := match Nat.blt n tm.sz with | true => ⟨tm.sz, tm.t.set n v, tm.df⟩ | false => tm

def Tr.ofList {α : Type} : Tr α → Nat → List α → Tr α
  | t, _, [] => t
  | t, i, v :: vs => Tr.ofList (t.set i v) (i + 1) vs

/-- A frame as it begins. -/
def TM.enter (sz : Nat) (args : List AV) : TM := ⟨sz, Tr.ofList (Tr.mk 10) 0 args, []⟩

/-- What a range over a function keeps: the block for its rounds' deferred calls; the loop's record. -/
inductive LO where
  | df
  | lp (st : LoopState) (pend : Option Code) (tm : TM) (ps : Array Tmp) (assign body : Code) (d : Nat)

/-- A block of memory. -/
inductive AB where
  | gone
  | cells (t : TypeId) (l : List SV)
  | row (t : TypeId) (l : List SV)
  | ro (l : List SV)
  /-- A row of its own, of numbers; 'g' stands for how many cells it has. -/
  | seq (t : TypeId) (k : IntKind) (L : List Int) (g : Nat)
  /-- A row of numbers that stays; 'g' stands for where it begins in its block. -/
  | rseq (k : IntKind) (L : List Int) (g : Nat)
  /-- A map of numbers by numbers. -/
  | mp (k kv : IntKind) (es : List (Int × Int))
  /-- A row of one's own that is read alone. -/
  | fz (t : TypeId) (l : List SV)
  /-- What a range over a function keeps. -/
  | ob (o : LO)

/-- The blocks that are known. -/
structure Mem where
  n : Nat
  t : Tr AB

def Mem.get (m : Mem) (i : Nat) : Option AB := m.t.get i
def Mem.set (m : Mem) (i : Nat) (b : AB) : Mem := ⟨m.n, m.t.set i b⟩
def Mem.push (m : Mem) (b : AB) : Mem := ⟨m.n + 1, m.t.set m.n b⟩
def Mem.empty : Mem := ⟨0, Tr.mk 14⟩
/-- The package's variables alone. -/
def memG (gd : List (Nat × List SV)) : Mem := ⟨gd.length, Tr.ofList (Tr.mk 14) 0 (gd.map fun p => .ro p.2)⟩
def glFrom : Nat → List (Nat × List SV) → List (Nat × Nat)
  | _, [] => []
  | i, p :: ps => (p.1, i) :: glFrom (i + 1) ps

def kEq (a b : IntKind) : Bool :=
  match a, b with
  | .i8, .i8 => true
  | .i16, .i16 => true
  | .i32, .i32 => true
  | .i64, .i64 => true
  | .u8, .u8 => true
  | .u16, .u16 => true
  | .u32, .u32 => true
  | .u64, .u64 => true
  | _, _ => false

/-! ## What they mean -/

def CV.conc (env : Nat → Nat) : CV → Value
  | .p b o => .pointer (some ⟨env b, o, none⟩)
  | .r v => v

def SV.conc (env : Nat → Nat) : SV → Value
  | .any => undef
  | .li k n => .int k n
  | .si k n => .int k n
  | .lb x => .bool x
  | .sb x => .bool x
  | .ptr b o => .pointer (some ⟨env b, o, none⟩)
  | .ptrS b o => .pointer (some ⟨env b, o.toNat, none⟩)
  | .ptrR b g o => .pointer (some ⟨env b, env g + o.toNat, none⟩)
  | .slice b o l c => .slice (some ⟨env b, o, none⟩) l c
  | .slx b o l => .slice (some ⟨env b, o, none⟩) l l
  | .fn f caps => .func (.func f) #[] (caps.map (CV.conc env)).toArray
  | .raw v => v
  | .sq .. => undef
  | .slq .. => undef
  | .slr .. => undef
  | .e0 => undef
  | .st L => .string (strOfNums L)
  | .mp b => .map (some (env b))
  | .yl b => .func (.yield (env b)) #[] #[]

def TV.conc (env : Nat → Nat) : TV → Value
  | .one s => s.conc env
  | .agg l => .agg (l.map (SV.conc env)).toArray

def AV.conc (env : Nat → Nat) : AV → Value
  | .one s => s.conc env
  | .agg l => .agg (l.map (SV.conc env)).toArray
  | .tup l => .tuple (l.map (TV.conc env)).toArray

def CV.ok (m : Nat) : CV → Prop
  | .p b _ => b < m
  | .r _ => True

/-- Numbers are in their kinds' bounds, addresses are of blocks that are there. -/
def SV.ok (m : Nat) : SV → Prop
  | .any => True
  | .li k n => okI k n
  | .si k n => okI k n
  | .lb _ => True
  | .sb _ => True
  | .ptr b _ => b < m
  | .ptrS b _ => b < m
  | .ptrR b g _ => b < m ∧ g < m
  | .slice b _ l c => b < m ∧ l ≤ c ∧ c ≤ 9223372036854775807
  | .slx b _ _ => b < m
  | .fn _ caps => ∀ c ∈ caps, c.ok m
  | .raw v => v.oneCell' = true
  | .sq b g _ _ => b < m ∧ g < m
  | .slq b _ _ => b < m
  | .slr b g _ _ => b < m ∧ g < m
  | .e0 => True
  | .st L => ∀ x ∈ L, okI .u8 x
  | .mp b => b < m
  | .yl b => b < m

def SV.R (env : Nat → Nat) (m : Nat) (s : SV) (v : Value) : Prop :=
  match s with
  | .any => True
  | .slx b o l => b < m ∧ ∃ c, l ≤ c ∧ c ≤ 9223372036854775807 ∧ v = .slice (some ⟨env b, o, none⟩) l c
  | .sq b g o n => (b < m ∧ g < m) ∧ ∃ o', (o' = o ∨ env g = o) ∧ o + n ≤ env g ∧ env g ≤ 9223372036854775807 ∧ v = .slice (some ⟨env b, o', none⟩) n (env g - o)
  | .slq b o n => b < m ∧ ∃ p c, n ≤ c ∧ c ≤ 9223372036854775807 ∧ v = .slice p n c ∧ (n = 0 ∨ p = some ⟨env b, o, none⟩)
  | .slr b g o n => (b < m ∧ g < m) ∧ ∃ p c, n ≤ c ∧ c ≤ 9223372036854775807 ∧ v = .slice p n c ∧ (n = 0 ∨ p = some ⟨env b, env g + o, none⟩)
  | .e0 => True ∧ ∃ p, v = .slice p 0 0
  | s => s.ok m ∧ v = s.conc env

def SV.det : SV → Bool
  | .any => false
  | .slx .. => false
  | .sq .. => false
  | .slq .. => false
  | .slr .. => false
  | .e0 => false
  | _ => true

/-- Something is known of it: it is of one cell. -/
def SV.cell : SV → Bool
  | .any => false
  | _ => true

def TV.det : TV → Bool
  | .one s => s.det
  | .agg l => l.all SV.det

def AV.det : AV → Bool
  | .one s => s.det
  | .agg l => l.all SV.det
  | .tup l => l.all TV.det

/-- Two lists agree, place by place. -/
def All2 {α β : Type} (R : α → β → Prop) : List α → List β → Prop
  | [], [] => True
  | a :: as, b :: bs => R a b ∧ All2 R as bs
  | _, _ => False

def TV.R (env : Nat → Nat) (m : Nat) (s : TV) (v : Value) : Prop :=
  match s with
  | .one s => s.R env m v
  | .agg l => ∃ vs : List Value, v = .agg vs.toArray ∧ All2 (SV.R env m) l vs

def AV.R (env : Nat → Nat) (m : Nat) (s : AV) (v : Value) : Prop :=
  match s with
  | .one s => s.R env m v
  | .agg l => ∃ vs : List Value, v = .agg vs.toArray ∧ All2 (SV.R env m) l vs
  | .tup l => ∃ vs : List Value, v = .tuple vs.toArray ∧ All2 (TV.R env m) l vs

/-! ## Operations that leave memory alone -/

def absS (v : Value) : SV :=
  match v with
  | .int k n => if decide (k.min ≤ n) && decide (n ≤ k.max) then .li k n else .any
  | .bool b => .lb b
  | .agg _ => .any
  | .tuple _ => .any
  | v => .raw v

def absV (v : Value) : AV :=
  match v with
  | .agg cs => .agg (cs.toList.map absS)
  | .tuple _ => .any
  | v => .one (absS v)

inductive AE where
  | normal
  | exit (id : Nat)
  | goto (l : Nat)
  | ret
  | panic (v : Value)

/-- What a run comes to. -/
inductive Out where
  | bad (why : Nat)
  | need (p : Prop) (o : Out)
  | br (c : Bool) (t f : Out)
  | both (a b : Out)
  | done (v : AV) (mem : Mem)

/-- A cell of a result: a number, a truth value, a slice of its own, a slice without room. -/
inductive RC where
  | i (k : IntKind) (n : Int)
  | b (x : Bool)
  | s (t : TypeId) (k : IntKind) (L : List Int)
  | e

def RC.wid : RC → Nat
  | .s .. => 2
  | _ => 0
def RC.val (n : Nat) : RC → SV
  | .i k x => .si k x
  | .b x => .sb x
  | .s _ _ L => .sq n (n + 1) 0 L.length
  | .e => .e0
def RC.put (n : Nat) (t : Tr AB) : RC → Tr AB
  | .s ty k L => t.set n (.seq ty k L (n + 1))
  | _ => t
def widRC : List RC → Nat
  | [] => 0
  | c :: cs => c.wid + widRC cs
def valRC : Nat → List RC → List SV
  | _, [] => []
  | n, c :: cs => c.val n :: valRC (n + c.wid) cs
def putRC : Nat → Tr AB → List RC → Tr AB
  | _, t, [] => t
  | n, t, c :: cs => putRC (n + c.wid) (c.put n t) cs

/-- A part of a result: a cell, or a row of them. -/
inductive RP where
  | c (x : RC)
  | g (l : List RC)
def RP.cells : RP → List RC
  | .c x => [x]
  | .g l => l
def RP.val (n : Nat) : RP → TV
  | .c x => .one (x.val n)
  | .g l => .agg (valRC n l)
def valRP : Nat → List RP → List TV
  | _, [] => []
  | n, r :: rs => r.val n :: valRP (n + widRC r.cells) rs

/-- A result: one part, or some. -/
inductive RS where
  | p (x : RP)
  | t (l : List RP)
def RS.cells : RS → List RC
  | .p x => x.cells
  | .t l => l.flatMap RP.cells
def RS.val (n : Nat) : RS → AV
  | .p (.c x) => .one (x.val n)
  | .p (.g l) => .agg (valRC n l)
  | .t l => .tup (valRP n l)
/-- Results, by cases. -/
inductive RT where
  | one (r : RS)
  | br (c : Bool) (x y : RT)
def RT.now : RT → RS
  | .one r => r
  | .br true x _ => x.now
  | .br false _ y => y.now
def RT.bind (k : RS → Out) : RT → Out
  | .one r => k r
  | .br c x y => .br c (x.bind k) (y.bind k)
def RS.mem (m : Mem) (r : RS) : Mem := ⟨m.n + widRC r.cells, putRC m.n m.t r.cells⟩

structure Cfg where
  P : Program
  J : Judg P
  fns : List (Nat × Func)
  gl : List (Nat × Nat)
  gd : List (Nat × List SV)
  ps : List (Nat × (List AV → Mem → Option (List Prop × AV)))
  sp : List (Nat × Nat × List Int) := []
  mg : List Nat := []
  lp : List (Nat × Code × (TM → Mem → Option (List Prop × AE × TM × Mem))) := []
  ex : List (Nat × (List AV → Option (List Prop × AV))) := []
  qs : List (Nat × (List AV → Mem → Option (List Prop × AV × Mem))) := []
  lq : List (Nat × Code × (TM → Mem → Option ((AE → TM → Mem → Out) → Out))) := []
  fs : List (Nat × (List AV → Mem → Option (List Prop × RT))) := []
  /-- How closely it is looked at what operations list. -/
  lvl : Nat := 0
  /-- Whether slices' lengths are literals. -/
  lit : Bool := false
  /-- The regions that are carried out in parts. -/
  sg : List Nat := []
  /-- Deferred functions: from a panic, or not; what is asked, and the memory behind. -/
  dc : List (Nat × (Option Value → List AV → Mem → Option (List Prop × Mem))) := []

def assoc {α : Type} (l : List (Nat × α)) (n : Nat) : Option α :=
  match l with
  | [] => none
  | (k, a) :: rest => match Nat.beq k n with | true => some a | false => assoc rest n

def ev (C : Cfg) (tm : TM) : Operand → AV
  | .tmp t => tm.get t
  | .const v => absV v
  | .global g => match assoc C.gl g with | some i => .one (.ptr i 0) | none => .any
  | .func f => .one (.fn f [])

def AB.get? : AB → Option (List SV)
  | .gone => none
  | .cells _ l => some l
  | .row _ l => some l
  | .ro l => some l
  | .seq .. => none
  | .rseq .. => none
  | .mp .. => none
  | .ob .. => none
  | .fz _ l => some l

/-- The numbers of a block that holds a row of them. -/
def AB.ints? : AB → Option (IntKind × List Int)
  | .seq _ k L _ => some (k, L)
  | _ => none

/-- The numbers of a list of cells that are all integers of one kind. -/
def intsOf (k : IntKind) : List SV → Option (List Int)
  | [] => some []
  | .li k' n :: rest => match kEq k k', intsOf k rest with | true, some l => some (n :: l) | _, _ => none
  | .si k' n :: rest => match kEq k k', intsOf k rest with | true, some l => some (n :: l) | _, _ => none
  | _ :: _ => none

def kindOf : List SV → Option IntKind
  | .li k _ :: _ => some k
  | .si k _ :: _ => some k
  | _ => none

/-- How many cells a struct or array type has; 'some none': it is of one cell. -/
def aggSize (P : Program) (t : TypeId) : Option (Option Nat) :=
  match P.underlying t, P.info? t with
  | some (.struct _), some i => some (some i.size)
  | some (.array _ _), some i => some (some i.size)
  | some _, some _ => some none
  | _, _ => none

def sizeA (P : Program) (t : TypeId) : Option Nat := (P.info? t).map (·.size)

abbrev POut := Option (List Prop × AV)

/-- An integer, and whether it is a literal. -/
inductive AI where
  | l (k : IntKind) (n : Int)
  | s (k : IntKind) (n : Int)
  | no

def AV.int : AV → AI
  | .one (.li k n) => .l k n
  | .one (.si k n) => .s k n
  | _ => .no

inductive ABo where
  | l (b : Bool)
  | s (b : Bool)
  | no

def AV.bool : AV → ABo
  | .one (.lb x) => .l x
  | .one (.sb x) => .s x
  | _ => .no

/-- A truth value, and whether it is a literal. -/
def AV.bool? (x : AV) : Option (Bool × Bool) := match x.bool with
  | .l b => some (true, b)
  | .s b => some (false, b)
  | .no => none
def mkB (lit : Bool) (b : Bool) : AV := match lit with | true => .one (.lb b) | false => .one (.sb b)

def isShift : BinOp → Bool
  | .shl => true
  | .shr => true
  | _ => false

def isDiv : BinOp → Bool
  | .quo => true
  | .rem => true
  | _ => false

def isCmp : BinOp → Bool
  | .eql => true
  | .neq => true
  | .lss => true
  | .leq => true
  | .gtr => true
  | .geq => true
  | _ => false

def isArith : BinOp → Bool
  | .add => true
  | .sub => true
  | .mul => true
  | .quo => true
  | .rem => true
  | .and => true
  | .or => true
  | .xor => true
  | .andNot => true
  | _ => false

/-- Are two cells equal? -/
def eqS : SV → SV → Option Bool
  | .li k a, .li k' b => match kEq k k' with | true => some (a == b) | false => none
  | .li k a, .si k' b => match kEq k k' with | true => some (a == b) | false => none
  | .si k a, .li k' b => match kEq k k' with | true => some (a == b) | false => none
  | .si k a, .si k' b => match kEq k k' with | true => some (a == b) | false => none
  | _, _ => none

def isInt (P : Program) (t : TypeId) : Bool :=
  match P.underlying t with
  | some (.int _) => true
  | _ => false

/-- Where the integers of a struct, or of an array, lie that are held against each other. -/
def eqPlan (P : Program) (t : TypeId) : Option (List (Nat × TypeId)) :=
  match P.underlying t with
  | some (.array n e) => match P.info? e, isInt P e with
    | some _, true => some ((List.range n).map fun i => (i * P.cellsOf e, e))
    | _, _ => none
  | some (.struct fs) => match P.stoodInHeld t, fs.toList.all fun f => decide (f.name ≠ "_") && isInt P f.type with
    | false, true => some (fs.toList.map fun f => (f.offset, f.type))
    | _, _ => none
  | _ => none

def eqAt (l l' : List SV) : List (Nat × TypeId) → Option Bool
  | [] => some true
  | (o, _) :: rest => match l[o]?, l'[o]? with
    | some a, some b => match eqS a b, eqAt l l' rest with
      | some x, some y => some (x && y)
      | _, _ => none
    | _, _ => none

def binA (P : Program) (op : BinOp) (xt : TypeId) (x y : AV) : POut :=
  match x.int, y.int with
  | .l k a, .l k' b =>
    match isShift op with
    | true => match decide (0 ≤ b) with
      | true => some ([], .one (.li k (binI op k a b)))
      | false => none
    | false => match kEq k k' with
      | false => none
      | true => match isCmp op with
        | true => some ([], .one (.lb (cmpI op a b)))
        | false => match isArith op with
          | false => none
          | true => match isDiv op && decide (b = 0) with
            | true => none
            | false => some ([], .one (.li k (binI op k a b)))
  | .l k a, .s k' b | .s k a, .s k' b =>
    match isShift op with
    | true => some ((match k'.signed with | true => [0 ≤ b] | false => []), .one (.si k (binI op k a b)))
    | false => match kEq k k' with
      | false => none
      | true => match isCmp op with
        | true => some ([], .one (.sb (cmpI op a b)))
        | false => match isArith op with
          | false => none
          | true => some ((match isDiv op with | true => [b ≠ 0] | false => []), .one (.si k (binI op k a b)))
  | .s k a, .l k' b =>
    match isShift op with
    | true => match decide (0 ≤ b) with
      | true => some ([], .one (.si k (binI op k a b)))
      | false => none
    | false => match kEq k k' with
      | false => none
      | true => match isCmp op with
        | true => some ([], .one (.sb (cmpI op a b)))
        | false => match isArith op with
          | false => none
          | true => match isDiv op && decide (b = 0) with
            | true => none
            | false => some ([], .one (.si k (binI op k a b)))
  | _, _ =>
    match x, y with
    | .agg l, .agg l' =>
      match P.eqGuardType P.depth xt, eqPlan P xt with
      | false, some pl => match eqAt l l' pl with
        | some e => match op with
          | .eql => some ([], .one (.sb e))
          | .neq => some ([], .one (.sb (!e)))
          | _ => none
        | none => none
      | _, _ => none
    | _, _ => match P.underlying xt, x.bool?, y.bool? with
      | some .bool, some (p, a), some (q, b) => match op with
        | .eql => some ([], mkB (p && q) (a == b))
        | .neq => some ([], mkB (p && q) (!(a == b)))
        | _ => none
      | _, _, _ => none

def unA (op : UnOp) (x : AV) : POut :=
  match op, x with
  | .neg, .one (.li k n) => some ([], .one (.li k (unI .neg k n)))
  | .neg, .one (.si k n) => some ([], .one (.si k (unI .neg k n)))
  | .xor, .one (.li k n) => some ([], .one (.li k (unI .xor k n)))
  | .xor, .one (.si k n) => some ([], .one (.si k (unI .xor k n)))
  | .not, .one (.lb x) => some ([], .one (.lb (!x)))
  | .not, .one (.sb x) => some ([], .one (.sb (!x)))
  | _, _ => none

def convA (P : Program) (src dst : TypeId) (x : AV) : POut :=
  match P.underlying src, P.underlying dst, x with
  | some (.int _), some (.int k), .one (.li k' n) => match kEq k k' with | true => some ([], .one (.li k n)) | false => some ([], .one (.li k (k.wrap n)))
  | some (.int _), some (.int k), .one (.si k' n) => match kEq k k' with | true => some ([], .one (.si k n)) | false => some ([], .one (.si k (k.wrap n)))
  | _, _, _ => none

def seg (l : List SV) (o n : Nat) : Option (List SV) :=
  let r := (l.drop o).take n
  match Nat.beq r.length n && r.all SV.cell with | true => some r | false => none

def loadA (P : Program) (mem : Mem) (t : TypeId) (x : AV) : POut :=
  match x with
  | .one (.ptr b o) =>
    match (mem.get b).bind AB.get?, aggSize P t with
    | some l, some (some n) => match seg l o n with | some r => some ([], .agg r) | none => none
    | some l, some none => match l[o]? with | some s => some ([], .one s) | none => none
    | none, some none => match (mem.get b).bind AB.ints? with | some (k, L) => some ([0 ≤ (o : Int), (o : Int) < (L.length : Int)], .one (.si k (sel L (o : Int)))) | none => none
    | _, _ => none
  | .one (.ptrR b g e) =>
    match mem.get b, aggSize P t with
    | some (.rseq k L g'), some none => match Nat.beq g g' with | true => some ([0 ≤ e, e < (L.length : Int)], .one (.si k (sel L e))) | false => none
    | _, _ => none
  | .one (.ptrS b e) =>
    match (mem.get b).bind AB.get?, aggSize P t with
    | some l, some none => match kindOf l with
      | some k => match intsOf k l with
        | some es => some ([0 ≤ e, e < (es.length : Int)], .one (.si k (sel es e)))
        | none => none
      | none => none
    | none, some none => match (mem.get b).bind AB.ints? with | some (k, L) => some ([0 ≤ e, e < (L.length : Int)], .one (.si k (sel L e))) | none => none
    | _, _ => none
  | _ => none

/-- The place of an index in a slice whose length nobody knows. -/
def idxQ (P : Program) (e : TypeId) (n b o : Nat) (ix : AV) : POut :=
  match sizeA P e, ix.int with
  | some sz, .l _ i | some sz, .s _ i => match Nat.beq sz 1 with
    | true => some ([0 ≤ i, i < (n : Int)], .one (.ptrS b ((o : Int) + i)))
    | false => none
  | _, _ => none

def idxR (P : Program) (e : TypeId) (n b g o : Nat) (ix : AV) : POut :=
  match idxQ P e n b o ix with
  | some (ps, .one (.ptrS _ e')) => some (ps, .one (.ptrR b g e'))
  | _ => none

/-- The place of an index: literal in bounds, or a condition. -/
def idxA (P : Program) (e : TypeId) (len : Nat) (b o : Nat) (ix : AV) : POut :=
  match sizeA P e, ix.int with
  | some sz, .l _ i => match decide (0 ≤ i) && decide (i < (len : Int)) with
    | true => some ([], .one (.ptr b (o + i.toNat * sz)))
    | false => none
  | some sz, .s _ i => match Nat.beq sz 1 && Nat.beq o 0 with
    | true => some ([0 ≤ i, i < (len : Int)], .one (.ptrS b i))
    | false => none
  | _, _ => none

def indexAddrA (P : Program) (t : TypeId) (x ix : AV) : POut :=
  match P.underlying t, x with
  | some (.array n e), .one (.ptr b o) => match decide (1 < n) with | true => idxA P e n b o ix | false => none
  | some (.slice e), .one (.slice b o n _) => idxA P e n b o ix
  | some (.slice e), .one (.slx b o n) => idxA P e n b o ix
  | some (.slice e), .one (.sq b _ o n) => idxQ P e n b o ix
  | some (.slice e), .one (.slq b o n) => idxQ P e n b o ix
  | some (.slice e), .one (.slr b g o n) => idxR P e n b g o ix
  | _, _ => none

/-- A byte of a text. -/
def bytesI (b : ByteArray) : List Int := b.data.toList.map fun x => (x.toNat : Int)
def strAt (b : ByteArray) (i : Int) : POut := some ([0 ≤ i, i < (b.size : Int)], .one (.si .u8 (sel (bytesI b) i)))

def indexA (P : Program) (t : TypeId) (x ix : AV) : POut :=
  match P.underlying t, x with
  | some (.array n e), .agg l =>
    match aggSize P e, ix.int with
    | some none, .l _ i => match sizeA P e, decide (0 ≤ i) && decide (i < (n : Int)) with
      | some sz, true => match l[i.toNat * sz]? with
        | some s => some ([], .one s)
        | none => none
      | _, _ => none
    | some none, .s _ i => match sizeA P e with
      | some sz => match Nat.beq sz 1, Nat.beq n l.length, kindOf l with
        | true, true, some k => match intsOf k l with
          | some es => some ([0 ≤ i, i < (n : Int)], .one (.si k (sel es i)))
          | none => none
        | _, _, _ => none
      | none => none
    | some (some sz), .l _ i => match decide (0 ≤ i) && decide (i < (n : Int)) with
      | true => match seg l (i.toNat * sz) sz with
        | some r => some ([], .agg r)
        | none => none
      | false => none
    | _, _ => none
  | some .string, .one (.raw (.string b)) => match ix.int with
    | .l _ i => strAt b i
    | .s _ i => strAt b i
    | .no => none
  | _, _ => none

def fieldA (P : Program) (t : TypeId) (x : AV) (f : Nat) : POut :=
  match P.underlying t, x with
  | some (.struct fs), .agg l =>
    match fs[f]? with
    | some fd => match aggSize P fd.type with
      | some none => match l[fd.offset]? with | some s => some ([], .one s) | none => none
      | some (some sz) => match seg l fd.offset sz with | some r => some ([], .agg r) | none => none
      | none => none
    | none => none
  | _, _ => none

def fieldAddrA (P : Program) (t : TypeId) (x : AV) (f : Nat) : POut :=
  match P.underlying t, x with
  | some (.struct fs), .one (.ptr b o) =>
    match fs[f]? with
    | some fd => match sizeA P fd.type with
      | some (_ + 1) => some ([], .one (.ptr b (o + fd.offset)))
      | _ => none
    | none => none
  | _, _ => none

def TV.av : TV → AV
  | .one s => .one s
  | .agg l => .agg l

def extractA (x : AV) (i : Nat) : POut :=
  match x with
  | .tup l => match l[i]? with | some v => some ([], v.av) | none => none
  | _ => none

def capsOf : List AV → Option (List CV)
  | [] => some []
  | .one (.ptr b o) :: rest => match capsOf rest with | some l => some (.p b o :: l) | none => none
  | .one (.raw v) :: rest => match capsOf rest with | some l => some (.r v :: l) | none => none
  | _ :: _ => none

def makeFuncA (fn : Fn) (first caps : List AV) : POut :=
  match fn, first with
  | .func f, [] => match capsOf caps with | some l => some ([], .one (.fn f l)) | none => none
  | _, _ => none

def optInt (d : Nat) : Option AV → Option Nat
  | none => some d
  | some x => match x.int with
    | .l _ n => match decide (0 ≤ n) with | true => some n.toNat | false => none
    | _ => none

/-- Bounds that are literals: low, high, maximum. -/
def boundsA (len cap : Nat) (lo hi mx : Option AV) : Option (Nat × Nat × Nat) :=
  match optInt 0 lo, optInt len hi, optInt cap mx with
  | some l, some h, some m =>
    match decide (l ≤ h) && decide (h ≤ m) && decide (m ≤ cap) && (hi.isSome || mx.isNone) && decide (cap ≤ 9223372036854775807) with
    | true => some (l, h, m)
    | false => none
  | _, _, _ => none

/-- Where a part begins: 'm' cells are left from 'l' on, none where they are one. -/
def offA (m l o sz : Nat) : Nat := match Nat.beq m l with | true => o | false => o + l * sz

/-- A bound that may be symbolic: no condition where there is none. -/
def bndI (d : Int) : Option AV → Option Int
  | none => some d
  | some x => match x.int with
    | .l .i64 n => some n
    | .s .i64 n => some n
    | _ => none
def zeroB : Option AV → Bool
  | some x => match x.int with | .l .i64 0 => true | _ => false
  | none => false
def offQ (o : Nat) (lo : Option AV) (l : Int) : Nat := match lo with | none => o | some _ => o + l.toNat
def lenQ (lo : Option AV) (l h : Int) : Nat := match lo with | none => h.toNat | some _ => h.toNat - l.toNat

/-- A part of a slice whose length nobody knows. -/
def sliceQ (P : Program) (e : TypeId) (b : Nat) (g : Option Nat) (o n : Nat) (lo hi mx : Option AV) : POut :=
  match sizeA P e with
  | some sz => match Nat.beq sz 1, lo, zeroB hi && zeroB mx with
    | true, none, true => some ([], .one .e0)
    | true, _, _ => match mx, bndI 0 lo, bndI (n : Int) hi with
      | none, some l, some h => some ([0 ≤ l, l ≤ h, h ≤ (n : Int)], match g with | some g => .one (.sq b g (offQ o lo l) (lenQ lo l h)) | none => .one (.slq b (offQ o lo l) (lenQ lo l h)))
      | some _, some l, some h => match bndI 0 mx, hi.isSome with
        | some m, true => some ([0 ≤ l, l ≤ h, h ≤ m, m ≤ (n : Int)], .one (.slq b (offQ o lo l) (lenQ lo l h)))
        | _, _ => none
      | _, _, _ => none
    | _, _, _ => none
  | none => none

def sliceR (P : Program) (e : TypeId) (b g o n : Nat) (lo hi mx : Option AV) : POut :=
  match sliceQ P e b none o n lo hi mx with
  | some (ps, .one (.slq _ o' n')) => some (ps, .one (.slr b g o' n'))
  | some (ps, .one .e0) => some (ps, .one .e0)
  | _ => none

def sliceA (P : Program) (t : TypeId) (x : AV) (lo hi mx : Option AV) : POut :=
  match P.underlying t, x with
  | some (.array n e), .one (.ptr b o) =>
    match boundsA n n lo hi mx, sizeA P e with
    | some (l, h, m), some sz => some ([], .one (.slice b (offA m l o sz) (h - l) (m - l)))
    | _, _ => none
  | some (.slice e), .one (.slice b o len cap) =>
    match boundsA len cap lo hi mx, sizeA P e with
    | some (l, h, m), some sz => some ([], .one (.slice b (offA m l o sz) (h - l) (m - l)))
    | _, _ => none
  | some (.slice e), .one (.slx b o len) =>
    match mx with
    | some _ => none
    | none => match boundsA len len lo hi none with
      | none => none
      | some (l, h, _) => match sizeA P e, decide (l < len) with
        | some sz, true => some ([], .one (.slx b (o + l * sz) (h - l)))
        | _, _ => none
  | some (.slice e), .one (.sq b g o n) => sliceQ P e b (some g) o n lo hi mx
  | some (.slice e), .one (.slq b o n) => sliceQ P e b none o n lo hi mx
  | some (.slice e), .one (.slr b g o n) => sliceR P e b g o n lo hi mx
  | _, _ => none

def toArrPtrA (P : Program) (t : TypeId) (x : AV) : POut :=
  match P.underlying t, x with
  | some (.array n _), .one (.slice b o len _) => match decide (n ≤ len) with | true => some ([], .one (.ptr b o)) | false => none
  | some (.array n _), .one (.slx b o len) => match decide (n ≤ len) with | true => some ([], .one (.ptr b o)) | false => none
  | _, _ => none

def nilCheckA (x : AV) : POut :=
  match x with
  | .one (.ptr b o) => some ([], .one (.ptr b o))
  | .one (.ptrS b o) => some ([], .one (.ptrS b o))
  | .one (.ptrR b g o) => some ([], .one (.ptrR b g o))
  | .one (.fn f l) => some ([], .one (.fn f l))
  | _ => none

def pickA (c a b : AV) : POut :=
  match c.bool with
  | .l true => some ([], a)
  | .l false => some ([], b)
  | .s t => match a.int, b.int with
    | .l k x, .l k' y | .l k x, .s k' y | .s k x, .l k' y | .s k x, .s k' y => match kEq k k' with | true => some ([], .one (.si k (iteI t x y))) | false => none
    | _, _ => match a.bool, b.bool with
      | .l x, .l y | .l x, .s y | .s x, .l y | .s x, .s y => some ([], .one (.sb (iteB t x y)))
      | _, _ => none
  | .no => none

def lenA (P : Program) (t : TypeId) (x : AV) : POut :=
  match P.underlying t, x with
  | some (.slice _), .one (.slice _ _ n _) => some ([], .one (.li .i64 n))
  | some (.slice _), .one (.slx _ _ n) => some ([], .one (.li .i64 n))
  | some (.slice _), .one (.raw (.slice none 0 _)) => some ([], .one (.li .i64 0))
  | some (.slice _), .one (.sq _ _ _ n) => some ([], .one (.si .i64 (n : Int)))
  | some (.slice _), .one (.slq _ _ n) => some ([], .one (.si .i64 (n : Int)))
  | some (.slice _), .one (.slr _ _ _ n) => some ([], .one (.si .i64 (n : Int)))
  | some (.slice _), .one .e0 => some ([], .one (.li .i64 0))
  | some (.array n _), _ => match decide (n ≤ 9223372036854775807) with | true => some ([], .one (.li .i64 n)) | false => none
  | _, _ => none

def capA (P : Program) (t : TypeId) (x : AV) : POut :=
  match P.underlying t, x with
  | some (.slice _), .one (.slice _ _ _ n) => some ([], .one (.li .i64 n))
  | some (.array n _), _ => match decide (n ≤ 9223372036854775807) with | true => some ([], .one (.li .i64 n)) | false => none
  | _, _ => none

def mmI (mn : Bool) (a b : Int) : Int := match mn with | true => iteI (decide (b < a)) b a | false => iteI (decide (b > a)) b a

/-- Of two integers the smaller one (the greater one). -/
def minmax (mn : Bool) (x y : AI) : POut :=
  match x, y with
  | .l k a, .l k' b => match kEq k k' with | true => some ([], .one (.li k (mmI mn a b))) | false => none
  | .l k a, .s k' b | .s k a, .l k' b | .s k a, .s k' b => match kEq k k' with | true => some ([], .one (.si k (mmI mn a b))) | false => none
  | _, _ => none

def builtinA (P : Program) (b : Builtin) (ts : List TypeId) (args : List AV) : POut :=
  match b, ts, args with
  | .len, t :: _, x :: _ => lenA P t x
  | .cap, t :: _, x :: _ => capA P t x
  | .min, _, [x, y] => minmax true x.int y.int
  | .max, _, [x, y] => minmax false x.int y.int
  | _, _, _ => none

def AV.cellsA : AV → Option (List SV)
  | .one .any => none
  | .one s => some [s]
  | .agg l => some l
  | .tup _ => none

/-- Parts laid into a row of cells. -/
def fillA (place : Nat → Option (Nat × Nat)) (cells : List SV) : List (Nat × AV) → Option (List SV)
  | [] => some cells
  | (i, v) :: rest =>
    match place i, v.cellsA with
    | some (off, sz), some cs =>
      match Nat.beq cs.length sz && decide (off + sz ≤ cells.length) with
      | true => fillA place (cells.take off ++ cs ++ cells.drop (off + sz)) rest
      | false => none
    | _, _ => none

/-- The cells of a type's zero. -/
def zeroA (P : Program) (t : TypeId) : Option (List SV) :=
  match P.info? t with
  | some i => match i.zero with
    | some z => some (z.cells.toList.map absS)
    | none => none
  | none => none

def fieldPlaceA (P : Program) (fs : Array Field) (i : Nat) : Option (Nat × Nat) := (fs[i]?).bind fun f => (sizeA P f.type).map fun n => (f.offset, n)

def buildA (P : Program) (t : TypeId) (parts : List (Nat × AV)) : POut :=
  match P.underlying t, zeroA P t with
  | some (.struct fs), some z =>
    match fillA (fieldPlaceA P fs) z parts with
    | some l => match (fs.all fun f => (sizeA P f.type).isSome) with | true => some ([], .agg l) | false => none
    | none => none
  | some (.array _ e), some z =>
    match sizeA P e with
    | some sz => match fillA (fun i => some (i * sz, sz)) z parts with
      | some l => some ([], .agg l)
      | none => none
    | none => none
  | _, _ => none

/-- A function that the model stands in for. -/
def externA (C : Cfg) (f : AV) (args : List AV) : POut :=
  match C.ex with
  | [] => none
  | ex => match f with
    | .one (.fn g []) => match assoc ex g with
      | some F => F args
      | none => none
    | _ => none

def pureOp0 (C : Cfg) (o : Oper) (tm : TM) (mem : Mem) : POut :=
  match o.op with
  | .move x => some ([], ev C tm x)
  | .assign x => some ([], ev C tm x)
  | .pick c a b => pickA (ev C tm c) (ev C tm a) (ev C tm b)
  | .load t x => loadA C.P mem t (ev C tm x)
  | .nilCheck x => nilCheckA (ev C tm x)
  | .binOp op t x y _ => binA C.P op t (ev C tm x) (ev C tm y)
  | .unOp op _ x => unA op (ev C tm x)
  | .convert s d x => convA C.P s d (ev C tm x)
  | .sliceToArrayPointer t x => toArrPtrA C.P t (ev C tm x)
  | .slice t x lo hi mx => sliceA C.P t (ev C tm x) (lo.map (ev C tm)) (hi.map (ev C tm)) (mx.map (ev C tm))
  | .fieldAddr t x f => fieldAddrA C.P t (ev C tm x) f
  | .field t x f => fieldA C.P t (ev C tm x) f
  | .indexAddr t x ix => indexAddrA C.P t (ev C tm x) (ev C tm ix)
  | .index t x ix => indexA C.P t (ev C tm x) (ev C tm ix)
  | .extract t i => extractA (ev C tm t) i
  | .makeFunc fn first caps => makeFuncA fn (first.toList.map (ev C tm)) (caps.toList.map (ev C tm))
  | .build t parts => buildA C.P t (parts.toList.map fun p => (p.1, ev C tm p.2))
  | .call { callee := .builtin b, args, argTypes } => builtinA C.P b argTypes.toList (args.toList.map (ev C tm))
  | .call { callee := .value f, args, .. } => externA C (ev C tm f) (args.toList.map (ev C tm))
  | _ => none

/-! ## Operations that make or write memory -/

abbrev MOut := Option (List Prop × AV × Mem)

def CV.av : CV → AV
  | .p b o => .one (.ptr b o)
  | .r v => absV v

def splice (l : List SV) (o : Nat) (vs : List SV) : List SV := l.take o ++ vs ++ l.drop (o + vs.length)

def storeA (P : Program) (mem : Mem) (t : TypeId) (x v : AV) : MOut :=
  match x, v.cellsA, sizeA P t with
  | .one (.ptr b o), some cs, some n =>
    match Nat.beq cs.length n && cs.all SV.cell with
    | false => none
    | true => match mem.get b with
      | some (.cells ty l) => match decide (o + n ≤ l.length) with
        | true => some ([], .tup [], mem.set b (.cells ty (splice l o cs)))
        | false => none
      | some (.row ty l) => match decide (o + n ≤ l.length) with
        | true => some ([], .tup [], mem.set b (.row ty (splice l o cs)))
        | false => none
      | _ => none
  | _, _, _ => none

def allocA (mem : Mem) (t : TypeId) (cs : List SV) : MOut := some ([], .one (.ptr mem.n 0), mem.push (.cells t cs))

def copyA (P : Program) (mem : Mem) (ts : List TypeId) (args : List AV) : MOut :=
  match ts, args with
  | dt :: _, [.one (.slice b o dl _), .one (.slice b' o' sl _)] =>
    match P.underlying dt with
    | some (.slice e) => match sizeA P e, mem.get b, (mem.get b').bind AB.get? with
      | some 1, some (.cells ty l), some src => match seg src o' (min sl dl) with
        | some cs => match decide (o + cs.length ≤ l.length) with
          | true => some ([], .one (.li .i64 cs.length), mem.set b (.cells ty (splice l o cs)))
          | false => none
        | none => none
      | _, _, _ => none
    | _ => none
  | _, _ => none

/-- A row of its own, of so many cells, and parts laid into it: a slice of them all. -/
def buildSliceA (P : Program) (mem : Mem) (t : TypeId) (len : Nat) (parts : List (Nat × AV)) : MOut :=
  match P.underlying t with
  | some (.slice e) => match sizeA P e, zeroA P e with
    | some sz, some [z] => match Nat.beq sz 1 && decide (len ≤ 16777216), fillA (fun i => some (i * 1, 1)) (List.replicate len z) parts with
      | true, some l => some ([], .one (.slice mem.n 0 len len), mem.push (.cells e l))
      | _, _ => none
    | _, _ => none
  | _ => none

def memOp0 (C : Cfg) (o : Oper) (tm : TM) (mem : Mem) : MOut :=
  match o.op with
  | .alloc t => match zeroA C.P t with | some z => allocA mem t z | none => none
  | .box t x => match (ev C tm x).cellsA with | some cs => allocA mem t cs | none => none
  | .store t a v => storeA C.P mem t (ev C tm a) (ev C tm v)
  | .buildSlice t n parts => buildSliceA C.P mem t n (parts.toList.map fun p => (p.1, ev C tm p.2))
  | .call { callee := .builtin .copy, args, argTypes } => copyA C.P mem argTypes.toList (args.toList.map (ev C tm))
  | _ => none

/-! ## Rows of numbers whose length nobody knows -/

def Mem.pushS (m : Mem) (t : TypeId) (k : IntKind) (L : List Int) : Mem := ⟨m.n + 2, m.t.set m.n (.seq t k L (m.n + 1))⟩

def AV.num (x : AV) : Option (IntKind × Int) := match x.int with
  | .l k n => some (k, n)
  | .s k n => some (k, n)
  | .no => none

/-- One number stored into a row. -/
def storeQ (P : Program) (mem : Mem) (t : TypeId) (x v : AV) : MOut :=
  match sizeA P t, v.num with
  | some sz, some (k, n) => match Nat.beq sz 1 with
    | true => match x with
      | .one (.ptrS b e) => match mem.get b with
        | some (.seq t' k' L g) => match kEq k k' with | true => some ([0 ≤ e, e < (L.length : Int)], .tup [], mem.set b (.seq t' k' (L.set e.toNat n) g)) | false => none
        | _ => none
      | .one (.ptr b o) => match mem.get b with
        | some (.seq t' k' L g) => match kEq k k' with | true => some ([0 ≤ (o : Int), (o : Int) < (L.length : Int)], .tup [], mem.set b (.seq t' k' (L.set (o : Int).toNat n) g)) | false => none
        | _ => none
      | _ => none
    | false => none
  | _, _ => none

def partQ (L : List Int) (o n : Nat) : List Int := match o with | 0 => L.take n | o => (L.drop o).take n

/-- What a slice of numbers holds; where there is none of it, the kind is 'k0'. -/
def srcQ (mem : Mem) (k0 : IntKind) (x : AV) : Option (List Prop × IntKind × List Int) :=
  match x with
  | .one (.sq b _ o n) => match (mem.get b).bind AB.ints? with
    | some (k, L) => some ([o + n ≤ L.length], k, partQ L o n)
    | none => none
  | .one (.slq b o n) => match (mem.get b).bind AB.ints? with
    | some (k, L) => some ([o + n ≤ L.length], k, partQ L o n)
    | none => none
  | .one (.slr b g o n) => match mem.get b with
    | some (.rseq k L g') => match Nat.beq g g' with | true => some ([o + n ≤ L.length], k, partQ L o n) | false => none
    | _ => none
  | .one (.slice b o n _) => match (mem.get b).bind AB.get? with
    | some l => match intsOf k0 l with
      | some es => match decide (o + n ≤ es.length) with | true => some ([], k0, (es.drop o).take n) | false => none
      | none => none
    | none => none
  | .one (.raw (.slice none 0 0)) => some ([], k0, [])
  | .one .e0 => some ([], k0, [])
  | _ => none

/-! ## Texts, and what is nil -/

def strLit : AV → Option ByteArray
  | .one (.raw (.string s)) => some s
  | _ => none
def bytesOfA (s : ByteArray) : List Int := s.data.toList.map fun b => (b.toNat : Int)
def strOfA : AV → Option (List Int)
  | .one (.st L) => some L
  | .one (.raw (.string s)) => some (bytesOfA s)
  | _ => none
def eqInts : List Int → List Int → Bool
  | [], [] => true
  | a :: as, b :: bs => decide (a = b) && eqInts as bs
  | _, _ => false
def isNilA : AV → Bool
  | .one (.raw (.slice none 0 0)) => true
  | _ => false
/-- Is a slice nil? Where that is known. -/
def nilOfA : AV → Option Bool
  | .one (.raw (.slice none 0 0)) => some true
  | .one (.slice ..) => some false
  | .one (.slx ..) => some false
  | .one (.sq ..) => some false
  | _ => none
def eqB (op : BinOp) (r : Bool) : Option Bool := match op with
  | .eql => some r
  | .neq => some (!r)
  | _ => none
/-- The number that a variable of a type begins with. -/
def zeroI (P : Program) (t : TypeId) : Option (IntKind × Int) :=
  match P.info? t with
  | some i => match i.zero with
    | some (.int k z) => some (k, z)
    | _ => none
  | none => none
/-- What a map has of a key. -/
def lookM : List (Int × Int) → Int → Int
  | [], _ => 0
  | p :: es, n => iteI (decide (n = p.1)) p.2 (lookM es n)
def strOp (C : Cfg) (o : Oper) (tm : TM) (mem : Mem) : POut :=
  match o.op with
  | .convert s d x => match C.P.underlying s, C.P.underlying d with
    | some (.slice e), some .string => match C.P.underlying e, srcQ mem .u8 (ev C tm x) with
      | some (.int .u8), some (ps, .u8, M) => some (ps, .one (.st M))
      | _, _ => none
    | _, _ => none
  | .binOp op t x y _ => match strLit (ev C tm x), strLit (ev C tm y) with
    | some a, some b => match eqB op (eqInts (bytesOfA a) (bytesOfA b)) with | some r => some ([], .one (.lb r)) | none => none
    | _, _ => match strOfA (ev C tm x), strOfA (ev C tm y) with
      | some L, some M => match eqB op (decide (L = M)) with | some r => some ([], .one (.sb r)) | none => none
      | _, _ => match C.P.underlying t, nilOfA (ev C tm x), isNilA (ev C tm y) with
        | some (.slice _), some b, true => match eqB op b with | some r => some ([], .one (.lb r)) | none => none
        | _, _, _ => none
  | .call { callee := .builtin .len, args, argTypes } => match args.toList, argTypes.toList with
    | [x], [t] => match strLit (ev C tm x), C.P.underlying t with
      | some s, some .string => match decide (s.size ≤ 9223372036854775807) with | true => some ([], .one (.li .i64 s.size)) | false => none
      | _, _ => none
    | _, _ => none
  | .lookup t x key false => match C.P.underlying t, ev C tm x, (ev C tm key).num with
    | some (.map kt vt), .one (.mp b), some (k, n) => match C.P.underlying kt, zeroI C.P vt, mem.get b with
      | some (.int k1), some (kv1, z), some (.mp k' kv es) => match kEq k k' && kEq k1 k' && kEq kv1 kv && decide (z = 0) with
        | true => some ([], .one (.si kv (lookM es n)))
        | false => none
      | _, _, _ => none
    | _, _, _ => none
  | .index t x ix => match strLit (ev C tm x), C.P.underlying t, (ev C tm ix).int with
    | some s, some .string, .l _ i => match decide (0 ≤ i), s.data.toList[i.toNat]? with
      | true, some b => some ([], .one (.li .u8 b.toNat))
      | _, _ => none
    | _, _, _ => none
  | _ => none
def litOf : AV → AV
  | .one (.si k n) => .one (.li k n)
  | v => v
def isLen (o : Oper) : Bool := match o.op with
  | .call { callee := .builtin .len, .. } => true
  | _ => false
def pureOp (C : Cfg) (o : Oper) (tm : TM) (mem : Mem) : POut :=
  match pureOp0 C o tm mem with
  | some (ps, v) => some (ps, match C.lit && isLen o with | true => litOf v | false => v)
  | none => strOp C o tm mem

def lenSym : AV → Option Nat
  | .one (.sq _ _ _ n) => some n
  | .one (.slq _ _ n) => some n
  | .one (.slr _ _ _ n) => some n
  | _ => none
def noRoom : AV → Bool
  | .one (.raw (.slice none 0 0)) => true
  | .one .e0 => true
  | .one (.slice _ _ 0 0) => true
  | _ => false
/-- A slice that may be nil or not; something appended to no room: where a truth holds, one of some values; where it does not, one, or as ever. -/
def forkO (C : Cfg) (o : Oper) (tm : TM) : Option (Bool × List AV × Option AV) :=
  match o.op with
  | .binOp op t x y _ => match C.P.underlying t, isNilA (ev C tm y), ev C tm x, eqB op false with
    | some (.slice _), true, .one (.slq _ _ n), some r => some (decide (n = 0), [.one (.lb true), .one (.lb false)], some (.one (.lb r)))
    | some (.slice _), true, .one (.slr _ _ _ n), some r => some (decide (n = 0), [.one (.lb true), .one (.lb false)], some (.one (.lb r)))
    | some (.slice _), true, .one .e0, some _ => some (true, [.one (.lb true), .one (.lb false)], none)
    | _, _, _, _ => none
  | .call { callee := .builtin .append, args, argTypes } => match args.toList, argTypes.toList with
    | [x, y], [t, t'] => match noRoom (ev C tm x), lenSym (ev C tm y), C.P.underlying t, Nat.beq t t' with
      | true, some n, some (.slice e), true => match sizeA C.P e with
        | some 1 => some (decide (n = 0), [ev C tm x], none)
        | _ => none
      | _, _, _, _ => none
    | _, _ => none
  | _ => none
def bothAll : List Out → Out
  | [] => .bad 50
  | [o] => o
  | o :: os => .both o (bothAll os)

/-- The kind of a slice's numbers, its elements' type and their bytes. -/
def elemQ (P : Program) (t : TypeId) : Option (TypeId × IntKind × Nat) :=
  match P.underlying t with
  | some (.slice e) => match P.underlying e, sizeA P e, zeroA P e, P.info? e with
    | some (.int k), some sz, some [.li k' z], some i => match Nat.beq sz 1 && kEq k k' && decide (z = 0) with
      | true => some (e, k, i.bytes)
      | false => none
    | _, _, _, _ => none
  | _ => none

/-- What is appended to: its own row, and the block it leaves. -/
def dstQ (mem : Mem) (e : TypeId) (k : IntKind) (x : AV) : Option (List Prop × List Int × Option Nat) :=
  match x with
  | .one (.raw (.slice none 0 0)) => some ([], [], none)
  | .one .e0 => some ([], [], none)
  | .one (.sq b g o n) => match mem.get b with
    | some (.seq t k' L g') => match Nat.beq o 0 && kEq k k' && Nat.beq t e && Nat.beq g g' with | true => some ([n = L.length], L, some b) | false => none
    | _ => none
  | .one (.slice b o n c) => match mem.get b with
    | some (.cells t l) => match intsOf k l with
      | some es => match Nat.beq o 0 && Nat.beq t e && Nat.beq n es.length && Nat.beq c es.length with | true => some ([], es, some b) | false => none
      | none => none
    | _ => none
  | _ => none

def Mem.leave (m : Mem) : Option Nat → Mem
  | some b => m.set b .gone
  | none => m

def appendQ (P : Program) (mem : Mem) (ts : List TypeId) (args : List AV) : MOut :=
  match ts, args with
  | [dt, st], [x, y] => match Nat.beq dt st, elemQ P dt with
    | true, some (e, k, by8) => match dstQ mem e k x, srcQ mem k y with
      | some (ps, L, left), some (qs, k', M) => match kEq k k' with
        | true => some (ps ++ qs ++ [match left with | some _ => True | none => 0 < M.length, (L ++ M).length ≤ 140737488355328 ∧ (L ++ M).length * by8 ≤ 140737488355328], .one (.sq mem.n (mem.n + 1) 0 (L ++ M).length), (mem.leave left).pushS e k (L ++ M))
        | false => none
      | _, _ => none
    | _, _ => none
  | _, _ => none

def makeQ (P : Program) (mem : Mem) (t : TypeId) (n c : AV) : MOut :=
  match elemQ P t, n.num, c.num with
  | some (e, k, by8), some (.i64, l), some (.i64, cc) => some ([0 ≤ l, l ≤ cc, by8 * cc ≤ 140737488355328, cc ≤ 9223372036854775807], .one (.sq mem.n (mem.n + 1) 0 l.toNat), mem.pushS e k (List.replicate l.toNat 0))
  | _, _, _ => none

def copyQ (P : Program) (mem : Mem) (ts : List TypeId) (args : List AV) : MOut :=
  match ts, args with
  | dt :: _, [.one (.sq b _ o n), y] => match elemQ P dt, mem.get b with
    | some (_, k, _), some (.seq t k' L g') => match srcQ mem k y with
      | some (qs, k'', M) => match kEq k k' && kEq k k'' with
        | true => some (qs ++ [o + n ≤ L.length, M.length ≤ 9223372036854775807], .one (.si .i64 (min M.length n : Nat)), mem.set b (.seq t k' (L.take o ++ M.take n ++ L.drop (o + min M.length n)) g'))
        | false => none
      | none => none
    | _, _ => none
  | _, _ => none

def seqOp (C : Cfg) (o : Oper) (tm : TM) (mem : Mem) : MOut :=
  match o.op with
  | .store t a v => storeQ C.P mem t (ev C tm a) (ev C tm v)
  | .makeSlice t n c => makeQ C.P mem t (ev C tm n) (ev C tm c)
  | .call { callee := .builtin .append, args, argTypes } => appendQ C.P mem argTypes.toList (args.toList.map (ev C tm))
  | .call { callee := .builtin .copy, args, argTypes } => copyQ C.P mem argTypes.toList (args.toList.map (ev C tm))
  | _ => none

/-- Maps of numbers. -/
def mapOp (C : Cfg) (o : Oper) (tm : TM) (mem : Mem) : MOut :=
  match o.op with
  | .makeMap t none => match C.P.underlying t with
    | some (.map kt vt) => match C.P.underlying kt, C.P.underlying vt with
      | some (.int k), some (.int kv) => some ([], .one (.mp mem.n), mem.push (.mp k kv []))
      | _, _ => none
    | _ => none
  | .convert s d x => match C.P.underlying s, Nat.beq s d, ev C tm x with
    | some (.slice e), true, .one (.slice b o n c) => match C.P.underlying e, mem.get b with
      | some (.int .u8), some (.cells t l) => some ([], .one (.slice b o n c), mem.set b (.fz t l))
      | _, _ => none
    | _, _, _ => none
  | .mapUpdate t x key v => match C.P.underlying t, ev C tm x, (ev C tm key).num, (ev C tm v).num with
    | some (.map kt _), .one (.mp b), some (k, n), some (kv, e) => match C.P.underlying kt, mem.get b with
      | some (.int k1), some (.mp k' kv' es) => match kEq k k' && kEq k1 k' && kEq kv kv' && es.all fun p => !(decide (n = p.1)) with
        | true => some ([], .tup [], mem.set b (.mp k' kv' (es ++ [(n, e)])))
        | false => none
      | _, _ => none
    | _, _, _, _ => none
  | _ => none

def memOp (C : Cfg) (o : Oper) (tm : TM) (mem : Mem) : MOut :=
  match memOp0 C o tm mem with
  | some r => some r
  | none => match seqOp C o tm mem with
    | some r => some r
    | none => mapOp C o tm mem

/-! ## Code -/

def AE.conc : AE → Exit
  | .normal => .normal
  | .exit id => .exit id
  | .goto l => .goto l
  | .ret => .ret
  | .panic v => .panic [{ v, recovered := false }]

def Out.sat (K : AV → Mem → Prop) : Out → Prop
  | .bad _ => False
  | .need p o => p ∧ o.sat K
  | .br c t f => (c = true → t.sat K) ∧ (c = false → f.sat K)
  | .both a b => a.sat K ∧ b.sat K
  | .done v m => K v m

def needs : List Prop → Out → Out
  | [], o => o
  | p :: ps, o => .need p (needs ps o)

def putA (tm : TM) (d : Option Tmp) (v : AV) : TM :=
  match d with
  | some t => tm.set t v
  | none => tm

/-- Is the operation wanted? Where its guard is symbolic, both ways: the guard is a literal from there on. -/
def guarded (all : List Oper) (o : Oper) (tm : TM) (yes no : TM → Out) : Out :=
  match o.guard with
  | none => yes tm
  | some (j, want) =>
    match (all[j]?).bind (·.dst) with
    | some t => match (tm.get t).bool with
      | .l x => match x == want with | true => yes tm | false => no tm
      | .s x => match want with
        | true => .br x (yes (tm.set t (.one (.lb true)))) (no (tm.set t (.one (.lb false))))
        | false => .br x (no (tm.set t (.one (.lb true)))) (yes (tm.set t (.one (.lb false))))
      | .no => match tm.get t with | .tup _ => no tm | _ => .bad 1
    | none => .bad 1

/-- A choice by a symbolic truth value: both ways. -/
def pickB (C : Cfg) (o : Oper) (tm : TM) : Option (Bool × AV × AV) :=
  match o.op with
  | .pick c a b => match (ev C tm c).bool with
    | .s t => some (t, ev C tm a, ev C tm b)
    | _ => none
  | _ => none

def brL (lit c : Bool) (x y : Out) : Out := match lit with
  | true => match c with | true => x | false => y
  | false => .br c x y
def forked (lit : Bool) (f : Option (Bool × List AV × Option AV)) (go : AV → Out) (plain : Out) : Out := match f with
  | some (t, l, some v) => brL lit t (bothAll (l.map go)) (go v)
  | some (t, l, none) => brL lit t (bothAll (l.map go)) plain
  | none => plain

/-- Who is called: a function, or a loop's round. -/
inductive Tgt where
  | fn (g : Nat)
  | yl (l : Nat)
abbrev CallK := Tgt → List AV → Mem → (AV → Mem → Out) → (Value → Mem → Out) → Out

def isNo : AI → Bool
  | .no => true
  | _ => false
def isEqOp : BinOp → Bool
  | .eql => true
  | .neq => true
  | _ => false
/-- Is it known that an operation says neither 'disable' nor 'enable' (and, of the second level, asks for no shape)? -/
def opFine (C : Cfg) (tm : TM) (o : Oper) : Bool :=
  match C.lvl with
  | 0 => true
  | l + 1 => match o.op with
    | .move _ => true
    | .assign _ => true
    | .pick _ _ _ => true
    | .alloc _ => true
    | .box _ _ => true
    | .build _ _ => true
    | .buildSlice _ _ _ => true
    | .load _ _ => true
    | .store _ _ _ => true
    | .unOp _ _ _ => true
    | .sliceToArrayPointer _ _ => true
    | .makeFunc _ _ _ => true
    | .makeSlice _ _ _ => true
    | .slice _ _ _ _ _ => true
    | .field _ _ _ => true
    | .indexAddr _ _ _ => true
    | .index _ _ _ => true
    | .extract _ _ => true
    | .makeInterface _ _ => true
    | .makeMap _ _ => true
    | .nilCheck x => match ev C tm x with
      | .one (.ptr _ _) => true
      | .one (.ptrS _ _) => true
      | .one (.ptrR _ _ _) => true
      | .one (.fn _ _) => true
      | _ => false
    | .binOp op _ x y _ => match isNo (ev C tm x).int, isNo (ev C tm y).int with
      | false, false => true
      | _, _ => match l with | 0 => isEqOp op | _ => false
    | .convert s d x => match (ev C tm x).int, C.P.underlying d with
      | .no, _ => match l, C.P.underlying s, C.P.underlying d with
        | 0, some (.slice _), some .string => true
        | 0, some (.slice _), some (.slice _) => match ev C tm x with | .one (.slice _ _ _ _) => true | _ => false
        | _, _, _ => false
      | _, some (.int _) => true
      | _, _ => false
    | .fieldAddr t _ f => match l with
      | 0 => true
      | _ => match C.P.underlying t with
        | some (.struct fs) => match (fs[f]?).bind fun fd => sizeA C.P fd.type with
          | some (_ + 1) => true
          | _ => false
        | _ => false
    | .lookup _ _ _ _ => match l with | 0 => true | _ => false
    | .mapUpdate _ _ _ _ => match l with | 0 => true | _ => false
    | .panic x => match ev C tm x with
      | .one (.raw (.iface _ _)) => true
      | _ => false
    | .defer c => match c.callee with
      | .value f => match ev C tm f with
        | .one (.fn _ _) => true
        | _ => false
      | _ => false
    | .call c => match c.callee with
      | .builtin .append => true
      | .builtin .copy => true
      | .builtin .len => true
      | .builtin .cap => true
      | .builtin .min => true
      | .builtin .max => true
      | .value f => match ev C tm f with
        | .one (.fn _ _) => true
        | .one (.yl _) => true
        | _ => false
      | _ => false
    | _ => false

/-- An operation, neither a choice nor a fork. -/
def plainOp (C : Cfg) (call : CallK) (o : Oper) (tm : TM) (mem : Mem) (k : AE → TM → Mem → Out) (next : TM → AV → Mem → Out) : Out :=
  match pureOp C o tm mem with
  | some (ps, v) => needs ps (next tm v mem)
  | none => match memOp C o tm mem with
    | some (ps, v, mem') => needs ps (next tm v mem')
    | none => match o.op with
      | .call { callee := .value f, args, .. } => match ev C tm f with
        | .one (.fn g caps) => call (.fn g) (args.toList.map (ev C tm) ++ caps.map CV.av) mem (fun v mem' => next tm v mem') (fun v mem' => k (.panic v) tm mem')
        | .one (.yl l) => call (.yl l) (args.toList.map (ev C tm)) mem (fun v mem' => next tm v mem') (fun v mem' => k (.panic v) tm mem')
        | _ => .bad 2
      | .panic x => match ev C tm x with
        | .one (.raw (.iface t v)) => k (.panic (.iface t v)) tm mem
        | _ => .bad 61
      | .defer { callee := .value f, args, .. } => match ev C tm f with
        | .one (.fn g caps) => next ⟨tm.sz, tm.t, .call g (args.toList.map (ev C tm) ++ caps.map CV.av) :: tm.df⟩ (.tup []) mem
        | _ => .bad 62
      | _ => .bad 3

def runOps (C : Cfg) (call : CallK) (all : List Oper) : List Oper → TM → Mem → (AE → TM → Mem → Out) → Out
  | [], tm, mem, k => k .normal tm mem
  | o :: rest, tm, mem, k =>
    guarded all o tm
      (fun tm => match opFine C tm o with
      | false => .bad 60
      | true => match pickB C o tm with
        | some (t, a, b) => .br t (runOps C call all rest (putA tm o.dst a) mem k) (runOps C call all rest (putA tm o.dst b) mem k)
        | none => forked C.lit (forkO C o tm) (fun v => runOps C call all rest (putA tm o.dst v) mem k) (plainOp C call o tm mem k fun tm v mem' => runOps C call all rest (putA tm o.dst v) mem' k))
      (fun tm => runOps C call all rest (putA tm o.dst (.tup [])) mem k)

/-- A value that speaks of the first n blocks alone. -/
def CV.lt (n : Nat) : CV → Bool
  | .p b _ => Nat.blt b n
  | .r _ => true

def SV.lt (n : Nat) : SV → Bool
  | .ptr b _ => Nat.blt b n
  | .ptrS b _ => Nat.blt b n
  | .ptrR b g _ => Nat.blt b n && Nat.blt g n
  | .slice b _ _ _ => Nat.blt b n
  | .slx b _ _ => Nat.blt b n
  | .fn _ caps => caps.all (CV.lt n)
  | .sq b g _ _ => Nat.blt b n && Nat.blt g n
  | .slq b _ _ => Nat.blt b n
  | .slr b g _ _ => Nat.blt b n && Nat.blt g n
  | .mp b => Nat.blt b n
  | .yl b => Nat.blt b n
  | _ => true

def TV.lt (n : Nat) : TV → Bool
  | .one s => s.lt n
  | .agg l => l.all (SV.lt n)

def AV.lt (n : Nat) : AV → Bool
  | .one s => s.lt n
  | .agg l => l.all (SV.lt n)
  | .tup l => l.all (TV.lt n)

/-- Some slots alone. -/
def TM.only (tm : TM) : List Nat → Tr AV
  | [] => Tr.mk 10
  | t :: l => match tm.t.get t with
    | some v => (tm.only l).set t v
    | none => tm.only l

def makeOp (C : Cfg) (o : Oper) (tm : TM) : Option (TypeId × List SV) :=
  match o.op with
  | .alloc t => match zeroA C.P t with | some z => some (t, z) | none => none
  | .box t x => match (ev C tm x).cellsA with | some cs => some (t, cs) | none => none
  | _ => none

def inSz (tm : TM) : Option Tmp → Bool
  | some t => Nat.blt t tm.sz
  | none => true

/-- A summary that tells what the result is, slices of its own among it. -/
def sumF (C : Cfg) (g : Nat) : Option (List AV → Mem → Option (List Prop × RT)) := match C.fs with | [] => none | fs => assoc fs g

/-- Operations whose order may be open: they look at memory as it was ahead of the region, or make memory. -/
def openRun (C : Cfg) (ops : Array Oper) (n0 : Nat) (m0 : Mem) : List Oper → Nat → TM → Mem → (TM → Mem → Out) → Out
  | [], _, tm, mem, k => k tm mem
  | o :: rest, i, tm, mem, k =>
    match inSz tm o.dst with
    | false => .bad 22
    | true =>
      guarded ops.toList o tm
        (fun tm =>
          let tv : TM := ⟨tm.sz, tm.only (o.looksAt ops), tm.df⟩
          match opFine C tv o with
          | false => .bad 60
          | true => match pickB C o tv with
          | some (t, a, b) => .br t (openRun C ops n0 m0 rest (i + 1) (putA tm o.dst a) mem k) (openRun C ops n0 m0 rest (i + 1) (putA tm o.dst b) mem k)
          | none => match pureOp C o tv m0 with
            | some (ps, v) => needs ps (openRun C ops n0 m0 rest (i + 1) (putA tm o.dst v) mem k)
            | none => match makeOp C o tv with
              | some (t, cs) => match cs.all (SV.lt n0) && Nat.ble (n0 + 4 * i + 4) m0.n with
                | true => openRun C ops n0 m0 rest (i + 1) (putA tm o.dst (.one (.ptr (n0 + 4 * i) 0))) (mem.set (n0 + 4 * i) (.cells t cs)) k
                | false => .bad 21
              | none => match o.op with
                | .call { callee := .value f, args, .. } => match ev C tv f with
                  | .one (.fn g caps) => match sumF C g with
                    | some F => match F (args.toList.map (ev C tv) ++ caps.map CV.av) m0 with
                      | some (ps, q) => needs ps (q.bind fun r => match Nat.ble (widRC r.cells) 4 && Nat.ble (n0 + 4 * i + 4) m0.n with
                        | true => openRun C ops n0 m0 rest (i + 1) (putA tm o.dst (r.val (n0 + 4 * i))) ⟨mem.n, putRC (n0 + 4 * i) mem.t r.cells⟩ k
                        | false => .bad 23)
                      | none => .bad 24
                    | none => match assoc C.ps g with
                      | some F => match F (args.toList.map (ev C tv) ++ caps.map CV.av) m0 with
                        | some (ps, v) => match v.lt n0 with | true => needs ps (openRun C ops n0 m0 rest (i + 1) (putA tm o.dst v) mem k) | false => .bad 5
                        | none => .bad 6
                      | none => .bad 7
                  | _ => .bad 8
                | _ => .bad 9)
        (fun tm => openRun C ops n0 m0 rest (i + 1) (putA tm o.dst (.tup [])) mem k)

/-- How many numbers the blocks of a region take: none where it makes none. -/
def makes (C : Cfg) (o : Oper) : Bool := match o.op with
  | .alloc _ => true
  | .box _ _ => true
  | .call { callee := .value (.func g), .. } => (sumF C g).isSome
  | _ => false
def widthOf (C : Cfg) (ops : Array Oper) (h : Nat) : Nat := match ops.toList.any (makes C) with | true => 4 * h | false => 0

/-- May the first n stand in any order that the edges allow, and do the others follow one by one? -/
def openB (ops : Array Oper) (n : Nat) : Bool := match Nat.beq n ops.size with | true => Region.lexB .any ops | false => Region.lexTailB .any ops n

/-- Where the forced tail begins. -/
def tailAt (ops : Array Oper) : Nat → Nat
  | 0 => 0
  | t + 1 => match Region.waitsFor .any ops (t + 1) t with | true => tailAt ops t | false => t + 1

/-- Of a region whose order is open: how many of its operations stand ahead of the forced tail. -/
def headOf (ops : Array Oper) : Nat → Nat → Option Nat
  | 0, _ => none
  | f + 1, h => match openB ops h with | true => some h | false => headOf ops f (h + 1)

/-- A move that may stand first, whatever else the region does. -/
def floatB (ops : Array Oper) (i : Nat) : Bool := match ops[i]? with
  | some o => match o.op, o.guard with
    | .move _, none => o.after.all (fun e => !Region.binds .any e) && Region.free .any ops (Array.replicate ops.size false) i
    | _, _ => false
  | none => false
def floats (ops : Array Oper) : Nat → List Nat
  | 0 => []
  | n + 1 => match floatB ops n with | true => n :: floats ops n | false => floats ops n
def edgesTo (F : List Nat) : Array Edge := (F.map fun f => ({ on := f, ground := .data } : Edge)).toArray
def waitF (F : List Nat) (i : Nat) (o : Oper) : Oper := match F.any (Nat.beq i) with | true => o | false => { o with after := o.after ++ edgesTo F }
def afterF (F : List Nat) : Nat → List Oper → List Oper
  | _, [] => []
  | i, o :: l => waitF F i o :: afterF F (i + 1) l
/-- The same region, in which all others wait for such moves. -/
def floated (ops : Array Oper) : Array Oper := (afterF (floats ops ops.size) 0 ops.toList).toArray
def growsB (o : Oper) : Bool := match o.op with
  | .call { callee := .builtin .append, .. } => true
  | .call { callee := .builtin .copy, .. } => true
  | _ => false
/-- A region whose order is open: how it is carried out; whether moves stand first. -/
def headAt (ops : Array Oper) : Option (Array Oper × Nat × Bool) := match headOf ops (ops.size + 1) (tailAt ops (ops.size - 1)) with
  | some h => match (ops.toList.take h).any growsB && Region.noSelect ops with
    | true => match headOf (floated ops) (ops.size + 1) (tailAt (floated ops) (ops.size - 1)) with
      | some h' => some (floated ops, h', true)
      | none => none
    | false => some (ops, h, false)
  | none => none

/-! Regions in parts: each behind the one ahead of it. -/

def waitStep (ops : Array Oper) (i j : Nat) (W : List Nat) : List Nat :=
  match (match ops[j]? with | some o => o.after.any fun e => Region.binds .any e && (Nat.beq e.on i || W.any (Nat.beq e.on)) | none => false) with
  | true => j :: W
  | false => W
/-- Those below a bound that wait for one, through others too. -/
def waitSet (ops : Array Oper) (i : Nat) : Nat → List Nat
  | 0 => []
  | j + 1 => waitStep ops i j (waitSet ops i j)
def backB (ops : Array Oper) : Bool := (List.range ops.size).all fun k => match ops[k]? with | some o => o.after.all fun e => !Region.binds .any e || Nat.blt e.on k | none => true
/-- All from k on wait to n; all behind n wait for n. -/
def pivotB (ops : Array Oper) (k n : Nat) : Bool := ((List.range ops.size).all fun j => Nat.ble j n || (waitSet ops n ops.size).any (Nat.beq j)) && (List.range n).all fun i => Nat.blt i k || (waitSet ops i (n + 1)).any (Nat.beq n)
def segEnd (ops : Array Oper) (k : Nat) : Nat → Nat → Nat
  | 0, _ => ops.size
  | f + 1, n => match Nat.ble ops.size n with
    | true => ops.size
    | false => match pivotB ops k n with | true => n | false => segEnd ops k f (n + 1)
def segB (ops : Array Oper) : Nat → Nat → Array Bool → Bool
  | 0, _, _ => true
  | f + 1, k, listed => (Region.ready .any ops listed).contains k && Region.free .any ops listed k && segB ops f (k + 1) (listed.setIfInBounds k true)
def firstsA (ops : Array Oper) (n : Nat) : Array Bool := ((List.range ops.size).map fun j => Nat.blt j n).toArray
def segPlan (ops : Array Oper) : Nat → Nat → Option (List (Option Nat))
  | 0, _ => none
  | f + 1, k => match Nat.ble ops.size k with
    | true => some []
    | false => match decide (Region.ready .any ops (firstsA ops k) = [k]) with
      | true => (segPlan ops f (k + 1)).map (none :: ·)
      | false => match Nat.blt k (segEnd ops k ops.size (k + 1)) && Nat.ble (segEnd ops k ops.size (k + 1)) ops.size && (Nat.beq (segEnd ops k ops.size (k + 1)) ops.size || pivotB ops k (segEnd ops k ops.size (k + 1))) && segB ops (segEnd ops k ops.size (k + 1) - k) k (firstsA ops k) with
        | true => (segPlan ops f (segEnd ops k ops.size (k + 1))).map (some (segEnd ops k ops.size (k + 1)) :: ·)
        | false => none
def segRun (C : Cfg) (call : CallK) (ops : Array Oper) : List (Option Nat) → Nat → TM → Mem → (AE → TM → Mem → Out) → Out
  | [], _, tm, mem, k => k .normal tm mem
  | none :: l, i, tm, mem, k => runOps C call ops.toList ((ops.toList.drop i).take 1) tm mem fun e tm mem => match e with
    | .normal => segRun C call ops l (i + 1) tm mem k
    | e => k e tm mem
  | some n :: l, i, tm, mem, k => openRun C ops mem.n ⟨mem.n + widthOf C ops n, mem.t⟩ ((ops.toList.drop i).take (n - i)) i tm ⟨mem.n + widthOf C ops n, mem.t⟩ fun tm mem => segRun C call ops l n tm mem k
/-- A region in parts: how. -/
def partsAt (ops : Array Oper) : Option (List (Option Nat)) := match Region.noSelect ops && backB (floated ops) with
  | true => segPlan (floated ops) ((floated ops).size + 1) 0
  | false => none

def resA (P : Program) (mem : Mem) (tm : TM) : ResultVar → Option AV
  | .tmp t => some (tm.get t)
  | .cell a t => match loadA P mem t (tm.get a) with | some ([], v) => some v | _ => none

def AV.tv : AV → Option TV
  | .one s => some (.one s)
  | .agg l => some (.agg l)
  | .tup _ => none

def resL (P : Program) (mem : Mem) (tm : TM) : List ResultVar → Option (List TV)
  | [] => some []
  | r :: rest => match (resA P mem tm r).bind AV.tv, resL P mem tm rest with | some v, some l => some (v :: l) | _, _ => none

def resultsA (P : Program) (mem : Mem) (tm : TM) (rs : List ResultVar) : Option AV :=
  match rs with
  | [r] => resA P mem tm r
  | rs => match resL P mem tm rs with | some l => some (.tup l) | none => none

/-- Pure operations alone, as 'openRun' carries them out. -/
def evalOps (C : Cfg) (ops : Array Oper) (n0 : Nat) (m0 : Mem) : List Oper → TM → Option (List Prop × TM)
  | [], tm => some ([], tm)
  | o :: rest, tm =>
    match o.guard, inSz tm o.dst with
    | none, true =>
      let tv : TM := ⟨tm.sz, tm.only (o.looksAt ops), tm.df⟩
      match opFine C tv o, pickB C o tv with
      | false, _ => none
      | true, some _ => none
      | true, none => match pureOp C o tv m0 with
        | some (ps, v) => match v.lt n0 with
          | true => match evalOps C ops n0 m0 rest (putA tm o.dst v) with
            | some (qs, tm') => some (ps ++ qs, tm')
            | none => none
          | false => none
        | none => none
    | _, _ => none

def anyAll (tm : TM) : List Oper → TM
  | [] => tm
  | o :: rest => anyAll (putA tm o.dst .any) rest

/-- Under a symbolic condition: some numbers, and one of them stored. What was stored is there, or what had been there. -/
def mergeA (C : Cfg) (t : Bool) (ops : Array Oper) (tm : TM) (mem : Mem) : Option (List Prop × TM × Mem) :=
  match headOf ops 1 (ops.size - 1) with
  | some h =>
    match evalOps C ops mem.n mem (ops.toList.take h) tm, ops.toList.drop h with
    | some (ps, tx), [o] =>
      match o.guard, o.dst, o.op with
      | none, none, .store ty a v => match ev C tx a, storeA C.P mem ty (ev C tx a) (ev C tx v), (ev C tx v).int with
        | .one (.ptr b off), some (qs, _, _), .l k x | .one (.ptr b off), some (qs, _, _), .s k x => match mem.get b with
          | some (.cells tt l) => match l[off]? with
            | some old => match (AV.one old).int with
              | .l k' y | .s k' y => match kEq k k' with
                | true => some (ps ++ qs, anyAll tm (ops.toList.take h), mem.set b (.cells tt (l.set off (.si k (iteI t x y)))))
                | false => none
              | .no => none
            | none => none
          | _ => none
        | _, _, _ => none
      | _, _, _ => none
    | _, _ => none
  | none => none

/-- The first region of some code. -/
def firstId : Code → Option Nat
  | .region id _ _ => some id
  | .seq a _ => firstId a
  | .block _ a => firstId a
  | .scope a => firstId a
  | _ => none

/-- A loop that has a contract: what comes of it. -/
def loopC (C : Cfg) (body : Code) (tm : TM) (mem : Mem) : Option (Code × Option (List Prop × AE × TM × Mem)) :=
  match C.lp with
  | [] => none
  | lp => match firstId body with
    | some id => match assoc lp id with
      | some (bd, F) => some (bd, F tm mem)
      | none => none
    | none => none

/-- A loop whose contract tells several ways out. -/
def loopQ (C : Cfg) (body : Code) : Option (Code × (TM → Mem → Option ((AE → TM → Mem → Out) → Out))) :=
  match C.lq with
  | [] => none
  | lq => match firstId body with
    | some id => assoc lq id
    | none => none
/-- The same, where a state is of its kind. -/
def roundQ (C : Cfg) (body : Code) (tm : TM) (mem : Mem) : Option (Code × ((AE → TM → Mem → Out) → Out)) :=
  match loopQ C body with
  | some (bd, F) => match F tm mem with | some o => some (bd, o) | none => none
  | none => none

def mergeC (C : Cfg) (t : Bool) (x y : Code) (tm : TM) (mem : Mem) : Option (Option (List Prop × TM × Mem)) :=
  match x, y with
  | .region id ops true, .skip => match C.mg.any (Nat.beq id) with
    | true => some (mergeA C t ops tm mem)
    | false => none
  | _, _ => none

def splits (k : IntKind) (e : Int) (t : Nat) (tm : TM) (go : TM → Out) : List Int → Out
  | [] => .bad 30
  | v :: vs => .br (decide (e = v)) (go (tm.set t (.one (.li k v)))) (splits k e t tm go vs)

/-- Ahead of a region: a slot's number is one of some literals. -/
def splitAt (C : Cfg) (id : Nat) (tm : TM) (go : TM → Out) : Out :=
  match assoc C.sp id with
  | none => go tm
  | some (t, vs) => match tm.get t with
    | .one (.si k e) => splits k e t tm go vs
    | _ => go tm

inductive Task where
  | run (c : Code)
  | again (body : Code)
  | within (rest body : Code)

/-- A summary that tells what becomes of memory. -/
def sumQ (C : Cfg) (g : Nat) : Option (List AV → Mem → Option (List Prop × AV × Mem)) := match C.qs with | [] => none | qs => assoc qs g

/-- At a function's end: its deferred calls, the marks among them; whether it still panics. -/
def shutA (C : Cfg) : List DE → Option Value → Mem → (Option Value → Mem → Out) → Out
  | [], pv, mem, k => k pv mem
  | .mark d :: ds, pv, mem, k => match mem.get d with
    | some (.ob .df) => shutA C ds pv (mem.set d .gone) k
    | _ => .bad 51
  | .call g args :: ds, pv, mem, k => match assoc C.dc g with
    | some F => match F pv args mem with
      | some (ps, mem') => needs ps (shutA C ds none mem' k)
      | none => .bad 63
    | none => .bad 64
/-- How a frame is left: it returns, or panics. -/
def AE.pv : AE → Option (Option Value)
  | .normal => some none
  | .ret => some none
  | .panic v => some (some v)
  | _ => none
/-- How a function is left. -/
def leaveA (C : Cfg) (fn : Func) (k : AV → Mem → Out) (kp : Value → Mem → Out) : AE → TM → Mem → Out := fun e tm mem =>
  match e.pv with
  | some pv => shutA C tm.df pv mem fun pv mem' => match pv with
    | none => match resultsA C.P mem' tm fn.results.toList with
      | some r => k r mem'
      | none => .bad 12
    | some v => kp v mem'
  | none => .bad 13
def setsA : List (Tmp × AV) → TM → TM
  | [], tm => tm
  | p :: l, tm => setsA l (tm.set p.1 p.2)
/-- What is done when a round has been left. -/
def endRoundA (l : Nat) (k : AV → Mem → Out) : AE → TM → Mem → Out := fun e _ mem =>
  match mem.get l with
  | some (.ob (.lp _ _ tm0 ps as bd d)) => match e with
    | .normal => k (.one (.lb true)) (mem.set l (.ob (.lp .ready none tm0 ps as bd d)))
    | .ret => k (.one (.lb false)) (mem.set l (.ob (.lp .done (some .ret) tm0 ps as bd d)))
    | .exit id => k (.one (.lb false)) (mem.set l (.ob (.lp .done (some (.exit id)) tm0 ps as bd d)))
    | .goto t => k (.one (.lb false)) (mem.set l (.ob (.lp .done (some (.goto t)) tm0 ps as bd d)))
    | .panic _ => .bad 65
  | _ => .bad 52
/-- One round. -/
def roundA (ex : Code → TM → Mem → (AE → TM → Mem → Out) → Out) (l : Nat) (args : List AV) (mem : Mem) (k : AV → Mem → Out) : Out :=
  match mem.get l with
  | some (.ob (.lp _ _ tm ps as bd _)) => match Nat.beq args.length ps.size && flatC as && flatC bd with
    | true => ex as (setsA (ps.toList.zip args) ⟨tm.sz, tm.t, []⟩) mem fun e tm1 mem1 => match e with
      | .normal => match mem1.get l with
        | some (.ob (.lp .ready pe tm0 ps0 as0 bd0 d)) => ex bd tm1 (mem1.set l (.ob (.lp .busy pe tm0 ps0 as0 bd0 d))) (endRoundA l k)
        | _ => .bad 53
      | _ => .bad 54
    | false => .bad 55
  | _ => .bad 56
/-- The call of a function: by its summary, or by its body; a round. -/
def callWith (C : Cfg) (ex : Code → TM → Mem → (AE → TM → Mem → Out) → Out) : CallK
  | .yl l, args, mem, k, _ => roundA ex l args mem k
  | .fn g, args, mem, k, kp =>
  match sumF C g with
  | some F => match F args mem with
    | some (ps, q) => needs ps (q.bind fun r => k (r.val mem.n) (r.mem mem))
    | none => .bad 42
  | none => match sumQ C g with
  | some F => match F args mem with
    | some (ps, r, mem') => needs ps (k r mem')
    | none => .bad 41
  | none => match assoc C.ps g with
  | some F => match F args mem with
    | some (ps, r) => match r.det with | true => needs ps (k r mem) | false => .bad 10
    | none => .bad 11
  | none => match assoc C.fns g with
    | some fn => match fn.body, decide (args.length ≤ fn.ntmps) with
      | some c, true => ex c (TM.enter fn.ntmps args) mem (leaveA C fn k kp)
      | _, _ => .bad 14
    | none => .bad 15

/-- Behind a range over a function. -/
def endLoopA (l d : Nat) (tm : TM) (k : AE → TM → Mem → Out) : AV → Mem → Out := fun _ mem =>
  match mem.get l with
  | some (.ob (.lp .ready none _ _ _ _ _)) => k .normal ⟨tm.sz, tm.t, .mark d :: tm.df⟩ (mem.set l .gone)
  | some (.ob (.lp .done (some .ret) _ _ _ _ _)) => k .ret ⟨tm.sz, tm.t, .mark d :: tm.df⟩ (mem.set l .gone)
  | some (.ob (.lp .done (some (.exit id)) _ _ _ _ _)) => k (.exit id) ⟨tm.sz, tm.t, .mark d :: tm.df⟩ (mem.set l .gone)
  | some (.ob (.lp .done (some (.goto t)) _ _ _ _ _)) => k (.goto t) ⟨tm.sz, tm.t, .mark d :: tm.df⟩ (mem.set l .gone)
  | _ => .bad 57

def exec (C : Cfg) : Nat → Task → TM → Mem → (AE → TM → Mem → Out) → Out
  | 0, _, _, _, _ => .bad 0
  | n + 1, .run c, tm, mem, k =>
    match c with
    | .skip => k .normal tm mem
    | .region id ops false => splitAt C id tm fun tm => runOps C (callWith C fun c => exec C n (.run c)) ops.toList ops.toList tm mem k
    | .region id ops true => splitAt C id tm fun tm =>
      match C.sg.any (Nat.beq id) with
      | true => (match partsAt ops with
        | some pl => segRun C (callWith C fun c => exec C n (.run c)) (floated ops) pl 0 tm mem fun e tm mem => (match e with
          | .panic _ => .bad 68
          | e => k e tm mem)
        | none => .bad 17)
      | false => match headAt ops with
      | some (ops, h, fl) => openRun C ops mem.n ⟨mem.n + widthOf C ops h, mem.t⟩ (ops.toList.take h) 0 tm ⟨mem.n + widthOf C ops h, mem.t⟩ fun tm mem =>
        runOps C (callWith C fun c => exec C n (.run c)) ops.toList (ops.toList.drop h) tm mem fun e tm mem => match fl, e with
          | true, .panic _ => .bad 68
          | _, e => k e tm mem
      | none => .bad 16
    | .seq a b => exec C n (.run a) tm mem fun e tm mem =>
      match e with
      | .normal => exec C n (.run b) tm mem k
      | e => k e tm mem
    | .cond c x y => match (ev C tm c).bool with
      | .l true => exec C n (.run x) tm mem k
      | .l false => exec C n (.run y) tm mem k
      | .s t => match mergeC C t x y tm mem with
        | some (some (ps, tm', mem')) => needs (ps.map fun p => t = true → p) (k .normal tm' mem')
        | some none => .bad 33
        | none => .br t (exec C n (.run x) tm mem k) (exec C n (.run y) tm mem k)
      | .no => .bad 17
    | .block id body => exec C n (.run body) tm mem fun e tm mem =>
      match e with
      | .exit id' => match Nat.beq id' id with | true => k .normal tm mem | false => k (.exit id') tm mem
      | e => k e tm mem
    | .loop body => match loopC C body tm mem with
      | some (bd, some (ps, e, tm', mem')) => .need (body = bd) (needs ps (k e tm' mem'))
      | some (_, none) => .bad 40
      | none => exec C n (.again body) tm mem k
    | .exit id => k (.exit id) tm mem
    | .scope body => exec C n (.within body body) tm mem k
    | .label _ => k .normal tm mem
    | .goto l => k (.goto l) tm mem
    | .ret => k .ret tm mem
    | .rangeFunc g ps as bd => match ev C tm g with
      | .one (.fn f caps) => callWith C (fun c => exec C n (.run c)) (.fn f) (.one (.yl (mem.n + 1)) :: caps.map CV.av) ((mem.push (.ob .df)).push (.ob (.lp .ready none ⟨tm.sz, tm.t, []⟩ ps as bd mem.n))) (endLoopA (mem.n + 1) mem.n tm k) (fun _ _ => .bad 66)
      | _ => .bad 58
    | _ => .bad 18
  | n + 1, .again body, tm, mem, k => match roundQ C body tm mem with
    | some (bd, o) => .need (body = bd) (o k)
    | none => exec C n (.run body) tm mem fun e tm mem =>
      match e with
      | .normal => exec C n (.again body) tm mem k
      | e => k e tm mem
  | n + 1, .within rest body, tm, mem, k => exec C n (.run rest) tm mem fun e tm mem =>
    match e with
    | .goto l => match findLabel body l with
      | some rest' => exec C n (.within rest' body) tm mem k
      | none => .bad 19
    | e => k e tm mem

def keepMem (tell : Bool) (m : Mem) : Mem := match tell with | true => m | false => Mem.empty

/-- A function's run from its arguments; what is left in memory is told, or not. -/
def callA (C : Cfg) (tell : Bool) (n : Nat) (fn : Func) (args : List AV) (mem : Mem) : Out :=
  match fn.body, decide (args.length ≤ fn.ntmps) with
  | some c, true => exec C n (.run c) (TM.enter fn.ntmps args) mem (leaveA C fn (fun r mem' => .done r (keepMem tell mem')) fun _ _ => .bad 67)
  | _, _ => .bad 14

end Go.Ax
