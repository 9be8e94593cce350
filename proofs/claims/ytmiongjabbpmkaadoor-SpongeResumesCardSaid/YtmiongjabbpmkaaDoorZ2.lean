import Derived.Test.YtmiongjabbpmkaaDoorZ1
import Derived.Laws.Small
import Derived.Laws.CopyRow
namespace Go.Ax
open Go Go.RowKit
def binI (op : BinOp) (k : IntKind) (a b : Int) : Int :=
  match op with
  | .add => k.wrap (a + b)
  | .sub => k.wrap (a - b)
  | .mul => k.wrap (a * b)
  | .quo => k.wrap (a.tdiv b)
  | .rem => a.tmod b
  | .and => k.wrap (BitVec.ofInt k.bits a &&& BitVec.ofInt k.bits b).toNat
  | .or => k.wrap (BitVec.ofInt k.bits a ||| BitVec.ofInt k.bits b).toNat
  | .xor => k.wrap (BitVec.ofInt k.bits a ^^^ BitVec.ofInt k.bits b).toNat
  | .andNot => k.wrap (BitVec.ofInt k.bits a &&& ~~~ BitVec.ofInt k.bits b).toNat
  | .shl => k.wrap (a * 2 ^ (min b.toNat k.bits))
  | .shr => a.fdiv (2 ^ (min b.toNat k.bits))
  | _ => 0
def cmpI (op : BinOp) (a b : Int) : Bool :=
  match op with
  | .eql => a == b
  | .neq => a != b
  | .lss => decide (a < b)
  | .leq => decide (a ≤ b)
  | .gtr => decide (a > b)
  | .geq => decide (a ≥ b)
  | _ => false
def unI (op : UnOp) (k : IntKind) (a : Int) : Int :=
  match op with
  | .neg => binI .sub k 0 a
  | .xor => binI .xor k (if k.signed then -1 else k.max) a
  | _ => 0
def okI (k : IntKind) (n : Int) : Prop := k.min ≤ n ∧ n ≤ k.max
instance (k : IntKind) (n : Int) : Decidable (okI k n) := by unfold okI; infer_instance
def sel (L : List Int) (i : Int) : Int := L.getD i.toNat 0
def iteI (c : Bool) (a b : Int) : Int := match c with | true => a | false => b
def iteB (c : Bool) (a b : Bool) : Bool := match c with | true => a | false => b
structure Cnd where
  p : Prop
  b : Bool
  h : b = true → p
instance (p : Prop) [Decidable p] : CoeDep Prop p Cnd := ⟨⟨p, decide p, of_decide_eq_true⟩⟩
def Cnd.of (p : Prop) : Cnd := ⟨p, false, fun h => nomatch h⟩
inductive CV where
  | p (blk off : Nat)
  | r (v : Value)
inductive SV where
  | any
  | li (k : IntKind) (n : Int)
  | si (k : IntKind) (e : Int)
  | lb (x : Bool)
  | sb (x : Bool)
  | ptr (blk off : Nat)
  | ptrS (blk : Nat) (off : Int)
  | ptrR (blk g : Nat) (off : Int)
  | slice (blk off len cap : Nat)
  | slx (blk off len : Nat)
  | fn (f : Nat) (caps : List CV)
  | raw (v : Value)
  /-- A slice of a block: from 'o' on, 'n' long; how far the block goes is the number that 'g' stands for. -/
  | sq (blk g o n : Nat)
  /-- A slice of whatever capacity (where it is empty, of whatever block). -/
  | slq (blk o n : Nat)
  /-- A slice of a row that stays; where the row begins in its block is the number that 'g' stands for. -/
  | slr (blk g o n : Nat)
  /-- A slice without room. -/
  | e0
  /-- A text, of so many bytes. -/
  | st (L : List Int)
  /-- A map. -/
  | mp (blk : Nat)
  /-- What a range over a function calls for each round: of which loop. -/
  | yl (blk : Nat)
  /-- A method bound to a pointer. -/
  | fnb (f blk off : Nat)
inductive TV where
  | one (s : SV)
  | agg (l : List SV)
inductive AV where
  | one (s : SV)
  | agg (l : List SV)
  | tup (l : List TV)
def AV.any : AV := .one .any
inductive Tr (α : Type) where
  | leaf
  | node (v : Option α) (l r : Tr α)
def Tr.mk {α : Type} : Nat → Tr α
  | 0 => .leaf
  | d + 1 => .node none (Tr.mk d) (Tr.mk d)
def Tr.get {α : Type} : Tr α → Nat → Option α
  | .leaf, _ => none
  | .node v l r, n => match Nat.beq n 0 with
    | true => v
    | false => match Nat.beq (n % 2) 1 with
      | true => l.get (n / 2)
      | false => r.get (n / 2 - 1)
def Tr.set {α : Type} : Tr α → Nat → α → Tr α
  | .leaf, _, _ => .leaf
  | .node v l r, n, a => match Nat.beq n 0 with
    | true => .node (some a) l r
    | false => match Nat.beq (n % 2) 1 with
      | true => .node v (l.set (n / 2) a) r
      | false => .node v l (r.set (n / 2 - 1) a)
inductive DE where
  | mark (b : Nat)
  | call (g : Nat) (args : List AV)
  /-- One that the executor leaves alone. -/
  | raw (d : Deferred)
structure TM where
  sz : Nat
  t : Tr AV
  df : List DE
def TM.get (tm : TM) (n : Nat) : AV := match tm.t.get n with | some v => v | none => .any
def TM.set (tm : TM) (n : Nat) (v : AV) : TM := match Nat.blt n tm.sz with | true => ⟨tm.sz, tm.t.set n v, tm.df⟩ | false => tm
def Tr.ofList {α : Type} : Tr α → Nat → List α → Tr α
  | t, _, [] => t
  | t, i, v :: vs => Tr.ofList (t.set i v) (i + 1) vs
def TM.enter (sz : Nat) (args : List AV) : TM := ⟨sz, Tr.ofList (Tr.mk 10) 0 args, []⟩
inductive LO where
  | df
  | lp (st : LoopState) (pend : Option Code) (tm : TM) (ps : Array Tmp) (assign body : Code) (d : Nat)
inductive AB where
  | gone
  | cells (t : TypeId) (l : List SV)
  | row (t : TypeId) (l : List SV)
  | ro (l : List SV)
  /-- A row of its own, of numbers; 'g' stands for how many cells it has. -/
  | seq (t : TypeId) (k : IntKind) (L : List Int) (g : Nat)
  /-- A row of numbers that stays; 'g' stands for where it begins in its block. -/
  | rseq (k : IntKind) (L : List Int) (g : Nat)
  /-- A map of numbers by numbers. -/
  | mp (k kv : IntKind) (es : List (Int × Int))
  /-- A row of one's own that is read alone. -/
  | fz (t : TypeId) (l : List SV)
  /-- What a range over a function keeps. -/
  | ob (o : LO)
  /-- What a number stands for. -/
  | num (c : Nat)
structure Mem where
  n : Nat
  t : Tr AB
def Mem.get (m : Mem) (i : Nat) : Option AB := m.t.get i
def Mem.set (m : Mem) (i : Nat) (b : AB) : Mem := ⟨m.n, m.t.set i b⟩
def Mem.push (m : Mem) (b : AB) : Mem := ⟨m.n + 1, m.t.set m.n b⟩
def Mem.empty : Mem := ⟨0, Tr.mk 14⟩
def memG (gd : List (Nat × List SV)) : Mem := ⟨gd.length, Tr.ofList (Tr.mk 14) 0 (gd.map fun p => .ro p.2)⟩
def glFrom : Nat → List (Nat × List SV) → List (Nat × Nat)
  | _, [] => []
  | i, p :: ps => (p.1, i) :: glFrom (i + 1) ps
def kEq (a b : IntKind) : Bool :=
  match a, b with
  | .i8, .i8 => true
  | .i16, .i16 => true
  | .i32, .i32 => true
  | .i64, .i64 => true
  | .u8, .u8 => true
  | .u16, .u16 => true
  | .u32, .u32 => true
  | .u64, .u64 => true
  | _, _ => false
def CV.conc (env : Nat → Nat) : CV → Value
  | .p b o => .pointer (some ⟨env b, o, none⟩)
  | .r v => v
def SV.conc (env : Nat → Nat) : SV → Value
  | .any => undef
  | .li k n => .int k n
  | .si k n => .int k n
  | .lb x => .bool x
  | .sb x => .bool x
  | .ptr b o => .pointer (some ⟨env b, o, none⟩)
  | .ptrS b o => .pointer (some ⟨env b, o.toNat, none⟩)
  | .ptrR b g o => .pointer (some ⟨env b, env g + o.toNat, none⟩)
  | .slice b o l c => .slice (some ⟨env b, o, none⟩) l c
  | .slx b o l => .slice (some ⟨env b, o, none⟩) l l
  | .fn f caps => .func (.func f) #[] (caps.map (CV.conc env)).toArray
  | .raw v => v
  | .sq .. => undef
  | .slq .. => undef
  | .slr .. => undef
  | .e0 => undef
  | .st L => .string (strOfNums L)
  | .mp b => .map (some (env b))
  | .yl b => .func (.yield (env b)) #[] #[]
  | .fnb f b o => .func (.func f) #[.pointer (some ⟨env b, o, none⟩)] #[]
def TV.conc (env : Nat → Nat) : TV → Value
  | .one s => s.conc env
  | .agg l => .agg (l.map (SV.conc env)).toArray
def AV.conc (env : Nat → Nat) : AV → Value
  | .one s => s.conc env
  | .agg l => .agg (l.map (SV.conc env)).toArray
  | .tup l => .tuple (l.map (TV.conc env)).toArray
def CV.ok (m : Nat) : CV → Prop
  | .p b _ => b < m
  | .r _ => True
def SV.ok (m : Nat) : SV → Prop
  | .any => True
  | .li k n => okI k n
  | .si k n => okI k n
  | .lb _ => True
  | .sb _ => True
  | .ptr b _ => b < m
  | .ptrS b _ => b < m
  | .ptrR b g _ => b < m ∧ g < m
  | .slice b _ l c => b < m ∧ l ≤ c ∧ c ≤ 9223372036854775807
  | .slx b _ _ => b < m
  | .fn _ caps => ∀ c ∈ caps, c.ok m
  | .raw v => v.oneCell' = true
  | .sq b g _ _ => b < m ∧ g < m
  | .slq b _ _ => b < m
  | .slr b g _ _ => b < m ∧ g < m
  | .e0 => True
  | .st L => ∀ x ∈ L, okI .u8 x
  | .mp b => b < m
  | .yl b => b < m
  | .fnb _ b _ => b < m
def SV.R (env : Nat → Nat) (m : Nat) (s : SV) (v : Value) : Prop :=
  match s with
  | .any => True
  | .slx b o l => b < m ∧ ∃ c, l ≤ c ∧ c ≤ 9223372036854775807 ∧ v = .slice (some ⟨env b, o, none⟩) l c
  | .sq b g o n => (b < m ∧ g < m) ∧ ∃ o', (o' = o ∨ env g = o) ∧ o + n ≤ env g ∧ env g ≤ 9223372036854775807 ∧ v = .slice (some ⟨env b, o', none⟩) n (env g - o)
  | .slq b o n => b < m ∧ ∃ p c, n ≤ c ∧ c ≤ 9223372036854775807 ∧ v = .slice p n c ∧ (n = 0 ∨ p = some ⟨env b, o, none⟩)
  | .slr b g o n => (b < m ∧ g < m) ∧ ∃ p c, n ≤ c ∧ c ≤ 9223372036854775807 ∧ v = .slice p n c ∧ (n = 0 ∨ p = some ⟨env b, env g + o, none⟩)
  | .e0 => True ∧ ∃ p, v = .slice p 0 0
  | s => s.ok m ∧ v = s.conc env
def SV.det : SV → Bool
  | .any => false
  | .slx .. => false
  | .sq .. => false
  | .slq .. => false
  | .slr .. => false
  | .e0 => false
  | _ => true
def SV.cell : SV → Bool
  | .any => false
  | _ => true
def TV.det : TV → Bool
  | .one s => s.det
  | .agg l => l.all SV.det
def AV.det : AV → Bool
  | .one s => s.det
  | .agg l => l.all SV.det
  | .tup l => l.all TV.det
def All2 {α β : Type} (R : α → β → Prop) : List α → List β → Prop
  | [], [] => True
  | a :: as, b :: bs => R a b ∧ All2 R as bs
  | _, _ => False
def TV.R (env : Nat → Nat) (m : Nat) (s : TV) (v : Value) : Prop :=
  match s with
  | .one s => s.R env m v
  | .agg l => ∃ vs : List Value, v = .agg vs.toArray ∧ All2 (SV.R env m) l vs
def AV.R (env : Nat → Nat) (m : Nat) (s : AV) (v : Value) : Prop :=
  match s with
  | .one s => s.R env m v
  | .agg l => ∃ vs : List Value, v = .agg vs.toArray ∧ All2 (SV.R env m) l vs
  | .tup l => ∃ vs : List Value, v = .tuple vs.toArray ∧ All2 (TV.R env m) l vs
def absS (v : Value) : SV :=
  match v with
  | .int k n => if decide (k.min ≤ n) && decide (n ≤ k.max) then .li k n else .any
  | .bool b => .lb b
  | .agg _ => .any
  | .tuple _ => .any
  | v => .raw v
def absV (v : Value) : AV :=
  match v with
  | .agg cs => .agg (cs.toList.map absS)
  | .tuple _ => .any
  | v => .one (absS v)
inductive AE where
  | normal
  | exit (id : Nat)
  | goto (l : Nat)
  | ret
  | panic (v : Value)
inductive Out where
  | bad (why : Nat)
  | need (p : Prop) (o : Out)
  | br (c : Bool) (t f : Out)
  | both (a b : Out)
  | done (v : AV) (mem : Mem)
inductive RC where
  | i (k : IntKind) (n : Int)
  | b (x : Bool)
  | s (t : TypeId) (k : IntKind) (L : List Int)
  | e
def RC.wid : RC → Nat
  | .s .. => 2
  | _ => 0
def RC.val (n : Nat) : RC → SV
  | .i k x => .si k x
  | .b x => .sb x
  | .s _ _ L => .sq n (n + 1) 0 L.length
  | .e => .e0
def RC.put (n : Nat) (t : Tr AB) : RC → Tr AB
  | .s ty k L => t.set n (.seq ty k L (n + 1))
  | _ => t
def widRC : List RC → Nat
  | [] => 0
  | c :: cs => c.wid + widRC cs
def valRC : Nat → List RC → List SV
  | _, [] => []
  | n, c :: cs => c.val n :: valRC (n + c.wid) cs
def putRC : Nat → Tr AB → List RC → Tr AB
  | _, t, [] => t
  | n, t, c :: cs => putRC (n + c.wid) (c.put n t) cs
inductive RP where
  | c (x : RC)
  | g (l : List RC)
def RP.cells : RP → List RC
  | .c x => [x]
  | .g l => l
def RP.val (n : Nat) : RP → TV
  | .c x => .one (x.val n)
  | .g l => .agg (valRC n l)
def valRP : Nat → List RP → List TV
  | _, [] => []
  | n, r :: rs => r.val n :: valRP (n + widRC r.cells) rs
inductive RS where
  | p (x : RP)
  | t (l : List RP)
def RS.cells : RS → List RC
  | .p x => x.cells
  | .t l => l.flatMap RP.cells
def RS.val (n : Nat) : RS → AV
  | .p (.c x) => .one (x.val n)
  | .p (.g l) => .agg (valRC n l)
  | .t l => .tup (valRP n l)
inductive RT where
  | one (r : RS)
  | br (c : Bool) (x y : RT)
def RT.now : RT → RS
  | .one r => r
  | .br true x _ => x.now
  | .br false _ y => y.now
def RT.bind (k : RS → Out) : RT → Out
  | .one r => k r
  | .br c x y => .br c (x.bind k) (y.bind k)
def RS.mem (m : Mem) (r : RS) : Mem := ⟨m.n + widRC r.cells, putRC m.n m.t r.cells⟩
structure Cfg where
  P : Program
  J : Judg P
  fns : List (Nat × Func)
  gl : List (Nat × Nat)
  gd : List (Nat × List SV)
  ps : List (Nat × (List AV → Mem → Option (List Cnd × AV)))
  sp : List (Nat × Nat × List Int) := []
  mg : List Nat := []
  lp : List (Nat × Code × (TM → Mem → Option (List Cnd × AE × TM × Mem))) := []
  ex : List (Nat × (List AV → Option (List Cnd × AV))) := []
  qs : List (Nat × (List AV → Mem → Option (List Cnd × AV × Mem))) := []
  lq : List (Nat × Code × (TM → Mem → Option ((AE → TM → Mem → Out) → Out))) := []
  fs : List (Nat × (List AV → Mem → Option (List Cnd × RT))) := []
  /-- How closely it is looked at what operations list. -/
  lvl : Nat := 0
  /-- Whether slices' lengths are literals. -/
  lit : Bool := false
  /-- The regions that are carried out in parts. -/
  sg : List Nat := []
  /-- The regions that are carried out in all orders. -/
  al : List Nat := []
  /-- Deferred functions: from a panic, or not; what is asked, and the memory behind. -/
  dc : List (Nat × (Option Value → List AV → Mem → Option (List Cnd × Mem))) := []
  /-- Whether slices are cut by their capacities. -/
  cp : Bool := false
  /-- Methods of interface values, by type and name: which function, of which receiver. -/
  iv : List (TypeId × String × (Value → Option (Nat × AV))) := []
  /-- The regions that are carried out in every order, one operation behind the other. -/
  xo : List Nat := []
  /-- Regions that have a contract. -/
  rq : List (Nat × Array Oper × (TM → Mem → Option ((AE → TM → Mem → Out) → Out))) := []
  /-- Contracts of functions with several outcomes. -/
  qb : List (Nat × (List AV → Mem → Option ((AV → Mem → Out) → Out))) := []
def assoc {α : Type} (l : List (Nat × α)) (n : Nat) : Option α :=
  match l with
  | [] => none
  | (k, a) :: rest => match Nat.beq k n with | true => some a | false => assoc rest n
def ev (C : Cfg) (tm : TM) : Operand → AV
  | .tmp t => tm.get t
  | .const v => absV v
  | .global g => match assoc C.gl g with | some i => .one (.ptr i 0) | none => .any
  | .func f => .one (.fn f [])
def AB.get? : AB → Option (List SV)
  | .gone => none
  | .cells _ l => some l
  | .row _ l => some l
  | .ro l => some l
  | .seq .. => none
  | .rseq .. => none
  | .mp .. => none
  | .ob .. => none
  | .num .. => none
  | .fz _ l => some l
def AB.ints? : AB → Option (IntKind × List Int)
  | .seq _ k L _ => some (k, L)
  | _ => none
def intsOf (k : IntKind) : List SV → Option (List Int)
  | [] => some []
  | .li k' n :: rest => match kEq k k', intsOf k rest with | true, some l => some (n :: l) | _, _ => none
  | .si k' n :: rest => match kEq k k', intsOf k rest with | true, some l => some (n :: l) | _, _ => none
  | _ :: _ => none
def kindOf : List SV → Option IntKind
  | .li k _ :: _ => some k
  | .si k _ :: _ => some k
  | _ => none
def aggSize (P : Program) (t : TypeId) : Option (Option Nat) :=
  match P.underlying t, P.info? t with
  | some (.struct _), some i => some (some i.size)
  | some (.array _ _), some i => some (some i.size)
  | some _, some _ => some none
  | _, _ => none
def sizeA (P : Program) (t : TypeId) : Option Nat := (P.info? t).map (·.size)
abbrev POut := Option (List Cnd × AV)
inductive AI where
  | l (k : IntKind) (n : Int)
  | s (k : IntKind) (n : Int)
  | no
def AV.int : AV → AI
  | .one (.li k n) => .l k n
  | .one (.si k n) => .s k n
  | _ => .no
inductive ABo where
  | l (b : Bool)
  | s (b : Bool)
  | no
def AV.bool : AV → ABo
  | .one (.lb x) => .l x
  | .one (.sb x) => .s x
  | _ => .no
def AV.bool? (x : AV) : Option (Bool × Bool) := match x.bool with
  | .l b => some (true, b)
  | .s b => some (false, b)
  | .no => none
def mkB (lit : Bool) (b : Bool) : AV := match lit with | true => .one (.lb b) | false => .one (.sb b)
def isShift : BinOp → Bool
  | .shl => true
  | .shr => true
  | _ => false
def isDiv : BinOp → Bool
  | .quo => true
  | .rem => true
  | _ => false
def isCmp : BinOp → Bool
  | .eql => true
  | .neq => true
  | .lss => true
  | .leq => true
  | .gtr => true
  | .geq => true
  | _ => false
def isArith : BinOp → Bool
  | .add => true
  | .sub => true
  | .mul => true
  | .quo => true
  | .rem => true
  | .and => true
  | .or => true
  | .xor => true
  | .andNot => true
  | _ => false
def eqS : SV → SV → Option Bool
  | .li k a, .li k' b => match kEq k k' with | true => some (a == b) | false => none
  | .li k a, .si k' b => match kEq k k' with | true => some (a == b) | false => none
  | .si k a, .li k' b => match kEq k k' with | true => some (a == b) | false => none
  | .si k a, .si k' b => match kEq k k' with | true => some (a == b) | false => none
  | _, _ => none
def isInt (P : Program) (t : TypeId) : Bool :=
  match P.underlying t with
  | some (.int _) => true
  | _ => false
def eqPlan (P : Program) (t : TypeId) : Option (List (Nat × TypeId)) :=
  match P.underlying t with
  | some (.array n e) => match P.info? e, isInt P e with
    | some _, true => some ((List.range n).map fun i => (i * P.cellsOf e, e))
    | _, _ => none
  | some (.struct fs) => match P.stoodInHeld t, fs.toList.all fun f => decide (f.name ≠ "_") && isInt P f.type with
    | false, true => some (fs.toList.map fun f => (f.offset, f.type))
    | _, _ => none
  | _ => none
def eqAt (l l' : List SV) : List (Nat × TypeId) → Option Bool
  | [] => some true
  | (o, _) :: rest => match l[o]?, l'[o]? with
    | some a, some b => match eqS a b, eqAt l l' rest with
      | some x, some y => some (x && y)
      | _, _ => none
    | _, _ => none
def binA (P : Program) (op : BinOp) (xt : TypeId) (x y : AV) : POut :=
  match x.int, y.int with
  | .l k a, .l k' b =>
    match isShift op with
    | true => match decide (0 ≤ b) with
      | true => some ([], .one (.li k (binI op k a b)))
      | false => none
    | false => match kEq k k' with
      | false => none
      | true => match isCmp op with
        | true => some ([], .one (.lb (cmpI op a b)))
        | false => match isArith op with
          | false => none
          | true => match isDiv op && decide (b = 0) with
            | true => none
            | false => some ([], .one (.li k (binI op k a b)))
  | .l k a, .s k' b | .s k a, .s k' b =>
    match isShift op with
    | true => some ((match k'.signed with | true => [0 ≤ b] | false => []), .one (.si k (binI op k a b)))
    | false => match kEq k k' with
      | false => none
      | true => match isCmp op with
        | true => some ([], .one (.sb (cmpI op a b)))
        | false => match isArith op with
          | false => none
          | true => some ((match isDiv op with | true => [b ≠ 0] | false => []), .one (.si k (binI op k a b)))
  | .s k a, .l k' b =>
    match isShift op with
    | true => match decide (0 ≤ b) with
      | true => some ([], .one (.si k (binI op k a b)))
      | false => none
    | false => match kEq k k' with
      | false => none
      | true => match isCmp op with
        | true => some ([], .one (.sb (cmpI op a b)))
        | false => match isArith op with
          | false => none
          | true => match isDiv op && decide (b = 0) with
            | true => none
            | false => some ([], .one (.si k (binI op k a b)))
  | _, _ =>
    match x, y with
    | .agg l, .agg l' =>
      match P.eqGuardType P.depth xt, eqPlan P xt with
      | false, some pl => match eqAt l l' pl with
        | some e => match op with
          | .eql => some ([], .one (.sb e))
          | .neq => some ([], .one (.sb (!e)))
          | _ => none
        | none => none
      | _, _ => none
    | _, _ => match P.underlying xt, x.bool?, y.bool? with
      | some .bool, some (p, a), some (q, b) => match op with
        | .eql => some ([], mkB (p && q) (a == b))
        | .neq => some ([], mkB (p && q) (!(a == b)))
        | _ => none
      | _, _, _ => none
def unA (op : UnOp) (x : AV) : POut :=
  match op, x with
  | .neg, .one (.li k n) => some ([], .one (.li k (unI .neg k n)))
  | .neg, .one (.si k n) => some ([], .one (.si k (unI .neg k n)))
  | .xor, .one (.li k n) => some ([], .one (.li k (unI .xor k n)))
  | .xor, .one (.si k n) => some ([], .one (.si k (unI .xor k n)))
  | .not, .one (.lb x) => some ([], .one (.lb (!x)))
  | .not, .one (.sb x) => some ([], .one (.sb (!x)))
  | _, _ => none
def convA (P : Program) (src dst : TypeId) (x : AV) : POut :=
  match P.underlying src, P.underlying dst, x with
  | some (.int _), some (.int k), .one (.li k' n) => match kEq k k' with | true => some ([], .one (.li k n)) | false => some ([], .one (.li k (k.wrap n)))
  | some (.int _), some (.int k), .one (.si k' n) => match kEq k k' with | true => some ([], .one (.si k n)) | false => some ([], .one (.si k (k.wrap n)))
  | _, _, _ => none
def seg (l : List SV) (o n : Nat) : Option (List SV) :=
  let r := (l.drop o).take n
  match Nat.beq r.length n && r.all SV.cell with | true => some r | false => none
def loadA (P : Program) (mem : Mem) (t : TypeId) (x : AV) : POut :=
  match x with
  | .one (.ptr b o) =>
    match (mem.get b).bind AB.get?, aggSize P t with
    | some l, some (some n) => match seg l o n with | some r => some ([], .agg r) | none => none
    | some l, some none => match l[o]? with | some s => some ([], .one s) | none => none
    | none, some none => match (mem.get b).bind AB.ints? with | some (k, L) => some ([0 ≤ (o : Int), (o : Int) < (L.length : Int)], .one (.si k (sel L (o : Int)))) | none => none
    | _, _ => none
  | .one (.ptrR b g e) =>
    match mem.get b, aggSize P t with
    | some (.rseq k L g'), some none => match Nat.beq g g' with | true => some ([0 ≤ e, e < (L.length : Int)], .one (.si k (sel L e))) | false => none
    | _, _ => none
  | .one (.ptrS b e) =>
    match (mem.get b).bind AB.get?, aggSize P t with
    | some l, some none => match kindOf l with
      | some k => match intsOf k l with
        | some es => some ([0 ≤ e, e < (es.length : Int)], .one (.si k (sel es e)))
        | none => none
      | none => none
    | none, some none => match (mem.get b).bind AB.ints? with | some (k, L) => some ([0 ≤ e, e < (L.length : Int)], .one (.si k (sel L e))) | none => none
    | _, _ => none
  | _ => none
def idxQ (P : Program) (e : TypeId) (n b o : Nat) (ix : AV) : POut :=
  match sizeA P e, ix.int with
  | some sz, .l _ i | some sz, .s _ i => match Nat.beq sz 1 with
    | true => some ([0 ≤ i, i < (n : Int)], .one (.ptrS b ((o : Int) + i)))
    | false => none
  | _, _ => none
def idxR (P : Program) (e : TypeId) (n b g o : Nat) (ix : AV) : POut :=
  match idxQ P e n b o ix with
  | some (ps, .one (.ptrS _ e')) => some (ps, .one (.ptrR b g e'))
  | _ => none
def idxA (P : Program) (e : TypeId) (len : Nat) (b o : Nat) (ix : AV) : POut :=
  match sizeA P e, ix.int with
  | some sz, .l _ i => match decide (0 ≤ i) && decide (i < (len : Int)) with
    | true => some ([], .one (.ptr b (o + i.toNat * sz)))
    | false => none
  | some sz, .s _ i => match Nat.beq sz 1 && Nat.beq o 0 with
    | true => some ([0 ≤ i, i < (len : Int)], .one (.ptrS b i))
    | false => none
  | _, _ => none
def indexAddrA (P : Program) (t : TypeId) (x ix : AV) : POut :=
  match P.underlying t, x with
  | some (.array n e), .one (.ptr b o) => match decide (1 < n) with | true => idxA P e n b o ix | false => none
  | some (.slice e), .one (.slice b o n _) => idxA P e n b o ix
  | some (.slice e), .one (.slx b o n) => idxA P e n b o ix
  | some (.slice e), .one (.sq b _ o n) => idxQ P e n b o ix
  | some (.slice e), .one (.slq b o n) => idxQ P e n b o ix
  | some (.slice e), .one (.slr b g o n) => idxR P e n b g o ix
  | _, _ => none
def bytesI (b : ByteArray) : List Int := b.data.toList.map fun x => (x.toNat : Int)
def strAt (b : ByteArray) (i : Int) : POut := some ([0 ≤ i, i < (b.size : Int)], .one (.si .u8 (sel (bytesI b) i)))
def indexA (P : Program) (t : TypeId) (x ix : AV) : POut :=
  match P.underlying t, x with
  | some (.array n e), .agg l =>
    match aggSize P e, ix.int with
    | some none, .l _ i => match sizeA P e, decide (0 ≤ i) && decide (i < (n : Int)) with
      | some sz, true => match l[i.toNat * sz]? with
        | some s => some ([], .one s)
        | none => none
      | _, _ => none
    | some none, .s _ i => match sizeA P e with
      | some sz => match Nat.beq sz 1, Nat.beq n l.length, kindOf l with
        | true, true, some k => match intsOf k l with
          | some es => some ([0 ≤ i, i < (n : Int)], .one (.si k (sel es i)))
          | none => none
        | _, _, _ => none
      | none => none
    | some (some sz), .l _ i => match decide (0 ≤ i) && decide (i < (n : Int)) with
      | true => match seg l (i.toNat * sz) sz with
        | some r => some ([], .agg r)
        | none => none
      | false => none
    | _, _ => none
  | some .string, .one (.raw (.string b)) => match ix.int with
    | .l _ i => strAt b i
    | .s _ i => strAt b i
    | .no => none
  | _, _ => none
def fieldA (P : Program) (t : TypeId) (x : AV) (f : Nat) : POut :=
  match P.underlying t, x with
  | some (.struct fs), .agg l =>
    match fs[f]? with
    | some fd => match aggSize P fd.type with
      | some none => match l[fd.offset]? with | some s => some ([], .one s) | none => none
      | some (some sz) => match seg l fd.offset sz with | some r => some ([], .agg r) | none => none
      | none => none
    | none => none
  | _, _ => none
def fieldAddrA (P : Program) (t : TypeId) (x : AV) (f : Nat) : POut :=
  match P.underlying t, x with
  | some (.struct fs), .one (.ptr b o) =>
    match fs[f]? with
    | some fd => match sizeA P fd.type with
      | some (_ + 1) => some ([], .one (.ptr b (o + fd.offset)))
      | _ => none
    | none => none
  | _, _ => none
def TV.av : TV → AV
  | .one s => .one s
  | .agg l => .agg l
def extractA (x : AV) (i : Nat) : POut :=
  match x with
  | .tup l => match l[i]? with | some v => some ([], v.av) | none => none
  | _ => none
def capsOf : List AV → Option (List CV)
  | [] => some []
  | .one (.ptr b o) :: rest => match capsOf rest with | some l => some (.p b o :: l) | none => none
  | .one (.raw v) :: rest => match capsOf rest with | some l => some (.r v :: l) | none => none
  | _ :: _ => none
def makeFuncA (fn : Fn) (first caps : List AV) : POut :=
  match fn, first with
  | .func f, [] => match capsOf caps with | some l => some ([], .one (.fn f l)) | none => none
  | .func f, [.one (.ptr b o)] => match caps with | [] => some ([], .one (.fnb f b o)) | _ => none
  | _, _ => none
def optInt (d : Nat) : Option AV → Option Nat
  | none => some d
  | some x => match x.int with
    | .l _ n => match decide (0 ≤ n) with | true => some n.toNat | false => none
    | _ => none
def boundsA (len cap : Nat) (lo hi mx : Option AV) : Option (Nat × Nat × Nat) :=
  match optInt 0 lo, optInt len hi, optInt cap mx with
  | some l, some h, some m =>
    match decide (l ≤ h) && decide (h ≤ m) && decide (m ≤ cap) && (hi.isSome || mx.isNone) && decide (cap ≤ 9223372036854775807) with
    | true => some (l, h, m)
    | false => none
  | _, _, _ => none
def offA (m l o sz : Nat) : Nat := match Nat.beq m l with | true => o | false => o + l * sz
def bndI (d : Int) : Option AV → Option Int
  | none => some d
  | some x => match x.int with
    | .l .i64 n => some n
    | .s .i64 n => some n
    | _ => none
def zeroB : Option AV → Bool
  | some x => match x.int with | .l .i64 0 => true | _ => false
  | none => false
def offQ (o : Nat) (lo : Option AV) (l : Int) : Nat := match lo with | none => o | some _ => o + l.toNat
def lenQ (lo : Option AV) (l h : Int) : Nat := match lo with | none => h.toNat | some _ => h.toNat - l.toNat
def sliceQ (P : Program) (e : TypeId) (b : Nat) (g : Option Nat) (o n : Nat) (lo hi mx : Option AV) : POut :=
  match sizeA P e with
  | some sz => match Nat.beq sz 1, lo, zeroB hi && zeroB mx with
    | true, none, true => some ([], .one .e0)
    | true, _, _ => match mx, bndI 0 lo, bndI (n : Int) hi with
      | none, some l, some h => some ([0 ≤ l, l ≤ h, h ≤ (n : Int)], match g with | some g => .one (.sq b g (offQ o lo l) (lenQ lo l h)) | none => .one (.slq b (offQ o lo l) (lenQ lo l h)))
      | some _, some l, some h => match bndI 0 mx, hi.isSome with
        | some m, true => some ([0 ≤ l, l ≤ h, h ≤ m, m ≤ (n : Int)], .one (.slq b (offQ o lo l) (lenQ lo l h)))
        | _, _ => none
      | _, _, _ => none
    | _, _, _ => none
  | none => none
def sliceR (P : Program) (e : TypeId) (b g o n : Nat) (lo hi mx : Option AV) : POut :=
  match sliceQ P e b none o n lo hi mx with
  | some (ps, .one (.slq _ o' n')) => some (ps, .one (.slr b g o' n'))
  | some (ps, .one .e0) => some (ps, .one .e0)
  | _ => none
def sliceA (P : Program) (t : TypeId) (x : AV) (lo hi mx : Option AV) : POut :=
  match P.underlying t, x with
  | some (.array n e), .one (.ptr b o) =>
    match boundsA n n lo hi mx, sizeA P e with
    | some (l, h, m), some sz => some ([], .one (.slice b (offA m l o sz) (h - l) (m - l)))
    | _, _ => none
  | some (.slice e), .one (.slice b o len cap) =>
    match boundsA len cap lo hi mx, sizeA P e with
    | some (l, h, m), some sz => some ([], .one (.slice b (offA m l o sz) (h - l) (m - l)))
    | _, _ => none
  | some (.slice e), .one (.slx b o len) =>
    match mx with
    | some _ => none
    | none => match boundsA len len lo hi none with
      | none => none
      | some (l, h, _) => match sizeA P e, decide (l < len) with
        | some sz, true => some ([], .one (.slx b (o + l * sz) (h - l)))
        | _, _ => none
  | some (.slice e), .one (.sq b g o n) => sliceQ P e b (some g) o n lo hi mx
  | some (.slice e), .one (.slq b o n) => sliceQ P e b none o n lo hi mx
  | some (.slice e), .one (.slr b g o n) => sliceR P e b g o n lo hi mx
  | _, _ => none
def toArrPtrA (P : Program) (t : TypeId) (x : AV) : POut :=
  match P.underlying t, x with
  | some (.array n _), .one (.slice b o len _) => match decide (n ≤ len) with | true => some ([], .one (.ptr b o)) | false => none
  | some (.array n _), .one (.slx b o len) => match decide (n ≤ len) with | true => some ([], .one (.ptr b o)) | false => none
  | _, _ => none
def nilCheckA (x : AV) : POut :=
  match x with
  | .one (.ptr b o) => some ([], .one (.ptr b o))
  | .one (.ptrS b o) => some ([], .one (.ptrS b o))
  | .one (.ptrR b g o) => some ([], .one (.ptrR b g o))
  | .one (.fn f l) => some ([], .one (.fn f l))
  | _ => none
def pickA (c a b : AV) : POut :=
  match c.bool with
  | .l true => some ([], a)
  | .l false => some ([], b)
  | .s t => match a.int, b.int with
    | .l k x, .l k' y | .l k x, .s k' y | .s k x, .l k' y | .s k x, .s k' y => match kEq k k' with | true => some ([], .one (.si k (iteI t x y))) | false => none
    | _, _ => match a.bool, b.bool with
      | .l x, .l y | .l x, .s y | .s x, .l y | .s x, .s y => some ([], .one (.sb (iteB t x y)))
      | _, _ => none
  | .no => none
def lenA (P : Program) (t : TypeId) (x : AV) : POut :=
  match P.underlying t, x with
  | some (.slice _), .one (.slice _ _ n _) => some ([], .one (.li .i64 n))
  | some (.slice _), .one (.slx _ _ n) => some ([], .one (.li .i64 n))
  | some (.slice _), .one (.raw (.slice none 0 _)) => some ([], .one (.li .i64 0))
  | some (.slice _), .one (.sq _ _ _ n) => some ([], .one (.si .i64 (n : Int)))
  | some (.slice _), .one (.slq _ _ n) => some ([], .one (.si .i64 (n : Int)))
  | some (.slice _), .one (.slr _ _ _ n) => some ([], .one (.si .i64 (n : Int)))
  | some (.slice _), .one .e0 => some ([], .one (.li .i64 0))
  | some (.array n _), _ => match decide (n ≤ 9223372036854775807) with | true => some ([], .one (.li .i64 n)) | false => none
  | _, _ => none
def capA (P : Program) (t : TypeId) (x : AV) : POut :=
  match P.underlying t, x with
  | some (.slice _), .one (.slice _ _ _ n) => some ([], .one (.li .i64 n))
  | some (.array n _), _ => match decide (n ≤ 9223372036854775807) with | true => some ([], .one (.li .i64 n)) | false => none
  | _, _ => none
def mmI (mn : Bool) (a b : Int) : Int := match mn with | true => iteI (decide (b < a)) b a | false => iteI (decide (b > a)) b a
def minmax (mn : Bool) (x y : AI) : POut :=
  match x, y with
  | .l k a, .l k' b => match kEq k k' with | true => some ([], .one (.li k (mmI mn a b))) | false => none
  | .l k a, .s k' b | .s k a, .l k' b | .s k a, .s k' b => match kEq k k' with | true => some ([], .one (.si k (mmI mn a b))) | false => none
  | _, _ => none
def builtinA (P : Program) (b : Builtin) (ts : List TypeId) (args : List AV) : POut :=
  match b, ts, args with
  | .len, t :: _, x :: _ => lenA P t x
  | .cap, t :: _, x :: _ => capA P t x
  | .min, _, [x, y] => minmax true x.int y.int
  | .max, _, [x, y] => minmax false x.int y.int
  | _, _, _ => none
def AV.cellsA : AV → Option (List SV)
  | .one .any => none
  | .one s => some [s]
  | .agg l => some l
  | .tup _ => none
def fillA (place : Nat → Option (Nat × Nat)) (cells : List SV) : List (Nat × AV) → Option (List SV)
  | [] => some cells
  | (i, v) :: rest =>
    match place i, v.cellsA with
    | some (off, sz), some cs =>
      match Nat.beq cs.length sz && decide (off + sz ≤ cells.length) with
      | true => fillA place (cells.take off ++ cs ++ cells.drop (off + sz)) rest
      | false => none
    | _, _ => none
def zeroA (P : Program) (t : TypeId) : Option (List SV) :=
  match P.info? t with
  | some i => match i.zero with
    | some z => some (z.cells.toList.map absS)
    | none => none
  | none => none
def fieldPlaceA (P : Program) (fs : Array Field) (i : Nat) : Option (Nat × Nat) := (fs[i]?).bind fun f => (sizeA P f.type).map fun n => (f.offset, n)
def buildA (P : Program) (t : TypeId) (parts : List (Nat × AV)) : POut :=
  match P.underlying t, zeroA P t with
  | some (.struct fs), some z =>
    match fillA (fieldPlaceA P fs) z parts with
    | some l => match (fs.all fun f => (sizeA P f.type).isSome) with | true => some ([], .agg l) | false => none
    | none => none
  | some (.array _ e), some z =>
    match sizeA P e with
    | some sz => match fillA (fun i => some (i * sz, sz)) z parts with
      | some l => some ([], .agg l)
      | none => none
    | none => none
  | _, _ => none
def externA (C : Cfg) (f : AV) (args : List AV) : POut :=
  match C.ex with
  | [] => none
  | ex => match f with
    | .one (.fn g []) => match assoc ex g with
      | some F => F args
      | none => none
    | _ => none
def pureOp0 (C : Cfg) (o : Oper) (tm : TM) (mem : Mem) : POut :=
  match o.op with
  | .move x => some ([], ev C tm x)
  | .assign x => some ([], ev C tm x)
  | .pick c a b => pickA (ev C tm c) (ev C tm a) (ev C tm b)
  | .load t x => loadA C.P mem t (ev C tm x)
  | .nilCheck x => nilCheckA (ev C tm x)
  | .binOp op t x y _ => binA C.P op t (ev C tm x) (ev C tm y)
  | .unOp op _ x => unA op (ev C tm x)
  | .convert s d x => convA C.P s d (ev C tm x)
  | .sliceToArrayPointer t x => toArrPtrA C.P t (ev C tm x)
  | .slice t x lo hi mx => sliceA C.P t (ev C tm x) (lo.map (ev C tm)) (hi.map (ev C tm)) (mx.map (ev C tm))
  | .fieldAddr t x f => fieldAddrA C.P t (ev C tm x) f
  | .field t x f => fieldA C.P t (ev C tm x) f
  | .indexAddr t x ix => indexAddrA C.P t (ev C tm x) (ev C tm ix)
  | .index t x ix => indexA C.P t (ev C tm x) (ev C tm ix)
  | .extract t i => extractA (ev C tm t) i
  | .makeFunc fn first caps => makeFuncA fn (first.toList.map (ev C tm)) (caps.toList.map (ev C tm))
  | .build t parts => buildA C.P t (parts.toList.map fun p => (p.1, ev C tm p.2))
  | .call { callee := .builtin b, args, argTypes } => builtinA C.P b argTypes.toList (args.toList.map (ev C tm))
  | .call { callee := .value f, args, .. } => externA C (ev C tm f) (args.toList.map (ev C tm))
  | _ => none
abbrev MOut := Option (List Cnd × AV × Mem)
def CV.av : CV → AV
  | .p b o => .one (.ptr b o)
  | .r v => absV v
def splice (l : List SV) (o : Nat) (vs : List SV) : List SV := l.take o ++ vs ++ l.drop (o + vs.length)
def storeA (P : Program) (mem : Mem) (t : TypeId) (x v : AV) : MOut :=
  match x, v.cellsA, sizeA P t with
  | .one (.ptr b o), some cs, some n =>
    match Nat.beq cs.length n && cs.all SV.cell with
    | false => none
    | true => match mem.get b with
      | some (.cells ty l) => match decide (o + n ≤ l.length) with
        | true => some ([], .tup [], mem.set b (.cells ty (splice l o cs)))
        | false => none
      | some (.row ty l) => match decide (o + n ≤ l.length) with
        | true => some ([], .tup [], mem.set b (.row ty (splice l o cs)))
        | false => none
      | _ => none
  | _, _, _ => none
def allocA (mem : Mem) (t : TypeId) (cs : List SV) : MOut := some ([], .one (.ptr mem.n 0), mem.push (.cells t cs))
def copyA (P : Program) (mem : Mem) (ts : List TypeId) (args : List AV) : MOut :=
  match ts, args with
  | dt :: _, [.one (.slice b o dl _), .one (.slice b' o' sl _)] =>
    match P.underlying dt with
    | some (.slice e) => match sizeA P e, mem.get b, (mem.get b').bind AB.get? with
      | some 1, some (.cells ty l), some src => match seg src o' (min sl dl) with
        | some cs => match decide (o + cs.length ≤ l.length) with
          | true => some ([], .one (.li .i64 cs.length), mem.set b (.cells ty (splice l o cs)))
          | false => none
        | none => none
      | _, _, _ => none
    | _ => none
  | _, _ => none
def buildSliceA (P : Program) (mem : Mem) (t : TypeId) (len : Nat) (parts : List (Nat × AV)) : MOut :=
  match P.underlying t with
  | some (.slice e) => match sizeA P e, zeroA P e with
    | some sz, some [z] => match Nat.beq sz 1 && decide (len ≤ 16777216), fillA (fun i => some (i * 1, 1)) (List.replicate len z) parts with
      | true, some l => some ([], .one (.slice mem.n 0 len len), mem.push (.cells e l))
      | _, _ => none
    | _, _ => none
  | _ => none
def memOp0 (C : Cfg) (o : Oper) (tm : TM) (mem : Mem) : MOut :=
  match o.op with
  | .alloc t => match zeroA C.P t with | some z => allocA mem t z | none => none
  | .box t x => match (ev C tm x).cellsA with | some cs => allocA mem t cs | none => none
  | .store t a v => storeA C.P mem t (ev C tm a) (ev C tm v)
  | .buildSlice t n parts => buildSliceA C.P mem t n (parts.toList.map fun p => (p.1, ev C tm p.2))
  | .call { callee := .builtin .copy, args, argTypes } => copyA C.P mem argTypes.toList (args.toList.map (ev C tm))
  | _ => none
def Mem.pushS (m : Mem) (t : TypeId) (k : IntKind) (L : List Int) : Mem := ⟨m.n + 2, m.t.set m.n (.seq t k L (m.n + 1))⟩
def AV.num (x : AV) : Option (IntKind × Int) := match x.int with
  | .l k n => some (k, n)
  | .s k n => some (k, n)
  | .no => none
def forceT {β : Type} : List Int → (List Int → β) → β
  | [], k => k []
  | a :: l, k => forceT l fun l' => k (a :: l')
def forceL {β : Type} (lit : Bool) (L : List Int) (k : List Int → β) : β := match lit with
  | false => k L
  | true => forceT L k
theorem forceT_eq {β : Type} : ∀ (L : List Int) (k : List Int → β), forceT L k = k L
  | [], _ => rfl
  | a :: l, k => forceT_eq l fun l' => k (a :: l')
theorem forceL_eq {β : Type} (lit : Bool) (L : List Int) (k : List Int → β) : forceL lit L k = k L := by
  cases lit
  · rfl
  · exact forceT_eq L k
def storeQ (lit : Bool) (P : Program) (mem : Mem) (t : TypeId) (x v : AV) : MOut :=
  match sizeA P t, v.num with
  | some sz, some (k, n) => match Nat.beq sz 1 with
    | true => match x with
      | .one (.ptrS b e) => match mem.get b with
        | some (.seq t' k' L g) => match kEq k k' with | true => forceL lit (L.set e.toNat n) fun R => some ([0 ≤ e, e < (L.length : Int)], .tup [], mem.set b (.seq t' k' R g)) | false => none
        | _ => none
      | .one (.ptr b o) => match mem.get b with
        | some (.seq t' k' L g) => match kEq k k' with | true => forceL lit (L.set (o : Int).toNat n) fun R => some ([0 ≤ (o : Int), (o : Int) < (L.length : Int)], .tup [], mem.set b (.seq t' k' R g)) | false => none
        | _ => none
      | _ => none
    | false => none
  | _, _ => none
def storeC (cp lit : Bool) (P : Program) (mem : Mem) (t : TypeId) (x v : AV) : MOut :=
  match cp, x with
  | true, .one (.ptrS b e) => match sizeA P t, v.num, mem.get b with
    | some 1, some (k, n), some (.seq t' k' L g) => match mem.get g, kEq k k' with
      | some (.num c), true => forceL lit (L.take e.toNat ++ [n] ++ L.drop (e.toNat + 1)) fun R => some ([0 ≤ e, e ≤ (L.length : Int), e < (c : Int)], .tup [], mem.set b (.seq t' k' R g))
      | _, _ => none
    | _, _, _ => none
  | _, _ => none
def partQ (L : List Int) (o n : Nat) : List Int := match o with | 0 => L.take n | o => (L.drop o).take n
def srcQ (mem : Mem) (k0 : IntKind) (x : AV) : Option (List Cnd × IntKind × List Int) :=
  match x with
  | .one (.sq b _ o n) => match (mem.get b).bind AB.ints? with
    | some (k, L) => some ([o + n ≤ L.length], k, partQ L o n)
    | none => none
  | .one (.slq b o n) => match (mem.get b).bind AB.ints? with
    | some (k, L) => some ([o + n ≤ L.length], k, partQ L o n)
    | none => none
  | .one (.slr b g o n) => match mem.get b with
    | some (.rseq k L g') => match Nat.beq g g' with | true => some ([o + n ≤ L.length], k, partQ L o n) | false => none
    | _ => none
  | .one (.slice b o n _) => match (mem.get b).bind AB.get? with
    | some l => match intsOf k0 l with
      | some es => match decide (o + n ≤ es.length) with | true => some ([], k0, (es.drop o).take n) | false => none
      | none => none
    | none => none
  | .one (.raw (.slice none 0 0)) => some ([], k0, [])
  | .one .e0 => some ([], k0, [])
  | _ => none
def strLit : AV → Option ByteArray
  | .one (.raw (.string s)) => some s
  | _ => none
def bytesOfA (s : ByteArray) : List Int := s.data.toList.map fun b => (b.toNat : Int)
def strOfA : AV → Option (List Int)
  | .one (.st L) => some L
  | .one (.raw (.string s)) => some (bytesOfA s)
  | _ => none
def eqInts : List Int → List Int → Bool
  | [], [] => true
  | a :: as, b :: bs => decide (a = b) && eqInts as bs
  | _, _ => false
def isNilA : AV → Bool
  | .one (.raw (.slice none 0 0)) => true
  | _ => false
def nilOfA : AV → Option Bool
  | .one (.raw (.slice none 0 0)) => some true
  | .one (.slice ..) => some false
  | .one (.slx ..) => some false
  | .one (.sq ..) => some false
  | _ => none
def ptrNilA : AV → Option Bool
  | .one (.raw (.pointer none)) => some true
  | .one (.ptr ..) => some false
  | _ => none
def isNullA : AV → Bool
  | .one (.raw (.pointer none)) => true
  | _ => false
def eqB (op : BinOp) (r : Bool) : Option Bool := match op with
  | .eql => some r
  | .neq => some (!r)
  | _ => none
def zeroI (P : Program) (t : TypeId) : Option (IntKind × Int) :=
  match P.info? t with
  | some i => match i.zero with
    | some (.int k z) => some (k, z)
    | _ => none
  | none => none
def lookM : List (Int × Int) → Int → Int
  | [], _ => 0
  | p :: es, n => iteI (decide (n = p.1)) p.2 (lookM es n)
def strOp (C : Cfg) (o : Oper) (tm : TM) (mem : Mem) : POut :=
  match o.op with
  | .convert s d x => match C.P.underlying s, C.P.underlying d with
    | some (.slice e), some .string => match C.P.underlying e, srcQ mem .u8 (ev C tm x) with
      | some (.int .u8), some (ps, .u8, M) => some (ps, .one (.st M))
      | _, _ => none
    | _, _ => none
  | .binOp op t x y _ => match strLit (ev C tm x), strLit (ev C tm y) with
    | some a, some b => match eqB op (eqInts (bytesOfA a) (bytesOfA b)) with | some r => some ([], .one (.lb r)) | none => none
    | _, _ => match strOfA (ev C tm x), strOfA (ev C tm y) with
      | some L, some M => match eqB op (decide (L = M)) with | some r => some ([], .one (.sb r)) | none => none
      | _, _ => match C.P.underlying t, nilOfA (ev C tm x), isNilA (ev C tm y) with
        | some (.slice _), some b, true => match eqB op b with | some r => some ([], .one (.lb r)) | none => none
        | some (.pointer _), _, _ => match ptrNilA (ev C tm x), isNullA (ev C tm y) with
          | some b, true => match eqB op b with | some r => some ([], .one (.lb r)) | none => none
          | _, _ => none
        | _, _, _ => none
  | .call { callee := .builtin .len, args, argTypes } => match args.toList, argTypes.toList with
    | [x], [t] => match strLit (ev C tm x), C.P.underlying t with
      | some s, some .string => match decide (s.size ≤ 9223372036854775807) with | true => some ([], .one (.li .i64 s.size)) | false => none
      | _, _ => none
    | _, _ => none
  | .lookup t x key false => match C.P.underlying t, ev C tm x, (ev C tm key).num with
    | some (.map kt vt), .one (.mp b), some (k, n) => match C.P.underlying kt, zeroI C.P vt, mem.get b with
      | some (.int k1), some (kv1, z), some (.mp k' kv es) => match kEq k k' && kEq k1 k' && kEq kv1 kv && decide (z = 0) with
        | true => some ([], .one (.si kv (lookM es n)))
        | false => none
      | _, _, _ => none
    | _, _, _ => none
  | .index t x ix => match strLit (ev C tm x), C.P.underlying t, (ev C tm ix).int with
    | some s, some .string, .l _ i => match decide (0 ≤ i), s.data.toList[i.toNat]? with
      | true, some b => some ([], .one (.li .u8 b.toNat))
      | _, _ => none
    | _, _, _ => none
  | _ => none
def closedS : SV → Option Value
  | .li k n => some (.int k n)
  | .lb b => some (.bool b)
  | _ => none
def closedSs : List SV → Option (List Value)
  | [] => some []
  | s :: l => match closedS s, closedSs l with | some v, some vs => some (v :: vs) | _, _ => none
def closedA : AV → Option Value
  | .one s => closedS s
  | .agg l => match closedSs l with | some vs => some (.agg vs.toArray) | none => none
  | .tup _ => none
def isNilC : Operand → Bool
  | .const .nilIface => true
  | _ => false
def ifaceOp (C : Cfg) (o : Oper) (tm : TM) : POut :=
  match o.op with
  | .makeInterface t x => match closedA (ev C tm x), C.P.underlying t with
    | some _, some (.interface _) => none
    | some v, some _ => some ([], .one (.raw (.iface t v)))
    | _, _ => none
  | .binOp op t x y _ => match isNilC y, ev C tm x, C.P.underlying t with
    | true, .one (.raw (.iface _ _)), some (.interface _) => match eqB op false with | some r => some ([], .one (.lb r)) | none => none
    | true, .one (.raw .nilIface), some (.interface _) => match eqB op true with | some r => some ([], .one (.lb r)) | none => none
    | _, _, _ => none
  | _ => none
def ivGet : List (TypeId × String × (Value → Option (Nat × AV))) → TypeId → String → Option (Value → Option (Nat × AV))
  | [], _, _ => none
  | p :: l, t, nm => match Nat.beq p.1 t && decide (p.2.1 = nm) with | true => some p.2.2 | false => ivGet l t nm
def invA (C : Cfg) (x : AV) (nm : String) : Option (Nat × AV) := match x with
  | .one (.raw (.iface t v)) => match ivGet C.iv t nm with
    | some F => F v
    | none => none
  | _ => none
def calleeO (C : Cfg) (o : Oper) (tm : TM) : Option (Nat × List AV) := match o.op with
  | .call { callee := .value f, args, .. } => match ev C tm f with
    | .one (.fn g caps) => some (g, args.toList.map (ev C tm) ++ caps.map CV.av)
    | _ => none
  | .call { callee := .invoke x nm, args, .. } => match invA C (ev C tm x) nm with
    | some (g, r) => some (g, r :: args.toList.map (ev C tm))
    | none => none
  | _ => none
def litOf : AV → AV
  | .one (.si k n) => .one (.li k n)
  | v => v
def isLen (o : Oper) : Bool := match o.op with
  | .call { callee := .builtin .len, .. } => true
  | _ => false
def roomA (mem : Mem) (b g : Nat) : Option Nat :=
  match mem.get g with
  | some (.num c) => some c
  | _ => match mem.get b with
    | some (.seq _ _ L g') => match Nat.beq g g' with | true => some L.length | false => none
    | _ => none
def capOp (C : Cfg) (o : Oper) (tm : TM) (mem : Mem) : POut :=
  match C.cp with
  | false => none
  | true => match o.op with
    | .slice t x lo hi none => match C.P.underlying t, ev C tm x with
      | some (.slice e), .one (.sq b g o n) => match sizeA C.P e, roomA mem b g, bndI 0 (lo.map (ev C tm)), bndI (n : Int) (hi.map (ev C tm)) with
        | some sz, some c, some l, some h => match Nat.beq sz 1 with
          | true => some ([0 ≤ l, l ≤ h, h ≤ (c : Int) - (o : Int)], .one (.sq b g (offQ o (lo.map (ev C tm)) l) (lenQ (lo.map (ev C tm)) l h)))
          | false => none
        | _, _, _, _ => none
      | _, _ => none
    | .call { callee := .builtin .cap, args, argTypes } => match args.toList, argTypes.toList with
      | [x], [t] => match C.P.underlying t, ev C tm x with
        | some (.slice _), .one (.sq _ g o _) => match mem.get g with
          | some (.num c) => some ([o ≤ c], .one (.si .i64 ((c : Int) - (o : Int))))
          | _ => none
        | some (.slice _), .one (.raw (.slice none 0 0)) => some ([], .one (.li .i64 0))
        | _, _ => none
      | _, _ => none
    | _ => none
def pureOp1 (C : Cfg) (o : Oper) (tm : TM) (mem : Mem) : POut :=
  match capOp C o tm mem with
  | some r => some r
  | none => pureOp0 C o tm mem
def pureOp (C : Cfg) (o : Oper) (tm : TM) (mem : Mem) : POut :=
  match pureOp1 C o tm mem with
  | some (ps, v) => some (ps, match C.lit && isLen o with | true => litOf v | false => v)
  | none => match ifaceOp C o tm with
    | some r => some r
    | none => strOp C o tm mem
def lenSym : AV → Option Nat
  | .one (.sq _ _ _ n) => some n
  | .one (.slq _ _ n) => some n
  | .one (.slr _ _ _ n) => some n
  | _ => none
def noRoom : AV → Bool
  | .one (.raw (.slice none 0 0)) => true
  | .one .e0 => true
  | .one (.slice _ _ 0 0) => true
  | _ => false
def forkO (C : Cfg) (o : Oper) (tm : TM) : Option (Bool × List AV × Option AV) :=
  match o.op with
  | .binOp op t x y _ => match C.P.underlying t, isNilA (ev C tm y), ev C tm x, eqB op false with
    | some (.slice _), true, .one (.slq _ _ n), some r => some (decide (n = 0), [.one (.lb true), .one (.lb false)], some (.one (.lb r)))
    | some (.slice _), true, .one (.slr _ _ _ n), some r => some (decide (n = 0), [.one (.lb true), .one (.lb false)], some (.one (.lb r)))
    | some (.slice _), true, .one .e0, some _ => some (true, [.one (.lb true), .one (.lb false)], none)
    | _, _, _, _ => none
  | .call { callee := .builtin .append, args, argTypes } => match args.toList, argTypes.toList with
    | [x, y], [t, t'] => match noRoom (ev C tm x), lenSym (ev C tm y), C.P.underlying t, Nat.beq t t' with
      | true, some n, some (.slice e), true => match sizeA C.P e with
        | some 1 => some (decide (n = 0), [ev C tm x], none)
        | _ => none
      | _, _, _, _ => none
    | _, _ => none
  | _ => none
def bothAll : List Out → Out
  | [] => .bad 50
  | [o] => o
  | o :: os => .both o (bothAll os)
def elemQ (P : Program) (t : TypeId) : Option (TypeId × IntKind × Nat) :=
  match P.underlying t with
  | some (.slice e) => match P.underlying e, sizeA P e, zeroA P e, P.info? e with
    | some (.int k), some sz, some [.li k' z], some i => match Nat.beq sz 1 && kEq k k' && decide (z = 0) with
      | true => some (e, k, i.bytes)
      | false => none
    | _, _, _, _ => none
  | _ => none
def dstQ (mem : Mem) (e : TypeId) (k : IntKind) (x : AV) : Option (List Cnd × List Int × Option Nat) :=
  match x with
  | .one (.raw (.slice none 0 0)) => some ([], [], none)
  | .one .e0 => some ([], [], none)
  | .one (.sq b g o n) => match mem.get b with
    | some (.seq t k' L g') => match Nat.beq o 0 && kEq k k' && Nat.beq t e && Nat.beq g g' with | true => some ([n = L.length], L, some b) | false => none
    | _ => none
  | .one (.slice b o n c) => match mem.get b with
    | some (.cells t l) => match intsOf k l with
      | some es => match Nat.beq o 0 && Nat.beq t e && Nat.beq n es.length && Nat.beq c es.length with | true => some ([], es, some b) | false => none
      | none => none
    | _ => none
  | _ => none
def Mem.leave (m : Mem) : Option Nat → Mem
  | some b => m.set b .gone
  | none => m
def appendQ (lit : Bool) (P : Program) (mem : Mem) (ts : List TypeId) (args : List AV) : MOut :=
  match ts, args with
  | [dt, st], [x, y] => match Nat.beq dt st, elemQ P dt with
    | true, some (e, k, by8) => match dstQ mem e k x, srcQ mem k y with
      | some (ps, L, left), some (qs, k', M) => match kEq k k' with
        | true => forceL lit (L ++ M) fun R => some (ps ++ qs ++ ([match left with | some _ => ↑True | none => ↑(0 < M.length), ↑(R.length ≤ 140737488355328 ∧ R.length * by8 ≤ 140737488355328)] : List Cnd), .one (.sq mem.n (mem.n + 1) 0 R.length), (mem.leave left).pushS e k R)
        | false => none
      | _, _ => none
    | _, _ => none
  | _, _ => none
def makeQ (lit : Bool) (P : Program) (mem : Mem) (t : TypeId) (n c : AV) : MOut :=
  match elemQ P t, n.num, c.num with
  | some (e, k, by8), some (.i64, l), some (.i64, cc) => forceL lit (List.replicate l.toNat 0) fun R => some ([0 ≤ l, l ≤ cc, by8 * cc ≤ 140737488355328, cc ≤ 9223372036854775807], .one (.sq mem.n (mem.n + 1) 0 l.toNat), mem.pushS e k R)
  | _, _, _ => none
def srcS (mem : Mem) (k0 : IntKind) (x : AV) : Option (List Cnd × IntKind × List Int) :=
  match x with
  | .one (.raw (.string s)) => some ([], .u8, bytesI s)
  | x => srcQ mem k0 x
def appendZ (lit : Bool) (P : Program) (mem : Mem) (ts : List TypeId) (args : List AV) : MOut :=
  match ts, args with
  | [dt, nt], [.one (.raw (.slice none 0 0)), y] => match elemQ P dt, P.underlying nt, y.num with
    | some (e, k, by8), some (.int _), some (_, c) => forceL lit (List.replicate c.toNat 0) fun R => some ([0 < c, c ≤ 9223372036854775807, by8 * c ≤ 140737488355328], .one (.sq mem.n (mem.n + 1) 0 c.toNat), mem.pushS e k R)
    | _, _, _ => none
  | _, _ => none
def copyQ (cp lit : Bool) (P : Program) (mem : Mem) (ts : List TypeId) (args : List AV) : MOut :=
  match ts, args with
  | dt :: _, [.one (.sq b g o n), y] => match elemQ P dt, mem.get b with
    | some (_, k, _), some (.seq t k' L g') => match srcS mem k y with
      | some (qs, k'', M) => match kEq k k' && kEq k k'' && (!cp || Nat.beq g g') with
        | true => forceL lit (L.take o ++ M.take n ++ L.drop (o + min M.length n)) fun R => some (qs ++ ([match cp with | true => ↑(o ≤ L.length) | false => ↑(o + n ≤ L.length), ↑(M.length ≤ 9223372036854775807)] : List Cnd), .one (.si .i64 (min M.length n : Nat)), mem.set b (.seq t k' R g'))
        | false => none
      | none => none
    | _, _ => none
  | dt :: _, [.one (.slice b o dl _), y] => match elemQ P dt, mem.get b with
    | some (_, k, _), some (.cells t l) => match srcS mem k y with
      | some (qs, k'', M) => match kEq k k'' && decide (o + dl ≤ l.length) with
        | true => forceL lit (M.take dl) fun R => some (qs ++ ([↑(M.length ≤ 9223372036854775807)] : List Cnd), .one (.si .i64 (min M.length dl : Nat)), mem.set b (.cells t (splice l o (R.map (.si k)))))
        | false => none
      | none => none
    | _, _ => none
  | _, _ => none
def seqOp (C : Cfg) (o : Oper) (tm : TM) (mem : Mem) : MOut :=
  match o.op with
  | .store t a v => match storeC C.cp C.lit C.P mem t (ev C tm a) (ev C tm v) with
    | some r => some r
    | none => storeQ C.lit C.P mem t (ev C tm a) (ev C tm v)
  | .makeSlice t n c => makeQ C.lit C.P mem t (ev C tm n) (ev C tm c)
  | .call { callee := .builtin .append, args, argTypes } => match appendQ C.lit C.P mem argTypes.toList (args.toList.map (ev C tm)) with
    | some r => some r
    | none => appendZ C.lit C.P mem argTypes.toList (args.toList.map (ev C tm))
  | .call { callee := .builtin .copy, args, argTypes } => copyQ C.cp C.lit C.P mem argTypes.toList (args.toList.map (ev C tm))
  | _ => none
def mapOp (C : Cfg) (o : Oper) (tm : TM) (mem : Mem) : MOut :=
  match o.op with
  | .makeMap t none => match C.P.underlying t with
    | some (.map kt vt) => match C.P.underlying kt, C.P.underlying vt with
      | some (.int k), some (.int kv) => some ([], .one (.mp mem.n), mem.push (.mp k kv []))
      | _, _ => none
    | _ => none
  | .convert s d x => match C.P.underlying s, Nat.beq s d, ev C tm x with
    | some (.slice e), true, .one (.slice b o n c) => match C.P.underlying e, mem.get b with
      | some (.int .u8), some (.cells t l) => some ([], .one (.slice b o n c), mem.set b (.fz t l))
      | _, _ => none
    | _, _, _ => none
  | .mapUpdate t x key v => match C.P.underlying t, ev C tm x, (ev C tm key).num, (ev C tm v).num with
    | some (.map kt _), .one (.mp b), some (k, n), some (kv, e) => match C.P.underlying kt, mem.get b with
      | some (.int k1), some (.mp k' kv' es) => match kEq k k' && kEq k1 k' && kEq kv kv' && es.all fun p => !(decide (n = p.1)) with
        | true => some ([], .tup [], mem.set b (.mp k' kv' (es ++ [(n, e)])))
        | false => none
      | _, _ => none
    | _, _, _, _ => none
  | _ => none
def memOp (C : Cfg) (o : Oper) (tm : TM) (mem : Mem) : MOut :=
  match memOp0 C o tm mem with
  | some r => some r
  | none => match seqOp C o tm mem with
    | some r => some r
    | none => mapOp C o tm mem
def AE.conc : AE → Exit
  | .normal => .normal
  | .exit id => .exit id
  | .goto l => .goto l
  | .ret => .ret
  | .panic v => .panic [{ v, recovered := false }]
def Out.sat (K : AV → Mem → Prop) : Out → Prop
  | .bad _ => False
  | .need p o => p ∧ o.sat K
  | .br c t f => (c = true → t.sat K) ∧ (c = false → f.sat K)
  | .both a b => a.sat K ∧ b.sat K
  | .done v m => K v m
def needs (lit : Bool) : List Cnd → Out → Out
  | [], o => o
  | c :: cs, o => match lit with
    | false => .need c.p (needs lit cs o)
    | true => match c.b with
      | true => needs lit cs o
      | false => .need c.p (needs lit cs o)
def putA (tm : TM) (d : Option Tmp) (v : AV) : TM :=
  match d with
  | some t => tm.set t v
  | none => tm
def guarded (all : List Oper) (o : Oper) (tm : TM) (yes no : TM → Out) : Out :=
  match o.guard with
  | none => yes tm
  | some (j, want) =>
    match (all[j]?).bind (·.dst) with
    | some t => match (tm.get t).bool with
      | .l x => match x == want with | true => yes tm | false => no tm
      | .s x => match want with
        | true => .br x (yes (tm.set t (.one (.lb true)))) (no (tm.set t (.one (.lb false))))
        | false => .br x (no (tm.set t (.one (.lb true)))) (yes (tm.set t (.one (.lb false))))
      | .no => match tm.get t with | .tup _ => no tm | _ => .bad 1
    | none => .bad 1
def pickB (C : Cfg) (o : Oper) (tm : TM) : Option (Bool × AV × AV) :=
  match o.op with
  | .pick c a b => match (ev C tm c).bool with
    | .s t => some (t, ev C tm a, ev C tm b)
    | _ => none
  | _ => none
def brL (lit c : Bool) (x y : Out) : Out := match lit with
  | true => match c with | true => x | false => y
  | false => .br c x y
def forked (lit : Bool) (f : Option (Bool × List AV × Option AV)) (go : AV → Out) (plain : Out) : Out := match f with
  | some (t, l, some v) => brL lit t (bothAll (l.map go)) (go v)
  | some (t, l, none) => brL lit t (bothAll (l.map go)) plain
  | none => plain
inductive Tgt where
  | fn (g : Nat)
  | yl (l : Nat)
abbrev CallK := Tgt → List AV → Mem → (AV → Mem → Out) → (Value → Mem → Out) → Out
def isNo : AI → Bool
  | .no => true
  | _ => false
def isEqOp : BinOp → Bool
  | .eql => true
  | .neq => true
  | _ => false
def flatEq : Option TypeDesc → Bool
  | some (.slice _) => true
  | some .bool => true
  | some .string => true
  | _ => false
def opFine (C : Cfg) (tm : TM) (o : Oper) : Bool :=
  match C.lvl with
  | 0 => true
  | l + 1 => match o.op with
    | .move _ => true
    | .assign _ => true
    | .pick _ _ _ => true
    | .alloc _ => true
    | .box _ _ => true
    | .build _ _ => true
    | .buildSlice _ _ _ => true
    | .load _ _ => true
    | .store _ _ _ => true
    | .unOp _ _ _ => true
    | .sliceToArrayPointer _ _ => true
    | .makeFunc _ _ _ => true
    | .makeSlice _ _ _ => true
    | .slice _ _ _ _ _ => true
    | .field _ _ _ => true
    | .indexAddr _ _ _ => true
    | .index _ _ _ => true
    | .extract _ _ => true
    | .makeInterface _ _ => true
    | .makeMap _ _ => true
    | .nilCheck x => match ev C tm x with
      | .one (.ptr _ _) => true
      | .one (.ptrS _ _) => true
      | .one (.ptrR _ _ _) => true
      | .one (.fn _ _) => true
      | _ => false
    | .binOp op t x y _ => match isNo (ev C tm x).int, isNo (ev C tm y).int with
      | false, false => true
      | _, _ => match l with
        | 0 => isEqOp op
        | _ => isEqOp op && flatEq (C.P.underlying t)
    | .convert s d x => match (ev C tm x).int, C.P.underlying d with
      | .no, _ => match l, C.P.underlying s, C.P.underlying d with
        | 0, some (.slice _), some .string => true
        | 0, some (.slice _), some (.slice _) => match ev C tm x with | .one (.slice _ _ _ _) => true | _ => false
        | _, _, _ => false
      | _, some (.int _) => true
      | _, _ => false
    | .fieldAddr t _ f => match l with
      | 0 => true
      | _ => match C.P.underlying t with
        | some (.struct fs) => match (fs[f]?).bind fun fd => sizeA C.P fd.type with
          | some (_ + 1) => true
          | _ => false
        | _ => false
    | .lookup _ _ _ _ => match l with | 0 => true | _ => false
    | .mapUpdate _ _ _ _ => match l with | 0 => true | _ => false
    | .panic x => match ev C tm x with
      | .one (.raw (.iface _ _)) => true
      | _ => false
    | .defer c => match c.callee with
      | .value f => match ev C tm f with
        | .one (.fn _ _) => true
        | _ => false
      | _ => false
    | .call c => match c.callee with
      | .builtin .append => true
      | .builtin .copy => true
      | .builtin .len => true
      | .builtin .cap => true
      | .builtin .min => true
      | .builtin .max => true
      | .value f => match ev C tm f with
        | .one (.fn _ _) => true
        | .one (.yl _) => true
        | _ => false
      | _ => false
    | _ => false
def plainOp (C : Cfg) (call : CallK) (o : Oper) (tm : TM) (mem : Mem) (k : AE → TM → Mem → Out) (next : TM → AV → Mem → Out) : Out :=
  match pureOp C o tm mem with
  | some (ps, v) => needs C.lit ps (next tm v mem)
  | none => match memOp C o tm mem with
    | some (ps, v, mem') => needs C.lit ps (next tm v mem')
    | none => match o.op with
      | .call { callee := .value f, args, .. } => match ev C tm f with
        | .one (.fn g caps) => call (.fn g) (args.toList.map (ev C tm) ++ caps.map CV.av) mem (fun v mem' => next tm v mem') (fun v mem' => k (.panic v) tm mem')
        | .one (.yl l) => call (.yl l) (args.toList.map (ev C tm)) mem (fun v mem' => next tm v mem') (fun v mem' => k (.panic v) tm mem')
        | .one (.fnb g b o) => call (.fn g) (.one (.ptr b o) :: args.toList.map (ev C tm)) mem (fun v mem' => next tm v mem') (fun v mem' => k (.panic v) tm mem')
        | _ => .bad 2
      | .call { callee := .invoke x nm, args, .. } => match invA C (ev C tm x) nm with
        | some (g, r) => call (.fn g) (r :: args.toList.map (ev C tm)) mem (fun v mem' => next tm v mem') (fun v mem' => k (.panic v) tm mem')
        | none => .bad 2
      | .panic x => match ev C tm x with
        | .one (.raw (.iface t v)) => k (.panic (.iface t v)) tm mem
        | _ => .bad 61
      | .defer { callee := .value f, args, .. } => match ev C tm f with
        | .one (.fn g caps) => next ⟨tm.sz, tm.t, .call g (args.toList.map (ev C tm) ++ caps.map CV.av) :: tm.df⟩ (.tup []) mem
        | _ => .bad 62
      | _ => .bad 3
def runOps (C : Cfg) (call : CallK) (all : List Oper) : List Oper → TM → Mem → (AE → TM → Mem → Out) → Out
  | [], tm, mem, k => k .normal tm mem
  | o :: rest, tm, mem, k =>
    guarded all o tm
      (fun tm => match opFine C tm o with
      | false => .bad 60
      | true => match pickB C o tm with
        | some (t, a, b) => .br t (runOps C call all rest (putA tm o.dst a) mem k) (runOps C call all rest (putA tm o.dst b) mem k)
        | none => forked C.lit (forkO C o tm) (fun v => runOps C call all rest (putA tm o.dst v) mem k) (plainOp C call o tm mem k fun tm v mem' => runOps C call all rest (putA tm o.dst v) mem' k))
      (fun tm => runOps C call all rest (putA tm o.dst (.tup [])) mem k)
def CV.lt (n : Nat) : CV → Bool
  | .p b _ => Nat.blt b n
  | .r _ => true
def SV.lt (n : Nat) : SV → Bool
  | .ptr b _ => Nat.blt b n
  | .ptrS b _ => Nat.blt b n
  | .ptrR b g _ => Nat.blt b n && Nat.blt g n
  | .slice b _ _ _ => Nat.blt b n
  | .slx b _ _ => Nat.blt b n
  | .fn _ caps => caps.all (CV.lt n)
  | .sq b g _ _ => Nat.blt b n && Nat.blt g n
  | .slq b _ _ => Nat.blt b n
  | .slr b g _ _ => Nat.blt b n && Nat.blt g n
  | .mp b => Nat.blt b n
  | .yl b => Nat.blt b n
  | .fnb _ b _ => Nat.blt b n
  | _ => true
def TV.lt (n : Nat) : TV → Bool
  | .one s => s.lt n
  | .agg l => l.all (SV.lt n)
def AV.lt (n : Nat) : AV → Bool
  | .one s => s.lt n
  | .agg l => l.all (SV.lt n)
  | .tup l => l.all (TV.lt n)
def TM.only (tm : TM) : List Nat → Tr AV
  | [] => Tr.mk 10
  | t :: l => match tm.t.get t with
    | some v => (tm.only l).set t v
    | none => tm.only l
def makeOp (C : Cfg) (o : Oper) (tm : TM) : Option (TypeId × List SV) :=
  match o.op with
  | .alloc t => match zeroA C.P t with | some z => some (t, z) | none => none
  | .box t x => match (ev C tm x).cellsA with | some cs => some (t, cs) | none => none
  | _ => none
def inSz (tm : TM) : Option Tmp → Bool
  | some t => Nat.blt t tm.sz
  | none => true
def buildRC (C : Cfg) (o : Oper) (tm : TM) : Option RS := match o.op with
  | .buildSlice t len parts => match buildSliceA C.P Mem.empty t len (parts.toList.map fun p => (p.1, ev C tm p.2)), elemQ C.P t with
    | some (_, _, m), some (_, k, _) => match m.get 0 with
      | some (.cells e l) => match intsOf k l with
        | some L => some (.p (.c (.s e k L)))
        | none => none
      | _ => none
    | _, _ => none
  | _ => none
def makeRC (C : Cfg) (o : Oper) (tm : TM) : Option (List Cnd × RS) := match C.cp with
  | false => none
  | true => match o.op with
    | .makeSlice t n c => match elemQ C.P t, (ev C tm n).num, (ev C tm c).num with
      | some (e, k, by8), some (.i64, l), some (.i64, cc) => some ([0 ≤ l, l ≤ cc, by8 * cc ≤ 140737488355328, cc ≤ 9223372036854775807], .p (.c (.s e k (List.replicate l.toNat 0))))
      | _, _, _ => none
    | _ => none
def sumF (C : Cfg) (g : Nat) : Option (List AV → Mem → Option (List Cnd × RT)) := match C.fs with | [] => none | fs => assoc fs g
def openRun (C : Cfg) (ops : Array Oper) (n0 : Nat) (m0 : Mem) : List Oper → Nat → TM → Mem → (TM → Mem → Out) → Out
  | [], _, tm, mem, k => k tm mem
  | o :: rest, i, tm, mem, k =>
    match inSz tm o.dst with
    | false => .bad 22
    | true =>
      guarded ops.toList o tm
        (fun tm =>
          let tv : TM := ⟨tm.sz, tm.only (o.looksAt ops), tm.df⟩
          match opFine C tv o with
          | false => .bad 60
          | true => match pickB C o tv with
          | some (t, a, b) => .br t (openRun C ops n0 m0 rest (i + 1) (putA tm o.dst a) mem k) (openRun C ops n0 m0 rest (i + 1) (putA tm o.dst b) mem k)
          | none => match pureOp C o tv m0 with
            | some (ps, v) => needs C.lit ps (openRun C ops n0 m0 rest (i + 1) (putA tm o.dst v) mem k)
            | none => match makeOp C o tv with
              | some (t, cs) => match cs.all (SV.lt n0) && Nat.ble (n0 + 4 * i + 4) m0.n with
                | true => openRun C ops n0 m0 rest (i + 1) (putA tm o.dst (.one (.ptr (n0 + 4 * i) 0))) (mem.set (n0 + 4 * i) (.cells t cs)) k
                | false => .bad 21
              | none => match buildRC C o tv with
              | some r => match Nat.ble (widRC r.cells) 4 && Nat.ble (n0 + 4 * i + 4) m0.n with
                | true => openRun C ops n0 m0 rest (i + 1) (putA tm o.dst (r.val (n0 + 4 * i))) ⟨mem.n, putRC (n0 + 4 * i) mem.t r.cells⟩ k
                | false => .bad 24
              | none => match makeRC C o tv with
              | some (ps, r) => match Nat.ble (widRC r.cells) 4 && Nat.ble (n0 + 4 * i + 4) m0.n with
                | true => needs C.lit ps (openRun C ops n0 m0 rest (i + 1) (putA tm o.dst (r.val (n0 + 4 * i))) ⟨mem.n, putRC (n0 + 4 * i) mem.t r.cells⟩ k)
                | false => .bad 24
              | none => match calleeO C o tv with
                | some (g, vs) => match sumF C g with
                    | some F => match F vs m0 with
                      | some (ps, q) => needs C.lit ps (q.bind fun r => match Nat.ble (widRC r.cells) 4 && Nat.ble (n0 + 4 * i + 4) m0.n with
                        | true => openRun C ops n0 m0 rest (i + 1) (putA tm o.dst (r.val (n0 + 4 * i))) ⟨mem.n, putRC (n0 + 4 * i) mem.t r.cells⟩ k
                        | false => .bad 23)
                      | none => .bad 24
                    | none => match assoc C.ps g with
                      | some F => match F vs m0 with
                        | some (ps, v) => match v.lt n0 with | true => needs C.lit ps (openRun C ops n0 m0 rest (i + 1) (putA tm o.dst v) mem k) | false => .bad 5
                        | none => .bad 6
                      | none => .bad 7
                | none => .bad 9)
        (fun tm => openRun C ops n0 m0 rest (i + 1) (putA tm o.dst (.tup [])) mem k)
def makes (C : Cfg) (o : Oper) : Bool := match o.op with
  | .alloc _ => true
  | .box _ _ => true
  | .buildSlice _ _ _ => true
  | .makeSlice _ _ _ => C.cp
  | .call { callee := .value (.func g), .. } => (sumF C g).isSome
  | _ => false
def widthOf (C : Cfg) (ops : Array Oper) (h : Nat) : Nat := match ops.toList.any (makes C) with | true => 4 * h | false => 0
def openB (ops : Array Oper) (n : Nat) : Bool := match Nat.beq n ops.size with | true => Region.lexB .any ops | false => Region.lexTailB .any ops n
def tailAt (ops : Array Oper) : Nat → Nat
  | 0 => 0
  | t + 1 => match Region.waitsFor .any ops (t + 1) t with | true => tailAt ops t | false => t + 1
def headOf (ops : Array Oper) : Nat → Nat → Option Nat
  | 0, _ => none
  | f + 1, h => match openB ops h with | true => some h | false => headOf ops f (h + 1)
def floatB (ops : Array Oper) (i : Nat) : Bool := match ops[i]? with
  | some o => match o.op, o.guard with
    | .move _, none => o.after.all (fun e => !Region.binds .any e) && Region.free .any ops (Array.replicate ops.size false) i
    | _, _ => false
  | none => false
def floats (ops : Array Oper) : Nat → List Nat
  | 0 => []
  | n + 1 => match floatB ops n with | true => n :: floats ops n | false => floats ops n
def edgesTo (F : List Nat) : Array Edge := (F.map fun f => ({ on := f, ground := .data } : Edge)).toArray
def waitF (F : List Nat) (i : Nat) (o : Oper) : Oper := match F.any (Nat.beq i) with | true => o | false => { o with after := o.after ++ edgesTo F }
def afterF (F : List Nat) : Nat → List Oper → List Oper
  | _, [] => []
  | i, o :: l => waitF F i o :: afterF F (i + 1) l
def floated (ops : Array Oper) : Array Oper := (afterF (floats ops ops.size) 0 ops.toList).toArray
def growsB (o : Oper) : Bool := match o.op with
  | .call { callee := .builtin .append, .. } => true
  | .call { callee := .builtin .copy, .. } => true
  | _ => false
def headAt (ops : Array Oper) : Option (Array Oper × Nat × Bool) := match headOf ops (ops.size + 1) (tailAt ops (ops.size - 1)) with
  | some h => match (ops.toList.take h).any growsB && Region.noSelect ops with
    | true => match headOf (floated ops) (ops.size + 1) (tailAt (floated ops) (ops.size - 1)) with
      | some h' => some (floated ops, h', true)
      | none => none
    | false => some (ops, h, false)
  | none => none
def waitStep (ops : Array Oper) (i j : Nat) (W : List Nat) : List Nat :=
  match (match ops[j]? with | some o => o.after.any fun e => Region.binds .any e && (Nat.beq e.on i || W.any (Nat.beq e.on)) | none => false) with
  | true => j :: W
  | false => W
def waitSet (ops : Array Oper) (i : Nat) : Nat → List Nat
  | 0 => []
  | j + 1 => waitStep ops i j (waitSet ops i j)
def backB (ops : Array Oper) : Bool := (List.range ops.size).all fun k => match ops[k]? with | some o => o.after.all fun e => !Region.binds .any e || Nat.blt e.on k | none => true
def pivotB (ops : Array Oper) (k n : Nat) : Bool := ((List.range ops.size).all fun j => Nat.ble j n || (waitSet ops n ops.size).any (Nat.beq j)) && (List.range n).all fun i => Nat.blt i k || (waitSet ops i (n + 1)).any (Nat.beq n)
def segEnd (ops : Array Oper) (k : Nat) : Nat → Nat → Nat
  | 0, _ => ops.size
  | f + 1, n => match Nat.ble ops.size n with
    | true => ops.size
    | false => match pivotB ops k n with | true => n | false => segEnd ops k f (n + 1)
def segB (ops : Array Oper) : Nat → Nat → Array Bool → Bool
  | 0, _, _ => true
  | f + 1, k, listed => (Region.ready .any ops listed).contains k && Region.free .any ops listed k && segB ops f (k + 1) (listed.setIfInBounds k true)
def firstsA (ops : Array Oper) (n : Nat) : Array Bool := ((List.range ops.size).map fun j => Nat.blt j n).toArray
def segPlan (ops : Array Oper) : Nat → Nat → Option (List (Option Nat))
  | 0, _ => none
  | f + 1, k => match Nat.ble ops.size k with
    | true => some []
    | false => match decide (Region.ready .any ops (firstsA ops k) = [k]) with
      | true => (segPlan ops f (k + 1)).map (none :: ·)
      | false => match Nat.blt k (segEnd ops k ops.size (k + 1)) && Nat.ble (segEnd ops k ops.size (k + 1)) ops.size && (Nat.beq (segEnd ops k ops.size (k + 1)) ops.size || pivotB ops k (segEnd ops k ops.size (k + 1))) && segB ops (segEnd ops k ops.size (k + 1) - k) k (firstsA ops k) with
        | true => (segPlan ops f (segEnd ops k ops.size (k + 1))).map (some (segEnd ops k ops.size (k + 1)) :: ·)
        | false => none
def segRun (C : Cfg) (call : CallK) (ops : Array Oper) : List (Option Nat) → Nat → TM → Mem → (AE → TM → Mem → Out) → Out
  | [], _, tm, mem, k => k .normal tm mem
  | none :: l, i, tm, mem, k => runOps C call ops.toList ((ops.toList.drop i).take 1) tm mem fun e tm mem => match e with
    | .normal => segRun C call ops l (i + 1) tm mem k
    | e => k e tm mem
  | some n :: l, i, tm, mem, k => openRun C ops mem.n ⟨mem.n + widthOf C ops n, mem.t⟩ ((ops.toList.drop i).take (n - i)) i tm ⟨mem.n + widthOf C ops n, mem.t⟩ fun tm mem => segRun C call ops l n tm mem k
def wantG (all : List Oper) (o : Oper) (tm : TM) : Option Bool := match o.guard with
  | none => some true
  | some (j, want) => match (all[j]?).bind (·.dst) with
    | some t => match (tm.get t).bool with
      | .l x => some (x == want)
      | _ => match tm.get t with
        | .tup _ => some false
        | _ => none
    | none => none
def splitG (all : List Oper) (tm : TM) : List Nat → Option (Tmp × Bool)
  | [] => none
  | i :: l => match (all[i]?).bind (·.guard) with
    | some (j, _) => match (all[j]?).bind (·.dst) with
      | some t => match (tm.get t).bool with
        | .s x => some (t, x)
        | _ => splitG all tm l
      | none => splitG all tm l
    | none => splitG all tm l
def withG (all : List Oper) (l : List Nat) (tm : TM) (body : TM → Out) : Out := match splitG all tm l with
  | some (t, x) => .br x (body (tm.set t (.one (.lb true)))) (body (tm.set t (.one (.lb false))))
  | none => body tm
def pureFl (C : Cfg) (all : List Oper) (o : Oper) (tm : TM) : Option (List Cnd × AV) := match wantG all o tm, opFine C tm o with
  | some false, _ => some ([], .tup [])
  | some true, true => match o.op with
    | .move x => some ([], ev C tm x)
    | .binOp op t x y _ => match isNo (ev C tm x).int, isNo (ev C tm y).int, binA C.P op t (ev C tm x) (ev C tm y) with
      | false, false, some (ps, v) => match v.det with | true => some (ps, v) | false => none
      | _, _, _ => none
    | .fieldAddr t x f => match ev C tm x, fieldAddrA C.P t (ev C tm x) f with
      | .one (.ptr _ _), some (ps, v) => match v.det with | true => some (ps, v) | false => none
      | _, _ => none
    | _ => none
  | _, _ => none
def pickFl (C : Cfg) (ops : Array Oper) (listed : Array Bool) (tm : TM) : List Nat → Option (Nat × Oper × List Cnd × AV)
  | [] => none
  | i :: l => match ops[i]?, Region.free .any ops listed i with
    | some o, true => match pureFl C ops.toList o tm with
      | some (ps, v) => some (i, o, ps, v)
      | none => pickFl C ops listed tm l
    | _, _ => pickFl C ops listed tm l
def clearT : List Tmp → TM → TM
  | [], tm => tm
  | t :: l, tm => clearT l (tm.set t .any)
def dstsOf (ops : Array Oper) : List Tmp := ops.toList.filterMap (·.dst)
def anyRun (C : Cfg) (call : CallK) (ops : Array Oper) : Nat → Array Bool → TM → Mem → (AE → TM → Mem → Out) → Out
  | 0, listed, tm, mem, k => match Region.ready .any ops listed with
    | [] => k .normal tm mem
    | _ => .bad 71
  | n + 1, listed, tm, mem, k => match Region.ready .any ops listed with
    | [] => k .normal tm mem
    | i :: l => withG ops.toList (i :: l) tm fun tm => match pickFl C ops listed tm (i :: l) with
      | some (i, o, ps, v) => needs C.lit ps (anyRun C call ops n (listed.setIfInBounds i true) (putA tm o.dst v) mem k)
      | none => bothAll ((i :: l).map fun i => runOps C call ops.toList ((ops.toList.drop i).take 1) tm mem fun e tm mem => match e with
        | .normal => anyRun C call ops n (listed.setIfInBounds i true) tm mem k
        | e => k e (clearT (dstsOf ops) tm) mem)
def prefN (ops : Array Oper) : Nat → Nat → Nat
  | 0, i => i
  | f + 1, i => match floatB ops i with | true => prefN ops f (i + 1) | false => i
def prefF (ops : Array Oper) : List Nat := (List.range (prefN ops ops.size 0)).filter fun i => floatB ops i && Nat.blt i ops.size
def partsOps (ops : Array Oper) : Array Oper := (afterF (prefF ops) 0 ops.toList).toArray
def partsAt (ops : Array Oper) : Option (List (Option Nat)) := match Region.noSelect ops && backB (partsOps ops) with
  | true => segPlan (partsOps ops) ((partsOps ops).size + 1) 0
  | false => none
def resA (P : Program) (mem : Mem) (tm : TM) : ResultVar → Option AV
  | .tmp t => some (tm.get t)
  | .cell a t => match loadA P mem t (tm.get a) with | some ([], v) => some v | _ => none
def AV.tv : AV → Option TV
  | .one s => some (.one s)
  | .agg l => some (.agg l)
  | .tup _ => none
def resL (P : Program) (mem : Mem) (tm : TM) : List ResultVar → Option (List TV)
  | [] => some []
  | r :: rest => match (resA P mem tm r).bind AV.tv, resL P mem tm rest with | some v, some l => some (v :: l) | _, _ => none
def resultsA (P : Program) (mem : Mem) (tm : TM) (rs : List ResultVar) : Option AV :=
  match rs with
  | [r] => resA P mem tm r
  | rs => match resL P mem tm rs with | some l => some (.tup l) | none => none
def evalOps (C : Cfg) (ops : Array Oper) (n0 : Nat) (m0 : Mem) : List Oper → TM → Option (List Cnd × TM)
  | [], tm => some ([], tm)
  | o :: rest, tm =>
    match o.guard, inSz tm o.dst with
    | none, true =>
      let tv : TM := ⟨tm.sz, tm.only (o.looksAt ops), tm.df⟩
      match opFine C tv o, pickB C o tv with
      | false, _ => none
      | true, some _ => none
      | true, none => match pureOp C o tv m0 with
        | some (ps, v) => match v.lt n0 with
          | true => match evalOps C ops n0 m0 rest (putA tm o.dst v) with
            | some (qs, tm') => some (ps ++ qs, tm')
            | none => none
          | false => none
        | none => none
    | _, _ => none
def anyAll (tm : TM) : List Oper → TM
  | [] => tm
  | o :: rest => anyAll (putA tm o.dst .any) rest
def mergeA (C : Cfg) (t : Bool) (ops : Array Oper) (tm : TM) (mem : Mem) : Option (List Cnd × TM × Mem) :=
  match headOf ops 1 (ops.size - 1) with
  | some h =>
    match evalOps C ops mem.n mem (ops.toList.take h) tm, ops.toList.drop h with
    | some (ps, tx), [o] =>
      match o.guard, o.dst, o.op with
      | none, none, .store ty a v => match ev C tx a, storeA C.P mem ty (ev C tx a) (ev C tx v), (ev C tx v).int with
        | .one (.ptr b off), some (qs, _, _), .l k x | .one (.ptr b off), some (qs, _, _), .s k x => match mem.get b with
          | some (.cells tt l) => match l[off]? with
            | some old => match (AV.one old).int with
              | .l k' y | .s k' y => match kEq k k' with
                | true => some (ps ++ qs, anyAll tm (ops.toList.take h), mem.set b (.cells tt (l.set off (.si k (iteI t x y)))))
                | false => none
              | .no => none
            | none => none
          | _ => none
        | _, _, _ => none
      | _, _, _ => none
    | _, _ => none
  | none => none
def firstId : Code → Option Nat
  | .region id _ _ => some id
  | .seq a _ => firstId a
  | .block _ a => firstId a
  | .scope a => firstId a
  | _ => none
def loopC (C : Cfg) (body : Code) (tm : TM) (mem : Mem) : Option (Code × Option (List Cnd × AE × TM × Mem)) :=
  match C.lp with
  | [] => none
  | lp => match firstId body with
    | some id => match assoc lp id with
      | some (bd, F) => some (bd, F tm mem)
      | none => none
    | none => none
def loopQ (C : Cfg) (body : Code) : Option (Code × (TM → Mem → Option ((AE → TM → Mem → Out) → Out))) :=
  match C.lq with
  | [] => none
  | lq => match firstId body with
    | some id => assoc lq id
    | none => none
def roundQ (C : Cfg) (body : Code) (tm : TM) (mem : Mem) : Option (Code × ((AE → TM → Mem → Out) → Out)) :=
  match loopQ C body with
  | some (bd, F) => match F tm mem with | some o => some (bd, o) | none => none
  | none => none
def regQ (C : Cfg) (id : Nat) (tm : TM) (mem : Mem) : Option (Array Oper × ((AE → TM → Mem → Out) → Out)) :=
  match C.rq with
  | [] => none
  | rq => match assoc rq id with
    | some (ops, F) => match F tm mem with | some o => some (ops, o) | none => none
    | none => none
def mergeC (C : Cfg) (t : Bool) (x y : Code) (tm : TM) (mem : Mem) : Option (Option (List Cnd × TM × Mem)) :=
  match x, y with
  | .region id ops true, .skip => match C.mg.any (Nat.beq id) with
    | true => some (mergeA C t ops tm mem)
    | false => none
  | _, _ => none
def splits (k : IntKind) (e : Int) (t : Nat) (tm : TM) (go : TM → Out) : List Int → Out
  | [] => .bad 30
  | v :: vs => .br (decide (e = v)) (go (tm.set t (.one (.li k v)))) (splits k e t tm go vs)
def splitAt (C : Cfg) (id : Nat) (tm : TM) (go : TM → Out) : Out :=
  match assoc C.sp id with
  | none => go tm
  | some (t, vs) => match tm.get t with
    | .one (.si k e) => splits k e t tm go vs
    | _ => go tm
def stepO (C : Cfg) (o : Oper) (tm : TM) (mem : Mem) : Option (TM × Mem) := match o.guard, opFine C tm o with
  | none, true => match pureOp C o tm mem with
    | some ([], v) => some (putA tm o.dst v, mem)
    | some _ => none
    | none => match memOp C o tm mem with
      | some ([], v, mem') => some (putA tm o.dst v, mem')
      | _ => none
  | _, _ => none
def goA (C : Cfg) : List Oper → List Bool → TM → Mem → Option (TM × Mem)
  | o :: os, b :: bs, tm, mem => match b with
    | false => goA C os bs tm mem
    | true => match stepO C o tm mem with
      | some s => goA C os bs s.1 s.2
      | none => none
  | _, _, tm, mem => some (tm, mem)
def eqBs : List Bool → List Bool → Bool
  | [], [] => true
  | a :: l, b :: m => (match a with | true => b | false => !b) && eqBs l m
  | _, _ => false
def addD : List (List Bool) → List (List Bool) → List (List Bool)
  | [], l => l
  | d :: ds, l => match l.any (eqBs d) with | true => addD ds l | false => addD ds (d :: l)
def nextD (ops : Array Oper) (D : List Bool) : List (List Bool) := (Region.ready .any ops D.toArray).map fun i => D.set i true
def reachD (ops : Array Oper) : Nat → List (List Bool) → List (List Bool)
  | 0, l => l
  | n + 1, l => l ++ reachD ops n (addD (l.flatMap (nextD ops)) [])
def allD (ops : Array Oper) : List (List Bool) := reachD ops ops.size [List.replicate ops.size false]
def pairsD (ops : Array Oper) : List (List Bool × Nat) := (allD ops).flatMap fun D => (Region.ready .any ops D.toArray).map fun i => (D, i)
def closedD (ops : Array Oper) : Bool := (pairsD ops).all (fun p => (allD ops).any (eqBs (p.1.set p.2 true))) && (allD ops).all fun D => !(Region.ready .any ops D.toArray).isEmpty || D.all id
def Confl (C : Cfg) (ops : Array Oper) (tm : TM) (mem : Mem) : Prop :=
  (closedD ops && (pairsD ops).all fun p => (goA C ops.toList (p.1.set p.2 true) tm mem).isSome) = true ∧
    (pairsD ops).map (fun p => (goA C ops.toList p.1 tm mem).bind fun s => (ops[p.2]?).bind fun o => stepO C o s.1 s.2) = (pairsD ops).map fun p => goA C ops.toList (p.1.set p.2 true) tm mem
inductive Task where
  | run (c : Code)
  | again (body : Code)
  | within (rest body : Code)
def sumQ (C : Cfg) (g : Nat) : Option (List AV → Mem → Option (List Cnd × AV × Mem)) := match C.qs with | [] => none | qs => assoc qs g
def sumB (C : Cfg) (g : Nat) : Option (List AV → Mem → Option ((AV → Mem → Out) → Out)) := match C.qb with | [] => none | qb => assoc qb g
def shutA (C : Cfg) : List DE → Option Value → Mem → (Option Value → Mem → Out) → Out
  | [], pv, mem, k => k pv mem
  | .mark d :: ds, pv, mem, k => match mem.get d with
    | some (.ob .df) => shutA C ds pv (mem.set d .gone) k
    | _ => .bad 51
  | .call g args :: ds, pv, mem, k => match assoc C.dc g with
    | some F => match F pv args mem with
      | some (ps, mem') => needs C.lit ps (shutA C ds none mem' k)
      | none => .bad 63
    | none => .bad 64
  | .raw _ :: _, _, _, _ => .bad 90
def AE.pv : AE → Option (Option Value)
  | .normal => some none
  | .ret => some none
  | .panic v => some (some v)
  | _ => none
def leaveA (C : Cfg) (fn : Func) (k : AV → Mem → Out) (kp : Value → Mem → Out) : AE → TM → Mem → Out := fun e tm mem =>
  match e.pv with
  | some pv => shutA C tm.df pv mem fun pv mem' => match pv with
    | none => match resultsA C.P mem' tm fn.results.toList with
      | some r => k r mem'
      | none => .bad 12
    | some v => kp v mem'
  | none => .bad 13
def setsA : List (Tmp × AV) → TM → TM
  | [], tm => tm
  | p :: l, tm => setsA l (tm.set p.1 p.2)
def endRoundA (l : Nat) (k : AV → Mem → Out) : AE → TM → Mem → Out := fun e _ mem =>
  match mem.get l with
  | some (.ob (.lp _ _ tm0 ps as bd d)) => match e with
    | .normal => k (.one (.lb true)) (mem.set l (.ob (.lp .ready none tm0 ps as bd d)))
    | .ret => k (.one (.lb false)) (mem.set l (.ob (.lp .done (some .ret) tm0 ps as bd d)))
    | .exit id => k (.one (.lb false)) (mem.set l (.ob (.lp .done (some (.exit id)) tm0 ps as bd d)))
    | .goto t => k (.one (.lb false)) (mem.set l (.ob (.lp .done (some (.goto t)) tm0 ps as bd d)))
    | .panic _ => .bad 65
  | _ => .bad 52
def roundA (ex : Code → TM → Mem → (AE → TM → Mem → Out) → Out) (l : Nat) (args : List AV) (mem : Mem) (k : AV → Mem → Out) : Out :=
  match mem.get l with
  | some (.ob (.lp _ _ tm ps as bd _)) => match Nat.beq args.length ps.size && flatC as && flatC bd with
    | true => ex as (setsA (ps.toList.zip args) ⟨tm.sz, tm.t, []⟩) mem fun e tm1 mem1 => match e with
      | .normal => match mem1.get l with
        | some (.ob (.lp .ready pe tm0 ps0 as0 bd0 d)) => ex bd tm1 (mem1.set l (.ob (.lp .busy pe tm0 ps0 as0 bd0 d))) (endRoundA l k)
        | _ => .bad 53
      | _ => .bad 54
    | false => .bad 55
  | _ => .bad 56
def callWith (C : Cfg) (ex : Code → TM → Mem → (AE → TM → Mem → Out) → Out) : CallK
  | .yl l, args, mem, k, _ => roundA ex l args mem k
  | .fn g, args, mem, k, kp =>
  match sumF C g with
  | some F => match F args mem with
    | some (ps, q) => needs C.lit ps (q.bind fun r => k (r.val mem.n) (r.mem mem))
    | none => .bad 42
  | none => match sumQ C g with
  | some F => match F args mem with
    | some (ps, r, mem') => needs C.lit ps (k r mem')
    | none => .bad 41
  | none => match sumB C g with
  | some F => match F args mem with
    | some o => o k
    | none => .bad 40
  | none => match assoc C.ps g with
  | some F => match F args mem with
    | some (ps, r) => match r.det with | true => needs C.lit ps (k r mem) | false => .bad 10
    | none => .bad 11
  | none => match assoc C.fns g with
    | some fn => match fn.body, decide (args.length ≤ fn.ntmps) with
      | some c, true => ex c (TM.enter fn.ntmps args) mem (leaveA C fn k kp)
      | _, _ => .bad 14
    | none => .bad 15
def endLoopA (l d : Nat) (tm : TM) (k : AE → TM → Mem → Out) : AV → Mem → Out := fun _ mem =>
  match mem.get l with
  | some (.ob (.lp .ready none _ _ _ _ _)) => k .normal ⟨tm.sz, tm.t, .mark d :: tm.df⟩ (mem.set l .gone)
  | some (.ob (.lp .done (some .ret) _ _ _ _ _)) => k .ret ⟨tm.sz, tm.t, .mark d :: tm.df⟩ (mem.set l .gone)
  | some (.ob (.lp .done (some (.exit id)) _ _ _ _ _)) => k (.exit id) ⟨tm.sz, tm.t, .mark d :: tm.df⟩ (mem.set l .gone)
  | some (.ob (.lp .done (some (.goto t)) _ _ _ _ _)) => k (.goto t) ⟨tm.sz, tm.t, .mark d :: tm.df⟩ (mem.set l .gone)
  | _ => .bad 57
def exec (C : Cfg) : Nat → Task → TM → Mem → (AE → TM → Mem → Out) → Out
  | 0, _, _, _, _ => .bad 0
  | n + 1, .run c, tm, mem, k =>
    match c with
    | .skip => k .normal tm mem
    | .region id ops false => splitAt C id tm fun tm => runOps C (callWith C fun c => exec C n (.run c)) ops.toList ops.toList tm mem k
    | .region id ops true => splitAt C id tm fun tm =>
      match regQ C id tm mem with
      | some (ops', o) => .need (ops = ops') (o k)
      | none => match C.al.any (Nat.beq id) with
      | true => .need (Confl C ops tm mem) (match goA C ops.toList (List.replicate ops.size true) tm mem with
        | some s => k .normal s.1 s.2
        | none => .bad 70)
      | false => match C.sg.any (Nat.beq id) with
      | true => (match partsAt ops with
        | some pl => segRun C (callWith C fun c => exec C n (.run c)) (partsOps ops) pl 0 tm mem fun e tm mem => (match e with
          | .panic _ => .bad 68
          | e => k e tm mem)
        | none => .bad 17)
      | false => match C.xo.any (Nat.beq id) with
      | true => (match Region.noSelect ops with
        | true => anyRun C (callWith C fun c => exec C n (.run c)) ops ops.size (Array.replicate ops.size false) tm mem k
        | false => .bad 72)
      | false => match headAt ops with
      | some (ops, h, fl) => openRun C ops mem.n ⟨mem.n + widthOf C ops h, mem.t⟩ (ops.toList.take h) 0 tm ⟨mem.n + widthOf C ops h, mem.t⟩ fun tm mem =>
        runOps C (callWith C fun c => exec C n (.run c)) ops.toList (ops.toList.drop h) tm mem fun e tm mem => match fl, e with
          | true, .panic _ => .bad 68
          | _, e => k e tm mem
      | none => .bad 16
    | .seq a b => exec C n (.run a) tm mem fun e tm mem =>
      match e with
      | .normal => exec C n (.run b) tm mem k
      | e => k e tm mem
    | .cond c x y => match (ev C tm c).bool with
      | .l true => exec C n (.run x) tm mem k
      | .l false => exec C n (.run y) tm mem k
      | .s t => match mergeC C t x y tm mem with
        | some (some (ps, tm', mem')) => needs C.lit (ps.map fun c => Cnd.of (t = true → c.p)) (k .normal tm' mem')
        | some none => .bad 33
        | none => .br t (exec C n (.run x) tm mem k) (exec C n (.run y) tm mem k)
      | .no => .bad 17
    | .block id body => exec C n (.run body) tm mem fun e tm mem =>
      match e with
      | .exit id' => match Nat.beq id' id with | true => k .normal tm mem | false => k (.exit id') tm mem
      | e => k e tm mem
    | .loop body => match loopC C body tm mem with
      | some (bd, some (ps, e, tm', mem')) => .need (body = bd) (needs C.lit ps (k e tm' mem'))
      | some (_, none) => .bad 40
      | none => exec C n (.again body) tm mem k
    | .exit id => k (.exit id) tm mem
    | .scope body => exec C n (.within body body) tm mem k
    | .label _ => k .normal tm mem
    | .goto l => k (.goto l) tm mem
    | .ret => k .ret tm mem
    | .rangeFunc g ps as bd => match ev C tm g with
      | .one (.fn f caps) => callWith C (fun c => exec C n (.run c)) (.fn f) (.one (.yl (mem.n + 1)) :: caps.map CV.av) ((mem.push (.ob .df)).push (.ob (.lp .ready none ⟨tm.sz, tm.t, []⟩ ps as bd mem.n))) (endLoopA (mem.n + 1) mem.n tm k) (fun _ _ => .bad 66)
      | _ => .bad 58
    | _ => .bad 18
  | n + 1, .again body, tm, mem, k => match roundQ C body tm mem with
    | some (bd, o) => .need (body = bd) (o k)
    | none => exec C n (.run body) tm mem fun e tm mem =>
      match e with
      | .normal => exec C n (.again body) tm mem k
      | e => k e tm mem
  | n + 1, .within rest body, tm, mem, k => exec C n (.run rest) tm mem fun e tm mem =>
    match e with
    | .goto l => match findLabel body l with
      | some rest' => exec C n (.within rest' body) tm mem k
      | none => .bad 19
    | e => k e tm mem
def keepMem (tell : Bool) (m : Mem) : Mem := match tell with | true => m | false => Mem.empty
def callA (C : Cfg) (tell : Bool) (n : Nat) (fn : Func) (args : List AV) (mem : Mem) : Out :=
  match fn.body, decide (args.length ≤ fn.ntmps) with
  | some c, true => exec C n (.run c) (TM.enter fn.ntmps args) mem (leaveA C fn (fun r mem' => .done r (keepMem tell mem')) fun _ _ => .bad 67)
  | _, _ => .bad 14
end Go.Ax

namespace Go.Ax
open Go Go.RowKit
theorem Tr.get_set_ne {α : Type} (t : Tr α) : ∀ (n m : Nat) (a : α), n ≠ m → (t.set n a).get m = t.get m := by
  induction t with
  | leaf => intro n m a _; rfl
  | node v l r ihl ihr =>
    intro n m a h
    unfold Tr.set
    cases hn : Nat.beq n 0 with
    | true =>
      have hn0 : n = 0 := Nat.eq_of_beq_eq_true hn
      have hm : Nat.beq m 0 = false := by
        cases hm : Nat.beq m 0 with
        | true => have := Nat.eq_of_beq_eq_true hm; omega
        | false => rfl
      simp only [Tr.get, hm]
    | false =>
      have hn0 : n ≠ 0 := fun e => by subst e; cases hn
      cases hb : Nat.beq (n % 2) 1 with
      | true =>
        have hb' := Nat.eq_of_beq_eq_true hb
        simp only [Tr.get]
        cases hm : Nat.beq m 0 with
        | true => rfl
        | false =>
          cases hc : Nat.beq (m % 2) 1 with
          | true => have hc' := Nat.eq_of_beq_eq_true hc; exact ihl _ _ _ (by omega)
          | false => rfl
      | false =>
        have hb' : n % 2 ≠ 1 := fun e => by rw [e] at hb; cases hb
        simp only [Tr.get]
        cases hm : Nat.beq m 0 with
        | true => rfl
        | false =>
          have hm0 : m ≠ 0 := fun e => by subst e; cases hm
          cases hc : Nat.beq (m % 2) 1 with
          | true => rfl
          | false =>
            have hc' : m % 2 ≠ 1 := fun e => by rw [e] at hc; cases hc
            exact ihr _ _ _ (by omega)
theorem Tr.get_set_eq {α : Type} (t : Tr α) : ∀ (n : Nat) (a x : α), (t.set n a).get n = some x → x = a := by
  induction t with
  | leaf => intro n a x h; cases h
  | node v l r ihl ihr =>
    intro n a x h
    unfold Tr.set at h
    cases hn : Nat.beq n 0 with
    | true => simp only [hn, Tr.get] at h; exact (Option.some.inj h).symm
    | false =>
      cases hb : Nat.beq (n % 2) 1 with
      | true => simp only [hn, hb, Tr.get] at h; exact ihl _ _ _ h
      | false => simp only [hn, hb, Tr.get] at h; exact ihr _ _ _ h
theorem Tr.get_mk {α : Type} (d : Nat) : ∀ n, (Tr.mk d : Tr α).get n = none := by
  induction d with
  | zero => intro n; rfl
  | succ d ih =>
    intro n
    simp only [Tr.mk, Tr.get]
    cases Nat.beq n 0 with
    | true => rfl
    | false => cases Nat.beq (n % 2) 1 <;> exact ih _
theorem kEq_iff {a b : IntKind} : kEq a b = true ↔ a = b := by cases a <;> cases b <;> simp [kEq]
theorem kEq_of {a b : IntKind} (h : kEq a b = true) : a = b := kEq_iff.1 h
theorem All2.length {α β : Type} {R : α → β → Prop} : ∀ {l : List α} {m : List β}, All2 R l m → l.length = m.length
  | [], [], _ => rfl
  | _ :: _, _ :: _, h => by simp [All2.length h.2]
  | [], _ :: _, h => h.elim
  | _ :: _, [], h => h.elim
theorem All2.imp {α β : Type} {R S : α → β → Prop} (hi : ∀ a b, R a b → S a b) : ∀ {l : List α} {m : List β}, All2 R l m → All2 S l m
  | [], [], _ => trivial
  | _ :: _, _ :: _, h => ⟨hi _ _ h.1, All2.imp hi h.2⟩
  | [], _ :: _, h => h.elim
  | _ :: _, [], h => h.elim
theorem All2.get {α β : Type} {R : α → β → Prop} : ∀ {l : List α} {m : List β} {i : Nat} {a : α}, All2 R l m → l[i]? = some a → ∃ b, m[i]? = some b ∧ R a b
  | a :: _, b :: _, 0, x, h, hx => by simp at hx; subst hx; exact ⟨b, rfl, h.1⟩
  | _ :: l, _ :: m, i + 1, x, h, hx => by
    simp only [List.getElem?_cons_succ] at hx ⊢
    exact All2.get h.2 hx
  | [], [], i, x, _, hx => by simp at hx
  | [], _ :: _, _, _, h, _ => h.elim
  | _ :: _, [], _, _, h, _ => h.elim
theorem All2.append {α β : Type} {R : α → β → Prop} : ∀ {l : List α} {m : List β} {l' : List α} {m' : List β}, All2 R l m → All2 R l' m' → All2 R (l ++ l') (m ++ m')
  | [], [], _, _, _, h => h
  | _ :: _, _ :: _, _, _, h, h' => ⟨h.1, All2.append h.2 h'⟩
  | [], _ :: _, _, _, h, _ => h.elim
  | _ :: _, [], _, _, h, _ => h.elim
theorem All2.take {α β : Type} {R : α → β → Prop} : ∀ {l : List α} {m : List β} (n : Nat), All2 R l m → All2 R (l.take n) (m.take n)
  | [], [], _, _ => by simp [All2]
  | _ :: _, _ :: _, 0, _ => by simp [All2]
  | _ :: _, _ :: _, n + 1, h => by simp only [List.take_succ_cons]; exact ⟨h.1, All2.take n h.2⟩
  | [], _ :: _, _, h => h.elim
  | _ :: _, [], _, h => h.elim
theorem All2.drop {α β : Type} {R : α → β → Prop} : ∀ {l : List α} {m : List β} (n : Nat), All2 R l m → All2 R (l.drop n) (m.drop n)
  | [], [], _, _ => by simp [All2]
  | _ :: _, _ :: _, 0, h => h
  | _ :: _, _ :: _, n + 1, h => by simp only [List.drop_succ_cons]; exact All2.drop n h.2
  | [], _ :: _, _, h => h.elim
  | _ :: _, [], _, h => h.elim
theorem All2.both {α β γ : Type} {R : α → β → Prop} (f : γ → α) (g : γ → β) (l : List γ) (h : ∀ x ∈ l, R (f x) (g x)) : All2 R (l.map f) (l.map g) := by
  induction l with
  | nil => trivial
  | cons x l ih => exact ⟨h x (by simp), ih fun y hy => h y (by simp [hy])⟩
def Ext (env : Nat → Nat) (m : Nat) (env' : Nat → Nat) (m' : Nat) : Prop := m ≤ m' ∧ ∀ i, i < m → env' i = env i
theorem Ext.refl (env : Nat → Nat) (m : Nat) : Ext env m env m := ⟨Nat.le_refl _, fun _ _ => rfl⟩
theorem Ext.trans {e e' e'' : Nat → Nat} {m m' m'' : Nat} (h : Ext e m e' m') (h' : Ext e' m' e'' m'') : Ext e m e'' m'' :=
  ⟨Nat.le_trans h.1 h'.1, fun i hi => (h'.2 i (Nat.lt_of_lt_of_le hi h.1)).trans (h.2 i hi)⟩
theorem CV.conc_ext {env env' : Nat → Nat} {m m' : Nat} (hx : Ext env m env' m') {c : CV} (h : c.ok m) : c.conc env' = c.conc env := by
  cases c with
  | p b o => simp only [CV.conc]; rw [hx.2 b h]
  | r v => rfl
theorem CV.ok_ext {m m' : Nat} (hx : m ≤ m') {c : CV} (h : c.ok m) : c.ok m' := by
  cases c with
  | p b o => exact Nat.lt_of_lt_of_le h hx
  | r v => trivial
theorem SV.R_ext {env env' : Nat → Nat} {m m' : Nat} (hx : Ext env m env' m') {s : SV} {v : Value} (h : s.R env m v) : s.R env' m' v := by
  cases s with
  | any => trivial
  | li k n => exact h
  | si k n => exact h
  | lb b => exact h
  | sb b => exact h
  | ptr b o => exact ⟨Nat.lt_of_lt_of_le h.1 hx.1, by rw [h.2]; simp only [SV.conc]; rw [hx.2 b h.1]⟩
  | ptrS b o => exact ⟨Nat.lt_of_lt_of_le h.1 hx.1, by rw [h.2]; simp only [SV.conc]; rw [hx.2 b h.1]⟩
  | ptrR b g o => obtain ⟨⟨h1, h2⟩, rfl⟩ := h; exact ⟨⟨Nat.lt_of_lt_of_le h1 hx.1, Nat.lt_of_lt_of_le h2 hx.1⟩, by simp only [SV.conc]; rw [hx.2 b h1, hx.2 g h2]⟩
  | slice b o l c => exact ⟨⟨Nat.lt_of_lt_of_le h.1.1 hx.1, h.1.2⟩, by rw [h.2]; simp only [SV.conc]; rw [hx.2 b h.1.1]⟩
  | slx b o l => obtain ⟨h1, c, h2, h4, h3⟩ := h; exact ⟨Nat.lt_of_lt_of_le h1 hx.1, c, h2, h4, by rw [h3, hx.2 b h1]⟩
  | fn f caps =>
    refine ⟨fun c hc => CV.ok_ext hx.1 (h.1 c hc), ?_⟩
    rw [h.2]
    simp only [SV.conc]
    congr 2
    exact List.map_congr_left fun c hc => (CV.conc_ext hx (h.1 c hc)).symm
  | raw v => exact h
  | sq b g o n =>
    obtain ⟨⟨h1, h2⟩, o', h3, h4, h5, h6⟩ := h
    exact ⟨⟨Nat.lt_of_lt_of_le h1 hx.1, Nat.lt_of_lt_of_le h2 hx.1⟩, o', by rw [hx.2 g h2]; exact h3, by rw [hx.2 g h2]; exact h4, by rw [hx.2 g h2]; exact h5, by rw [hx.2 b h1, hx.2 g h2]; exact h6⟩
  | slr b g o n =>
    obtain ⟨⟨h1, h1'⟩, p, c, h2, h3, h4, h5⟩ := h
    exact ⟨⟨Nat.lt_of_lt_of_le h1 hx.1, Nat.lt_of_lt_of_le h1' hx.1⟩, p, c, h2, h3, h4, by rw [hx.2 b h1, hx.2 g h1']; exact h5⟩
  | slq b o n =>
    obtain ⟨h1, p, c, h2, h3, h4, h5⟩ := h
    exact ⟨Nat.lt_of_lt_of_le h1 hx.1, p, c, h2, h3, h4, by rw [hx.2 b h1]; exact h5⟩
  | e0 => exact h
  | st L => exact h
  | mp b => exact ⟨Nat.lt_of_lt_of_le h.1 hx.1, by rw [h.2]; simp only [SV.conc]; rw [hx.2 b h.1]⟩
  | yl b => exact ⟨Nat.lt_of_lt_of_le h.1 hx.1, by rw [h.2]; simp only [SV.conc]; rw [hx.2 b h.1]⟩
  | fnb f b o => exact ⟨Nat.lt_of_lt_of_le h.1 hx.1, by rw [h.2]; simp only [SV.conc]; rw [hx.2 b h.1]⟩
theorem TV.R_ext {env env' : Nat → Nat} {m m' : Nat} (hx : Ext env m env' m') {s : TV} {v : Value} (h : s.R env m v) : s.R env' m' v := by
  cases s with
  | one s => exact SV.R_ext hx h
  | agg l => obtain ⟨vs, h1, h2⟩ := h; exact ⟨vs, h1, h2.imp fun _ _ => SV.R_ext hx⟩
theorem AV.R_ext {env env' : Nat → Nat} {m m' : Nat} (hx : Ext env m env' m') {s : AV} {v : Value} (h : s.R env m v) : s.R env' m' v := by
  cases s with
  | one s => exact SV.R_ext hx h
  | agg l => obtain ⟨vs, h1, h2⟩ := h; exact ⟨vs, h1, h2.imp fun _ _ => SV.R_ext hx⟩
  | tup l => obtain ⟨vs, h1, h2⟩ := h; exact ⟨vs, h1, h2.imp fun _ _ => TV.R_ext hx⟩
theorem SV.R_conc {env : Nat → Nat} {m : Nat} {s : SV} {v : Value} (h : s.R env m v) (hd : s.det = true) : v = s.conc env := by
  cases s <;> first | (cases hd; done) | exact h.2
theorem SV.oneCell_of_R {env : Nat → Nat} {m : Nat} {s : SV} {v : Value} (h : s.R env m v) (hd : s ≠ .any) : v.oneCell' = true := by
  cases s with
  | any => exact absurd rfl hd
  | slx b o l => obtain ⟨_, c, _, _, rfl⟩ := h; rfl
  | sq b g o n => obtain ⟨_, o', _, _, _, rfl⟩ := h; rfl
  | slq b o n => obtain ⟨_, p, c, _, _, rfl, _⟩ := h; rfl
  | slr b g o n => obtain ⟨_, p, c, _, _, rfl, _⟩ := h; rfl
  | e0 => obtain ⟨_, p, rfl⟩ := h; rfl
  | raw x => rw [h.2]; exact h.1
  | _ => rw [h.2]; rfl
theorem all2_conc {env : Nat → Nat} {m : Nat} : ∀ {l : List SV} {vs : List Value}, All2 (SV.R env m) l vs → l.all SV.det = true → vs = l.map (SV.conc env)
  | [], [], _, _ => rfl
  | s :: l, v :: vs, h, hd => by
    simp only [List.all_cons, Bool.and_eq_true] at hd
    rw [List.map_cons, SV.R_conc h.1 hd.1, all2_conc h.2 hd.2]
  | [], _ :: _, h, _ => h.elim
  | _ :: _, [], h, _ => h.elim
theorem TV.R_conc {env : Nat → Nat} {m : Nat} {s : TV} {v : Value} (h : s.R env m v) (hd : s.det = true) : v = s.conc env := by
  cases s with
  | one s => exact SV.R_conc h hd
  | agg l => obtain ⟨vs, rfl, h2⟩ := h; rw [all2_conc h2 hd]; rfl
theorem all2_concT {env : Nat → Nat} {m : Nat} : ∀ {l : List TV} {vs : List Value}, All2 (TV.R env m) l vs → l.all TV.det = true → vs = l.map (TV.conc env)
  | [], [], _, _ => rfl
  | s :: l, v :: vs, h, hd => by
    simp only [List.all_cons, Bool.and_eq_true] at hd
    rw [List.map_cons, TV.R_conc h.1 hd.1, all2_concT h.2 hd.2]
  | [], _ :: _, h, _ => h.elim
  | _ :: _, [], h, _ => h.elim
theorem AV.R_conc {env : Nat → Nat} {m : Nat} {s : AV} {v : Value} (h : s.R env m v) (hd : s.det = true) : v = s.conc env := by
  cases s with
  | one s => exact SV.R_conc h hd
  | agg l => obtain ⟨vs, rfl, h2⟩ := h; rw [all2_conc h2 hd]; rfl
  | tup l => obtain ⟨vs, rfl, h2⟩ := h; rw [all2_concT h2 hd]; rfl
theorem AV.R_any {env : Nat → Nat} {m : Nat} {v : Value} : AV.any.R env m v := trivial
theorem AV.R_one {env : Nat → Nat} {m : Nat} {s : SV} {v : Value} : (AV.one s).R env m v ↔ s.R env m v := Iff.rfl
theorem absS_R (env : Nat → Nat) (m : Nat) (v : Value) : (absS v).R env m v := by
  cases v with
  | int k n =>
    simp only [absS]
    split
    · rename_i h; simp only [Bool.and_eq_true, decide_eq_true_eq] at h; exact ⟨h, rfl⟩
    · trivial
  | bool b => exact ⟨trivial, rfl⟩
  | agg cs => trivial
  | tuple vs => trivial
  | _ => exact ⟨rfl, rfl⟩
theorem absV_R (env : Nat → Nat) (m : Nat) (v : Value) : (absV v).R env m v := by
  cases v with
  | agg cs =>
    refine ⟨cs.toList, by simp, ?_⟩
    have h := All2.both (R := SV.R env m) absS id cs.toList (fun x _ => absS_R env m x)
    simpa using h
  | tuple vs => trivial
  | _ => exact AV.R_one.2 (absS_R env m _)
theorem CV.av_R {env : Nat → Nat} {m : Nat} {c : CV} (h : c.ok m) : c.av.R env m (c.conc env) := by
  cases c with
  | p b o => exact ⟨h, rfl⟩
  | r v => exact absV_R env m v
def LO.is (env : Nat → Nat) (m : Nat) : LO → Obj → Prop
  | .df, o => o = .deferred (some [])
  | .lp st pe tm ps as bd d, o => ∃ fn tmps, o = .loop { state := st, pending := pe, fn := fn, tmps := tmps, params := ps, assign := as, body := bd, defers := env d } ∧ d < m ∧ tmps.size = tm.sz ∧ ∀ t, (tm.get t).R env m (tmps.getD t undef)
theorem LO.is_ext {env env' : Nat → Nat} {m m' : Nat} (hx : Ext env m env' m') {x : LO} {o : Obj} (h : x.is env m o) : x.is env' m' o := by
  cases x with
  | df => exact h
  | lp st pe tm ps as bd d =>
    obtain ⟨fn, tmps, h1, h2, h3, h4⟩ := h
    exact ⟨fn, tmps, by rw [hx.2 d h2]; exact h1, Nat.lt_of_lt_of_le h2 hx.1, h3, fun t => AV.R_ext hx (h4 t)⟩
def DE.is (env : Nat → Nat) (m : Nat) : DE → Deferred → Prop
  | .mark i, d => d = { target := .collected (env i), args := #[] } ∧ i < m
  | .call g args, d => ∃ caps vals : List Value, d = { target := .fn (.func g) caps.toArray, args := vals.toArray } ∧ All2 (AV.R env m) args (vals ++ caps)
  | .raw x, d => d = x
theorem DE.is_ext {env env' : Nat → Nat} {m m' : Nat} (hx : Ext env m env' m') {x : DE} {d : Deferred} (h : x.is env m d) : x.is env' m' d := by
  cases x with
  | mark i => exact ⟨by rw [hx.2 i h.2]; exact h.1, Nat.lt_of_lt_of_le h.2 hx.1⟩
  | call g args => obtain ⟨caps, vals, h1, h2⟩ := h; exact ⟨caps, vals, h1, h2.imp fun _ _ => AV.R_ext hx⟩
  | raw x => exact h
def Dfs (env : Nat → Nat) (m : Nat) (df : List DE) (ds : List Deferred) : Prop := All2 (DE.is env m) df ds
theorem Dfs.ext {env env' : Nat → Nat} {m m' : Nat} (hx : Ext env m env' m') {df : List DE} {ds : List Deferred} (h : Dfs env m df ds) : Dfs env' m' df ds := All2.imp (fun _ _ => DE.is_ext hx) h
theorem Dfs.nil {env : Nat → Nat} {m : Nat} : Dfs env m [] [] := trivial
def AB.wr : AB → Bool
  | .cells .. => true
  | .row .. => true
  | .seq .. => true
  | .mp .. => true
  | .fz .. => true
  | .ob _ => true
  | _ => false
def AB.R (env : Nat → Nat) (m : Nat) (B : Nat → Prop) (w : World) (b : Nat) : AB → Prop
  | .gone => True
  | .cells t l => ∃ vs : List Value, w.heap[b]? = some (.cells vs.toArray t (0, 0)) ∧ All2 (SV.R env m) l vs ∧ ¬ B b
  | .row t l => ∃ vs rest : List Value, w.heap[b]? = some (.cells (vs ++ rest).toArray t (0, 0)) ∧ All2 (SV.R env m) l vs ∧ ¬ B b
  | .ro l => ∃ (vs rest : List Value) (t : TypeId) (fr : Nat × Nat), w.heap[b]? = some (.cells (vs ++ rest).toArray t fr) ∧ All2 (SV.R env m) l vs ∧ B b
  | .seq t k L g => ∃ rest : List Value, w.heap[b]? = some (.cells (L.map (Value.int k) ++ rest).toArray t (0, 0)) ∧ L.length + rest.length = env g ∧ g < m ∧ (∀ x ∈ L, okI k x) ∧ ¬ B b
  | .rseq k L g => L = [] ∨ ∃ (front rest : List Value) (t : TypeId) (fr : Nat × Nat), w.heap[b]? = some (.cells (front ++ (L.map (Value.int k) ++ rest)).toArray t fr) ∧ (front.length = env g ∧ g < m ∧ ∀ x ∈ L, okI k x) ∧ B b
  | .mp k kv es => ∃ (ms : Array MapEntry) (clock : Nat), w.heap[b]? = some (.map ms clock) ∧ (ms.toList.map fun e => (e.key, e.val)) = (es.map fun p => (Value.int k p.1, Value.int kv p.2)) ∧ (∀ p ∈ es, okI k p.1 ∧ okI kv p.2) ∧ ¬ B b
  | .fz t l => ∃ (vs : List Value) (fr : Nat × Nat), w.heap[b]? = some (.cells vs.toArray t fr) ∧ All2 (SV.R env m) l vs ∧ ¬ B b
  | .ob x => ∃ o : Obj, w.heap[b]? = some o ∧ x.is env m o ∧ ¬ B b
  | .num c => b = c
def GDp (gd : List (Nat × List SV)) (B : Nat → Prop) (w : World) : Prop :=
  ∀ p ∈ gd, B p.1 ∧ ∃ (vs rest : List Value) (t : TypeId) (fr : Nat × Nat), w.heap[p.1]? = some (.cells (vs ++ rest).toArray t fr) ∧ All2 (SV.R (fun _ => 0) 0) p.2 vs
abbrev GD (gd : List (Nat × List SV)) (n : Nat) (w : World) : Prop := GDp gd (· < n) w
structure Keep (B : Nat → Prop) (w w' : World) : Prop where
  grown : Below 0 w w'
  block : ∀ k, B k → w'.heap[k]? = w.heap[k]?
theorem Keep.refl (B : Nat → Prop) (w : World) : Keep B w w := ⟨Below.refl _ _, fun _ _ => rfl⟩
theorem Keep.trans {B : Nat → Prop} {a b c : World} (h : Keep B a b) (k : Keep B b c) : Keep B a c := ⟨h.grown.trans k.grown, fun i hi => (k.block i hi).trans (h.block i hi)⟩
theorem Keep.of {B : Nat → Prop} {n : Nat} {w w' : World} (h : Below n w w') (hB : ∀ k, B k → k < n) : Keep B w w' := ⟨h.mono (Nat.zero_le _), fun k hk => h.block k (hB k hk)⟩
theorem Keep.below {n : Nat} {w w' : World} (h : Keep (· < n) w w') : Below n w w' := ⟨h.grown.os, h.grown.tape, h.grown.output, h.grown.size, h.block⟩
structure MR (C : Cfg) (B : Nat → Prop) (w0 : World) (env : Nat → Nat) (mem : Mem) (w : World) : Prop where
  below : Keep B w0 w
  base : ∀ b, B b → b < w.heap.size
  lt : ∀ i ab, mem.get i = some ab → i < mem.n
  blk : ∀ i ab, mem.get i = some ab → ab.R env mem.n B w (env i)
  sep : ∀ i j a b, mem.get i = some a → mem.get j = some b → i ≠ j → a.wr = true → b.wr = true → env i ≠ env j
  gl : ∀ p ∈ C.gl, env p.2 = p.1 ∧ p.2 < mem.n
  gd : GDp C.gd B w
structure Rel (C : Cfg) (B : Nat → Prop) (w0 : World) (env : Nat → Nat) (tm : TM) (mem : Mem) (a : Act) (w : World) : Prop where
  size : a.tmps.size = tm.sz
  tmp : ∀ t, (tm.get t).R env mem.n (a.tmps.getD t undef)
  defers : Dfs env mem.n tm.df a.defers
  mem : MR C B w0 env mem w
theorem AB.R_below {env : Nat → Nat} {m : Nat} {B : Nat → Prop} {w w' : World} {b : Nat} {ab : AB} (h : ab.R env m B w b) (hw : Below w.heap.size w w') : ab.R env m B w' b := by
  have key : ∀ o, w.heap[b]? = some o → w'.heap[b]? = some o := fun o ho => by
    have hlt : b < w.heap.size := (Array.getElem?_eq_some_iff.1 ho).1
    rw [hw.block b hlt]; exact ho
  cases ab with
  | gone => trivial
  | cells t l => obtain ⟨vs, h1, h2, h3⟩ := h; exact ⟨vs, key _ h1, h2, h3⟩
  | row t l => obtain ⟨vs, rest, h1, h2, h3⟩ := h; exact ⟨vs, rest, key _ h1, h2, h3⟩
  | ro l => obtain ⟨vs, rest, t, fr, h1, h2, h3⟩ := h; exact ⟨vs, rest, t, fr, key _ h1, h2, h3⟩
  | seq t k L g => obtain ⟨rest, h1, h2⟩ := h; exact ⟨rest, key _ h1, h2⟩
  | rseq k L g =>
    rcases h with h | ⟨front, rest, t, fr, h1, h2⟩
    · exact .inl h
    · exact .inr ⟨front, rest, t, fr, key _ h1, h2⟩
  | mp k kv es => obtain ⟨ms, c, h1, h2⟩ := h; exact ⟨ms, c, key _ h1, h2⟩
  | fz t l => obtain ⟨vs, fr, h1, h2⟩ := h; exact ⟨vs, fr, key _ h1, h2⟩
  | ob x => obtain ⟨o, h1, h2⟩ := h; exact ⟨o, key _ h1, h2⟩
  | num c => exact h
theorem AB.R_ext {env env' : Nat → Nat} {m m' : Nat} {B : Nat → Prop} {w : World} {b : Nat} {ab : AB} (hx : Ext env m env' m') (h : ab.R env m B w b) : ab.R env' m' B w b := by
  cases ab with
  | gone => trivial
  | cells t l => obtain ⟨vs, h1, h2, h3⟩ := h; exact ⟨vs, h1, h2.imp fun _ _ => SV.R_ext hx, h3⟩
  | row t l => obtain ⟨vs, rest, h1, h2, h3⟩ := h; exact ⟨vs, rest, h1, h2.imp fun _ _ => SV.R_ext hx, h3⟩
  | ro l => obtain ⟨vs, rest, t, fr, h1, h2, h3⟩ := h; exact ⟨vs, rest, t, fr, h1, h2.imp fun _ _ => SV.R_ext hx, h3⟩
  | seq t k L g => obtain ⟨rest, h1, h2, h3, h4⟩ := h; exact ⟨rest, h1, by rw [hx.2 g h3]; exact h2, Nat.lt_of_lt_of_le h3 hx.1, h4⟩
  | rseq k L g =>
    rcases h with h | ⟨front, rest, t, fr, h1, ⟨h2, h3, h4⟩, h5⟩
    · exact .inl h
    · exact .inr ⟨front, rest, t, fr, h1, ⟨by rw [hx.2 g h3]; exact h2, Nat.lt_of_lt_of_le h3 hx.1, h4⟩, h5⟩
  | mp k kv es => exact h
  | fz t l => obtain ⟨vs, fr, h1, h2, h3⟩ := h; exact ⟨vs, fr, h1, h2.imp fun _ _ => SV.R_ext hx, h3⟩
  | ob x => obtain ⟨o, h1, h2, h3⟩ := h; exact ⟨o, h1, x.is_ext hx h2, h3⟩
  | num c => exact h
theorem GDp.below {gd : List (Nat × List SV)} {B : Nat → Prop} {w w' : World} (h : GDp gd B w) (hw : Keep B w w') : GDp gd B w' := fun p hp => by
  obtain ⟨h1, vs, rest, t, fr, h2, h3⟩ := h p hp
  exact ⟨h1, vs, rest, t, fr, by rw [hw.block p.1 h1]; exact h2, h3⟩
theorem MR.later {C : Cfg} {B : Nat → Prop} {w0 w w' : World} {env : Nat → Nat} {mem : Mem} (h : MR C B w0 env mem w) (hw : Below w.heap.size w w') : MR C B w0 env mem w' where
  below := h.below.trans (.of hw h.base)
  base := fun b hb => Nat.lt_of_lt_of_le (h.base b hb) hw.size
  lt := h.lt
  blk := fun i ab hi => AB.R_below (h.blk i ab hi) hw
  sep := h.sep
  gl := h.gl
  gd := h.gd.below (.of hw h.base)
theorem MR.drew {C : Cfg} {B : Nat → Prop} {w0 w : World} {env : Nat → Nat} {mem : Mem} (h : MR C B w0 env mem w) : MR C B w0 env mem { w with drawn := w.drawn + 1 } :=
  h.later (Below.drew (Below.refl _ _))
theorem MR.rely {C : Cfg} {B : Nat → Prop} {w0 w w1 : World} {env : Nat → Nat} {mem : Mem} (h : MR C B w0 env mem w) (hw : C.J.rel w w1) : MR C B w0 env mem w1 := by
  obtain ⟨d, rfl⟩ := C.J.drawn _ _ hw
  exact h.later ⟨rfl, rfl, rfl, Nat.le_refl _, fun _ _ => rfl⟩
theorem Rel.rely {C : Cfg} {B : Nat → Prop} {w0 w w1 : World} {env : Nat → Nat} {tm : TM} {mem : Mem} {a : Act} (h : Rel C B w0 env tm mem a w) (hw : C.J.rel w w1) : Rel C B w0 env tm mem a w1 := ⟨h.size, h.tmp, h.defers, h.mem.rely hw⟩
theorem ev_R {C : Cfg} {B : Nat → Prop} {w0 w : World} {env : Nat → Nat} {tm : TM} {mem : Mem} {a : Act} (h : Rel C B w0 env tm mem a w) (x : Operand) : (ev C tm x).R env mem.n (a.eval x) := by
  cases x with
  | tmp t => exact h.tmp t
  | const v => exact absV_R env mem.n v
  | func f => exact ⟨by simp [SV.ok], rfl⟩
  | global g =>
    simp only [ev]
    cases hg : assoc C.gl g with
    | none => trivial
    | some i =>
      have key : ∀ l : List (Nat × Nat), (∀ p ∈ l, env p.2 = p.1 ∧ p.2 < mem.n) → assoc l g = some i → env i = g ∧ i < mem.n := by
        intro l
        induction l with
        | nil => intro _ h; cases h
        | cons p l ih =>
          obtain ⟨k, j⟩ := p
          intro hl ha
          simp only [assoc] at ha
          cases hk : Nat.beq k g with
          | true =>
            rw [hk] at ha
            have hkg := Nat.eq_of_beq_eq_true hk
            obtain rfl := Option.some.inj ha
            have := hl (k, j) (by simp)
            exact ⟨this.1.trans hkg, this.2⟩
          | false => rw [hk] at ha; exact ih (fun p hp => hl p (by simp [hp])) ha
      obtain ⟨h1, h2⟩ := key C.gl h.mem.gl hg
      exact ⟨h2, by simp only [Act.eval, SV.conc]; rw [h1]⟩
theorem Rel.put {C : Cfg} {B : Nat → Prop} {w0 w w' : World} {env env' : Nat → Nat} {tm : TM} {mem mem' : Mem} {a : Act} {d : Option Tmp} {x : AV} {v : Value} (h : Rel C B w0 env tm mem a w)
    (hm : MR C B w0 env' mem' w') (hx : Ext env mem.n env' mem'.n) (hv : x.R env' mem'.n v) : Rel C B w0 env' (putA tm d x) mem' (a.put d v) w' := by
  cases d with
  | none => exact ⟨h.size, fun t => AV.R_ext hx (h.tmp t), h.defers.ext hx, hm⟩
  | some d =>
    simp only [putA, Act.put, TM.set]
    cases hb : Nat.blt d tm.sz with
    | false =>
      have hge : ¬ d < tm.sz := fun hlt => by
        have : Nat.blt d tm.sz = true := by simp only [Nat.blt]; exact Nat.ble_eq_true_of_le hlt
        rw [this] at hb; cases hb
      have hs : a.tmps.setIfInBounds d v = a.tmps := by
        unfold Array.setIfInBounds
        rw [dif_neg (fun hlt => hge (h.size ▸ hlt))]
      rw [hs]
      exact ⟨h.size, fun t => AV.R_ext hx (h.tmp t), h.defers.ext hx, hm⟩
    | true =>
      have hlt : d < tm.sz := by
        have : Nat.ble (d + 1) tm.sz = true := hb
        exact Nat.le_of_ble_eq_true this
      refine ⟨by simp [h.size], fun t => ?_, h.defers.ext hx, hm⟩
      simp only [TM.get]
      by_cases hdt : d = t
      · subst hdt
        have hv' : (a.tmps.setIfInBounds d v).getD d undef = v := by
          have : d < a.tmps.size := by rw [h.size]; exact hlt
          simp [this]
        rw [hv']
        cases hg : (tm.t.set d x).get d with
        | none => trivial
        | some y => rw [Tr.get_set_eq _ _ _ _ hg]; exact hv
      · rw [Tr.get_set_ne _ _ _ _ hdt]
        have hv' : (a.tmps.setIfInBounds d v).getD t undef = a.tmps.getD t undef := by
          simp [Array.getElem?_setIfInBounds_ne hdt]
        rw [hv']
        exact AV.R_ext hx (h.tmp t)
end Go.Ax

namespace Go.Ax
open Go Go.RowKit
def allP : List Cnd → Prop
  | [] => True
  | p :: ps => p.p ∧ allP ps
theorem ok_wrap (k : IntKind) (n : Int) : okI k (k.wrap n) := by
  unfold okI
  cases k <;> simp [IntKind.wrap, IntKind.min, IntKind.max, IntKind.bits, IntKind.signed] <;> (try split) <;> omega
theorem wrap_ok {k : IntKind} {n : Int} (h : okI k n) : k.wrap n = n := by
  unfold okI at h
  cases k <;> simp [IntKind.wrap, IntKind.min, IntKind.max, IntKind.bits, IntKind.signed] at h ⊢ <;> (try split) <;> omega
theorem min_le_zero (k : IntKind) : k.min ≤ 0 := by cases k <;> decide
theorem zero_le_max (k : IntKind) : 0 ≤ k.max := by cases k <;> decide
theorem ok_rem {k : IntKind} {a : Int} (b : Int) (h : okI k a) : okI k (a.tmod b) := by
  have h1 := min_le_zero k
  have h2 := zero_le_max k
  unfold okI at *
  rcases Int.le_total 0 a with ha | ha
  · have h3 := Int.tmod_nonneg b ha
    have h4 : (a.tmod b).natAbs ≤ a.natAbs := by rw [Int.natAbs_tmod]; exact Nat.mod_le _ _
    omega
  · have h3 := Int.tmod_nonneg b (show 0 ≤ -a by omega)
    rw [Int.neg_tmod] at h3
    have h4 : (a.tmod b).natAbs ≤ a.natAbs := by rw [Int.natAbs_tmod]; exact Nat.mod_le _ _
    omega
theorem ok_shr {k : IntKind} {a : Int} (n : Nat) (h : okI k a) : okI k (a.fdiv (2 ^ n)) := by
  have h1 := min_le_zero k
  have h2 := zero_le_max k
  have hp : (0 : Int) < 2 ^ n := Int.pow_pos (by decide)
  rw [Int.fdiv_eq_ediv_of_nonneg _ (by omega)]
  unfold okI at *
  rcases Int.le_total 0 a with ha | ha
  · have h3 := Int.ediv_le_self (2 ^ n) ha
    have h4 := Int.ediv_nonneg ha (show (0 : Int) ≤ 2 ^ n by omega)
    omega
  · have h3 : a ≤ a / 2 ^ n := by
      refine Int.le_ediv_of_mul_le hp ?_
      have := Int.mul_le_mul_of_nonpos_left (a := a) (b := 2 ^ n) (c := 1) ha (by omega)
      simpa using this
    have h4 : a / 2 ^ n ≤ 0 := by
      rcases Int.lt_or_eq_of_le ha with h | h
      · exact Int.le_of_lt (Int.ediv_neg_of_neg_of_pos h hp)
      · rw [h, Int.zero_ediv]; exact Int.le_refl _
    omega
theorem ok_binI {op : BinOp} {k : IntKind} {a b : Int} (h : okI k a) (hop : isArith op = true ∨ isShift op = true) : okI k (binI op k a b) := by
  cases op <;> first
    | exact ok_wrap _ _
    | exact ok_rem _ h
    | exact ok_shr _ h
    | (simp [isArith, isShift] at hop; done)
theorem ok_iteI {k : IntKind} {c : Bool} {a b : Int} (ha : okI k a) (hb : okI k b) : okI k (iteI c a b) := by cases c <;> assumption
def RunV (P : Program) (w : World) (env : Nat → Nat) (m : Nat) (s : Sem Value) (v : AV) : Prop := ∃ val, s.run P w = .ok val w ∧ v.R env m val
theorem int_l {x : AV} {k : IntKind} {a : Int} (h : x.int = .l k a) : x = .one (.li k a) := by
  cases x with
  | one s => cases s <;> simp [AV.int] at h ⊢ <;> exact h
  | _ => simp [AV.int] at h
theorem int_s {x : AV} {k : IntKind} {a : Int} (h : x.int = .s k a) : x = .one (.si k a) := by
  cases x with
  | one s => cases s <;> simp [AV.int] at h ⊢ <;> exact h
  | _ => simp [AV.int] at h
theorem int_val {env : Nat → Nat} {m : Nat} {x : AV} {k : IntKind} {a : Int} {v : Value} (h : x.int = .l k a ∨ x.int = .s k a) (hr : x.R env m v) : v = .int k a ∧ okI k a := by
  rcases h with h | h
  · rw [int_l h] at hr; exact ⟨hr.2, hr.1⟩
  · rw [int_s h] at hr; exact ⟨hr.2, hr.1⟩
theorem bool_val {env : Nat → Nat} {m : Nat} {x : AV} {b : Bool} {v : Value} (h : x.bool = .l b ∨ x.bool = .s b) (hr : x.R env m v) : v = .bool b := by
  cases x with
  | one s => cases s <;> simp [AV.bool] at h <;> subst h <;> exact hr.2
  | _ => simp [AV.bool] at h
section
variable {P : Program} {w : World} {env : Nat → Nat} {m : Nat}
theorem run_eqGuard_int (op : BinOp) (t : TypeId) (x y : Operand) (k k' : IntKind) (a b : Int) : (eqGuard op t x y (.int k a) (.int k' b)).run P w = .ok () w := by
  unfold eqGuard
  cases op <;> rfl
theorem run_arith {op : BinOp} {t : TypeId} {k : IntKind} {a b : Int} (h : isArith op = true) (hd : isDiv op = true → b ≠ 0) : (binOp op t (.int k a) (.int k b)).run P w = .ok (.int k (binI op k a b)) w := by
  cases op <;> simp [isArith] at h <;> simp [binOp, Op.intArith, Op.intDiv, Op.intBits, binI, isDiv] at hd ⊢ <;> simp [hd]
theorem run_cmp {op : BinOp} {t : TypeId} {k : IntKind} {a b : Int} (h : isCmp op = true) : (binOp op t (.int k a) (.int k b)).run P w = .ok (.bool (cmpI op a b)) w := by
  cases op <;> simp [isCmp] at h <;> simp [binOp, Op.intCmp, cmpI]
theorem run_shift {op : BinOp} {t : TypeId} {k k' : IntKind} {a b : Int} (h : isShift op = true) (hb : 0 ≤ b) : (binOp op t (.int k a) (.int k' b)).run P w = .ok (.int k (binI op k a b)) w := by
  have hb' : ¬ b < 0 := by omega
  cases op <;> simp [isShift] at h <;> simp [binOp, Op.shift, binI, hb']
theorem eqS_R {s s' : SV} {v v' : Value} {x : Bool} (h : eqS s s' = some x) (hv : s.R env m v) (hv' : s'.R env m v') : ∃ k a b, v = .int k a ∧ v' = .int k b ∧ x = (a == b) := by
  cases s <;> cases s' <;> simp only [eqS] at h <;> first
    | (cases h; done)
    | (split at h
       · rename_i hk
         have := kEq_of hk
         subst this
         exact ⟨_, _, _, hv.2, hv'.2, (Option.some.inj h).symm⟩
       · cases h)
theorem run_part_int {e : TypeId} {k : IntKind} (hu : P.underlying e = some (.int k)) {xs : Array Value} {o : Nat} {v : Value} (hx : xs[o]? = some v) : (part e xs o).run P w = .ok v w := by
  unfold part isAgg
  simp [run_underlying hu, hx]
theorem isInt_of {t : TypeId} (h : isInt P t = true) : ∃ k, P.underlying t = some (.int k) := by
  unfold isInt at h
  split at h
  · exact ⟨_, by assumption⟩
  · cases h
theorem run_eqItems_A (d c : Nat) (e : TypeId) (hi : isInt P e = true) (l l' : List SV) (vs vs' : List Value) (h1 : All2 (SV.R env m) l vs) (h2 : All2 (SV.R env m) l' vs') :
    ∀ (is : List Nat) (x : Bool), eqAt l l' (is.map fun i => (i * c, e)) = some x → (Op.eqItems (d + 1) e c vs.toArray vs'.toArray is).run P w = .ok x w
  | [], x, h => by simp [eqAt] at h; subst h; simp [Op.eqItems]
  | i :: is, x, h => by
    simp only [List.map_cons, eqAt] at h
    obtain ⟨k, hk⟩ := isInt_of hi
    split at h
    · rename_i a b ha hb
      obtain ⟨v, hv, hr⟩ := All2.get h1 ha
      obtain ⟨v', hv', hr'⟩ := All2.get h2 hb
      split at h
      · rename_i y z hy hz
        obtain ⟨k', p, q, rfl, rfl, rfl⟩ := eqS_R hy hr hr'
        have ih := run_eqItems_A d c e hi l l' vs vs' h1 h2 is z hz
        obtain rfl := Option.some.inj h
        simp only [Op.eqItems, Sem.run_bind, run_part_int hk (by simpa using hv : vs.toArray[i * c]? = _), run_part_int hk (by simpa using hv' : vs'.toArray[i * c]? = _), Result.andThen_ok, run_equalIn_int w d e k' k p q hk]
        cases p == q
        · simp
        · simpa using ih
      · cases h
    · cases h
theorem run_eqFields_A (d : Nat) (l l' : List SV) (vs vs' : List Value) (h1 : All2 (SV.R env m) l vs) (h2 : All2 (SV.R env m) l' vs') :
    ∀ (fs : List Field) (x : Bool), (fs.all fun f => decide (f.name ≠ "_") && isInt P f.type) = true → eqAt l l' (fs.map fun f => (f.offset, f.type)) = some x → (Op.eqFields (d + 1) vs.toArray vs'.toArray fs).run P w = .ok x w
  | [], x, _, h => by simp [eqAt] at h; subst h; simp [Op.eqFields]
  | f :: fs, x, hf, h => by
    simp only [List.all_cons, Bool.and_eq_true] at hf
    obtain ⟨⟨hn, hi⟩, hf⟩ := hf
    have hn' : f.name ≠ "_" := of_decide_eq_true hn
    simp only [List.map_cons, eqAt] at h
    obtain ⟨k, hk⟩ := isInt_of hi
    split at h
    · rename_i a b ha hb
      obtain ⟨v, hv, hr⟩ := All2.get h1 ha
      obtain ⟨v', hv', hr'⟩ := All2.get h2 hb
      split at h
      · rename_i y z hy hz
        obtain ⟨k', p, q, rfl, rfl, rfl⟩ := eqS_R hy hr hr'
        have ih := run_eqFields_A d l l' vs vs' h1 h2 fs z hf hz
        obtain rfl := Option.some.inj h
        simp only [Op.eqFields, hn', ne_eq, not_false_eq_true, if_true, Sem.run_bind, run_part_int hk (by simpa using hv : vs.toArray[f.offset]? = _), run_part_int hk (by simpa using hv' : vs'.toArray[f.offset]? = _), Result.andThen_ok, run_equalIn_int w d f.type k' k p q hk]
        cases p == q
        · simp
        · simpa using ih
      · cases h
    · cases h
theorem run_equalIn_A (d : Nat) (t : TypeId) (pl : List (Nat × TypeId)) (x : Bool) (l l' : List SV) (vs vs' : List Value) (h1 : All2 (SV.R env m) l vs) (h2 : All2 (SV.R env m) l' vs') (hp : eqPlan P t = some pl)
    (hx : eqAt l l' pl = some x) : (Op.equalIn (d + 2) t (.agg vs.toArray) (.agg vs'.toArray)).run P w = .ok x w := by
  unfold eqPlan at hp
  split at hp
  · rename_i n e hu
    split at hp
    · rename_i i hi1 hi2
      obtain rfl := Option.some.inj hp
      rw [run_equalIn_array w (d + 1) _ _ hu hi1]
      exact run_eqItems_A d _ e hi2 l l' vs vs' h1 h2 _ x hx
    · cases hp
  · rename_i fs hu
    split at hp
    · rename_i hs ha
      obtain rfl := Option.some.inj hp
      have hfo : P.fieldsOf t = fs := by simp [Program.fieldsOf, hu]
      rw [run_equalIn_struct w (d + 1) t _ _ (by rw [hfo]; exact hu) hs, hfo]
      exact run_eqFields_A d l l' vs vs' h1 h2 _ x ha hx
    · cases hp
  · cases hp
end
end Go.Ax

namespace Go.Ax
open Go Go.RowKit
section
variable {P : Program} {w : World} {env : Nat → Nat} {m : Nat}
theorem li_R {k : IntKind} {n : Int} (h : okI k n) : (AV.one (.li k n)).R env m (.int k n) := ⟨h, rfl⟩
theorem si_R {k : IntKind} {n : Int} (h : okI k n) : (AV.one (.si k n)).R env m (.int k n) := ⟨h, rfl⟩
theorem lb_R {b : Bool} : (AV.one (.lb b)).R env m (.bool b) := ⟨trivial, rfl⟩
theorem sb_R {b : Bool} : (AV.one (.sb b)).R env m (.bool b) := ⟨trivial, rfl⟩
theorem unsigned_ok {k : IntKind} {n : Int} (hk : k.signed = false) (h : okI k n) : 0 ≤ n := by
  have := h.1
  unfold IntKind.min at this
  rw [hk] at this
  simpa using this
theorem bool?_val {x : AV} {p b : Bool} {v : Value} (h : x.bool? = some (p, b)) (hx : x.R env m v) : v = .bool b := by
  unfold AV.bool? at h
  split at h
  · rename_i c hc; cases h; exact bool_val (.inl hc) hx
  · rename_i c hc; cases h; exact bool_val (.inr hc) hx
  · cases h
theorem run_equal_bool {t : TypeId} (hu : P.underlying t = some .bool) (a b : Bool) : (Op.equal t (.bool a) (.bool b)).run P w = .ok (a == b) w := by
  show (Op.equalIn (9999 + 1) t (.bool a) (.bool b)).run P w = _
  unfold Op.equalIn
  simp only [Sem.run_bind, run_underlying hu, Result.andThen_ok]
  rfl
theorem run_eql_bool {t : TypeId} (hu : P.underlying t = some .bool) (xo yo : Operand) (a b : Bool) : (do eqGuard .eql t xo yo (.bool a) (.bool b); binOp .eql t (.bool a) (.bool b)).run P w = .ok (.bool (a == b)) w := by
  show ((do pure (Value.bool (← Op.equal t (.bool a) (.bool b))) : Sem Value)).run P w = _
  rw [Sem.run_bind, run_equal_bool hu]
  rfl
theorem run_neq_bool {t : TypeId} (hu : P.underlying t = some .bool) (xo yo : Operand) (a b : Bool) : (do eqGuard .neq t xo yo (.bool a) (.bool b); binOp .neq t (.bool a) (.bool b)).run P w = .ok (.bool (!(a == b))) w := by
  show ((do pure (Value.bool (!(← Op.equal t (.bool a) (.bool b)))) : Sem Value)).run P w = _
  rw [Sem.run_bind, run_equal_bool hu]
  rfl
theorem mkB_R {p b : Bool} : (mkB p b).R env m (.bool b) := by cases p <;> exact ⟨trivial, rfl⟩
theorem binA_sound {op : BinOp} {xt : TypeId} {x y v : AV} {ps : List Cnd} {vx vy : Value} (xo yo : Operand) (h : binA P op xt x y = some (ps, v)) (hp : allP ps) (hx : x.R env m vx) (hy : y.R env m vy) :
    RunV P w env m (do eqGuard op xt xo yo vx vy; binOp op xt vx vy) v := by
  unfold binA at h
  split at h
  · rename_i k a k' b ex ey
    obtain ⟨rfl, ka⟩ := int_val (.inl ex) hx
    obtain ⟨rfl, kb⟩ := int_val (.inl ey) hy
    split at h
    · rename_i hs
      split at h
      · rename_i hb
        have hb' := of_decide_eq_true hb
        cases h
        exact ⟨_, by simp only [Sem.run_bind, run_eqGuard_int, Result.andThen_ok]; exact run_shift hs hb', li_R (ok_binI ka (.inr hs))⟩
      · cases h
    · split at h
      · cases h
      · rename_i hk
        have hk := kEq_of hk
        subst hk
        split at h
        · rename_i hc
          cases h
          exact ⟨_, by simp only [Sem.run_bind, run_eqGuard_int, Result.andThen_ok]; exact run_cmp hc, lb_R⟩
        · split at h
          · cases h
          · rename_i ha
            split at h
            · cases h
            · rename_i hd
              cases h
              exact ⟨_, by simp only [Sem.run_bind, run_eqGuard_int, Result.andThen_ok]; exact run_arith ha (fun h1 h2 => by simp [h1, h2] at hd), li_R (ok_binI ka (.inl ha))⟩
  · rename_i k a k' b ex ey
    obtain ⟨rfl, ka⟩ := int_val (.inl ex) hx
    obtain ⟨rfl, kb⟩ := int_val (.inr ey) hy
    split at h
    · rename_i hs
      cases h
      have hb0 : 0 ≤ b := by
        split at hp
        · exact hp.1
        · rename_i hsg; exact unsigned_ok hsg kb
      exact ⟨_, by simp only [Sem.run_bind, run_eqGuard_int, Result.andThen_ok]; exact run_shift hs hb0, si_R (ok_binI ka (.inr hs))⟩
    · split at h
      · cases h
      · rename_i hk
        have hk := kEq_of hk
        subst hk
        split at h
        · rename_i hc
          cases h
          exact ⟨_, by simp only [Sem.run_bind, run_eqGuard_int, Result.andThen_ok]; exact run_cmp hc, sb_R⟩
        · split at h
          · cases h
          · rename_i ha
            cases h
            have hd0 : isDiv op = true → b ≠ 0 := fun h1 => by
              rw [h1] at hp
              exact hp.1
            exact ⟨_, by simp only [Sem.run_bind, run_eqGuard_int, Result.andThen_ok]; exact run_arith ha hd0, si_R (ok_binI ka (.inl ha))⟩
  · rename_i k a k' b ex ey
    obtain ⟨rfl, ka⟩ := int_val (.inr ex) hx
    obtain ⟨rfl, kb⟩ := int_val (.inr ey) hy
    split at h
    · rename_i hs
      cases h
      have hb0 : 0 ≤ b := by
        split at hp
        · exact hp.1
        · rename_i hsg; exact unsigned_ok hsg kb
      exact ⟨_, by simp only [Sem.run_bind, run_eqGuard_int, Result.andThen_ok]; exact run_shift hs hb0, si_R (ok_binI ka (.inr hs))⟩
    · split at h
      · cases h
      · rename_i hk
        have hk := kEq_of hk
        subst hk
        split at h
        · rename_i hc
          cases h
          exact ⟨_, by simp only [Sem.run_bind, run_eqGuard_int, Result.andThen_ok]; exact run_cmp hc, sb_R⟩
        · split at h
          · cases h
          · rename_i ha
            cases h
            have hd0 : isDiv op = true → b ≠ 0 := fun h1 => by
              rw [h1] at hp
              exact hp.1
            exact ⟨_, by simp only [Sem.run_bind, run_eqGuard_int, Result.andThen_ok]; exact run_arith ha hd0, si_R (ok_binI ka (.inl ha))⟩
  · rename_i k a k' b ex ey
    obtain ⟨rfl, ka⟩ := int_val (.inr ex) hx
    obtain ⟨rfl, kb⟩ := int_val (.inl ey) hy
    split at h
    · rename_i hs
      split at h
      · rename_i hb
        have hb' := of_decide_eq_true hb
        cases h
        exact ⟨_, by simp only [Sem.run_bind, run_eqGuard_int, Result.andThen_ok]; exact run_shift hs hb', si_R (ok_binI ka (.inr hs))⟩
      · cases h
    · split at h
      · cases h
      · rename_i hk
        have hk := kEq_of hk
        subst hk
        split at h
        · rename_i hc
          cases h
          exact ⟨_, by simp only [Sem.run_bind, run_eqGuard_int, Result.andThen_ok]; exact run_cmp hc, sb_R⟩
        · split at h
          · cases h
          · rename_i ha
            split at h
            · cases h
            · rename_i hd
              cases h
              exact ⟨_, by simp only [Sem.run_bind, run_eqGuard_int, Result.andThen_ok]; exact run_arith ha (fun h1 h2 => by simp [h1, h2] at hd), si_R (ok_binI ka (.inl ha))⟩
  · split at h
    · rename_i l l' _ _ _ _
      obtain ⟨vs, rfl, h1⟩ := hx
      obtain ⟨vs', rfl, h2⟩ := hy
      split at h
      · rename_i pl hg hpl
        split at h
        · rename_i e he
          have hrun := run_equalIn_A (P := P) (w := w) (env := env) (m := m) 9998 xt pl e l l' vs vs' h1 h2 hpl he
          split at h
          · cases h
            exact ⟨_, by simp only [Sem.run_bind, run_eqGuard_agg w _ _ _ _ _ _ hg, Result.andThen_ok, run_eql_struct, hrun], sb_R⟩
          · cases h
            exact ⟨_, by simp only [Sem.run_bind, run_eqGuard_agg w _ _ _ _ _ _ hg, Result.andThen_ok, run_neq_struct, hrun], sb_R⟩
          · cases h
        · cases h
      · cases h
    · split at h
      · rename_i p a q b hu hbx hby
        have hvx := bool?_val hbx hx
        have hvy := bool?_val hby hy
        subst hvx hvy
        split at h
        · cases h
          exact ⟨_, run_eql_bool hu xo yo a b, mkB_R⟩
        · cases h
          exact ⟨_, run_neq_bool hu xo yo a b, mkB_R⟩
        · cases h
      · cases h
theorem unA_sound {op : UnOp} {x v : AV} {ps : List Cnd} {vx : Value} (h : unA op x = some (ps, v)) (hx : x.R env m vx) : RunV P w env m (Op.unary op vx) v := by
  unfold unA at h
  split at h <;> cases h
  · obtain ⟨hk, rfl⟩ := hx; exact ⟨_, rfl, li_R (ok_wrap _ _)⟩
  · obtain ⟨hk, rfl⟩ := hx; exact ⟨_, rfl, si_R (ok_wrap _ _)⟩
  · obtain ⟨hk, rfl⟩ := hx; exact ⟨_, rfl, li_R (ok_wrap _ _)⟩
  · obtain ⟨hk, rfl⟩ := hx; exact ⟨_, rfl, si_R (ok_wrap _ _)⟩
  · obtain ⟨_, rfl⟩ := hx; exact ⟨_, rfl, lb_R⟩
  · obtain ⟨_, rfl⟩ := hx; exact ⟨_, rfl, sb_R⟩
theorem convA_sound {s d : TypeId} {x v : AV} {ps : List Cnd} {vx : Value} (h : convA P s d x = some (ps, v)) (hx : x.R env m vx) : RunV P w env m (convert s d vx) v := by
  unfold convA at h
  split at h
  · rename_i k0 k k' n hs hd
    obtain ⟨hk, rfl⟩ := hx
    have hr : (convert s d ((SV.li k' n).conc env)).run P w = .ok (.int k (k.wrap n)) w := by
      simp [SV.conc, convert, run_underlying hs, run_underlying hd, Conv.intToInt]
    split at h
    · rename_i hkk
      have hkk := kEq_of hkk
      subst hkk
      cases h
      exact ⟨_, hr, by rw [wrap_ok hk]; exact li_R hk⟩
    · cases h
      exact ⟨_, hr, li_R (ok_wrap _ _)⟩
  · rename_i k0 k k' n hs hd
    obtain ⟨hk, rfl⟩ := hx
    have hr : (convert s d ((SV.si k' n).conc env)).run P w = .ok (.int k (k.wrap n)) w := by
      simp [SV.conc, convert, run_underlying hs, run_underlying hd, Conv.intToInt]
    split at h
    · rename_i hkk
      have hkk := kEq_of hkk
      subst hkk
      cases h
      exact ⟨_, hr, by rw [wrap_ok hk]; exact si_R hk⟩
    · cases h
      exact ⟨_, hr, si_R (ok_wrap _ _)⟩
  · cases h
end
end Go.Ax

namespace Go.Ax
open Go Go.RowKit
section
variable {P : Program} {w : World} {env : Nat → Nat} {m : Nat}
theorem aggSize_some {t : TypeId} {n : Nat} (h : aggSize P t = some (some n)) : (isAgg t).run P w = .ok true w ∧ (sizeOf t).run P w = .ok n w := by
  unfold aggSize at h
  split at h
  · rename_i fs i hu hi
    cases h
    exact ⟨by unfold isAgg; simp [run_underlying hu], by simp [sizeOf, typeInfo, hi]⟩
  · rename_i a e i hu hi
    cases h
    exact ⟨by unfold isAgg; simp [run_underlying hu], by simp [sizeOf, typeInfo, hi]⟩
  · cases h
  · cases h
theorem aggSize_none {t : TypeId} (h : aggSize P t = some none) : (isAgg t).run P w = .ok false w := by
  unfold aggSize at h
  split at h
  · cases h
  · cases h
  · rename_i d i hn1 hn2 hu hi
    unfold isAgg
    simp only [Sem.run_bind, run_underlying hu, Result.andThen_ok]
    cases d with
    | struct fs => exact (hn1 fs rfl).elim
    | array n e => exact (hn2 n e rfl).elim
    | _ => rfl
  · cases h
theorem sizeA_run {t : TypeId} {n : Nat} (h : sizeA P t = some n) : (sizeOf t).run P w = .ok n w := by
  unfold sizeA at h
  cases hi : P.info? t with
  | none => simp [hi] at h
  | some i => simp [hi] at h; simp [sizeOf, typeInfo, hi, h]
theorem add_addr (b o j : Nat) : (⟨b, o, none⟩ : Addr).add j = ⟨b, o + j, none⟩ := by
  unfold Addr.add
  split
  · rename_i h; subst h; rfl
  · rfl
theorem block_of {B : Nat → Prop} {ab : AB} {b : Nat} {l : List SV} (h : ab.R env m B w b) (hl : ab.get? = some l) :
    ∃ (vs rest : List Value) (t : TypeId) (fr : Nat × Nat), w.heap[b]? = some (.cells (vs ++ rest).toArray t fr) ∧ All2 (SV.R env m) l vs := by
  cases ab with
  | gone => cases hl
  | cells t l' => obtain ⟨vs, h1, h2, _⟩ := h; cases hl; exact ⟨vs, [], t, _, by simpa using h1, h2⟩
  | row t l' => obtain ⟨vs, rest, h1, h2, _⟩ := h; cases hl; exact ⟨vs, rest, t, _, h1, h2⟩
  | ro l' => obtain ⟨vs, rest, t, fr, h1, h2, _⟩ := h; cases hl; exact ⟨vs, rest, t, fr, h1, h2⟩
  | seq t k L g => cases hl
  | rseq k L g => cases hl
  | mp k kv es => cases hl
  | ob x => cases hl
  | num c => cases hl
  | fz t l' => obtain ⟨vs, fr, h1, h2, _⟩ := h; cases hl; exact ⟨vs, [], t, fr, by simpa using h1, h2⟩
theorem ints_of {B : Nat → Prop} {ab : AB} {b : Nat} {k : IntKind} {L : List Int} (h : ab.R env m B w b) (hl : ab.ints? = some (k, L)) (_hne : L ≠ []) :
    ∃ (rest : List Value) (t : TypeId) (fr : Nat × Nat), w.heap[b]? = some (.cells (L.map (Value.int k) ++ rest).toArray t fr) ∧ ∀ x ∈ L, okI k x := by
  cases ab with
  | seq t k' L' g => obtain ⟨rest, h1, _, _, h4, _⟩ := h; cases hl; exact ⟨rest, t, _, h1, h4⟩
  | _ => cases hl
theorem cell_at {b : Nat} {cs : List Value} {t : TypeId} {fr : Nat × Nat} (h : w.heap[b]? = some (.cells cs.toArray t fr)) (o : Nat) : w.cell? ⟨b, o, none⟩ = cs[o]? := by
  simp [World.cell?, h]
theorem seg_spec {l r : List SV} {o n : Nat} (h : seg l o n = some r) : r = (l.drop o).take n ∧ r.length = n ∧ r.all SV.cell = true := by
  unfold seg at h
  dsimp only at h
  split at h
  · rename_i hb
    simp only [Bool.and_eq_true] at hb
    cases h
    exact ⟨rfl, Nat.eq_of_beq_eq_true hb.1, hb.2⟩
  · cases h
theorem intsOf_R {k : IntKind} : ∀ {l : List SV} {es : List Int} {vs : List Value}, intsOf k l = some es → All2 (SV.R env m) l vs → vs = es.map (Value.int k) ∧ ∀ n ∈ es, okI k n
  | [], es, [], h, _ => by cases h; exact ⟨rfl, by simp⟩
  | [], _, _ :: _, _, h => h.elim
  | _ :: _, _, [], _, h => h.elim
  | s :: l, es, v :: vs, h, hr => by
    cases s with
    | li k' n =>
      simp only [intsOf] at h
      split at h
      · rename_i es' hk he
        cases h
        have hk := kEq_of hk
        subst hk
        obtain ⟨h1, h2⟩ := intsOf_R he hr.2
        exact ⟨by rw [List.map_cons, ← h1, hr.1.2]; rfl, by simpa using ⟨hr.1.1, h2⟩⟩
      · cases h
    | si k' n =>
      simp only [intsOf] at h
      split at h
      · rename_i es' hk he
        cases h
        have hk := kEq_of hk
        subst hk
        obtain ⟨h1, h2⟩ := intsOf_R he hr.2
        exact ⟨by rw [List.map_cons, ← h1, hr.1.2]; rfl, by simpa using ⟨hr.1.1, h2⟩⟩
      · cases h
    | _ => simp [intsOf] at h
theorem sel_get {k : IntKind} {es : List Int} {e : Int} (h : ∀ n ∈ es, okI k n) (h0 : 0 ≤ e) (h1 : e < (es.length : Int)) : (es.map (Value.int k))[e.toNat]? = some (.int k (sel es e)) ∧ okI k (sel es e) := by
  have hlt : e.toNat < es.length := by omega
  have hs : sel es e = es[e.toNat] := by simp [sel, hlt]
  exact ⟨by simp [hlt, hs], by rw [hs]; exact h _ (List.getElem_mem hlt)⟩
theorem run_loadVar_cell {t : TypeId} {b o : Nat} {v : Value} (ht : (isAgg t).run P w = .ok false w) (hc : w.cell? ⟨b, o, none⟩ = some v) : (loadVar t ⟨b, o, none⟩).run P w = .ok v w := by
  unfold loadVar
  simp [ht, hc]
theorem run_loadVar_agg {t : TypeId} {b o n : Nat} {cs : List Value} (ht : (isAgg t).run P w = .ok true w) (hs : (sizeOf t).run P w = .ok n w) (hn : cs.length = n)
    (hc : ∀ j v, cs[j]? = some v → w.cell? ⟨b, o + j, none⟩ = some v) : (loadVar t ⟨b, o, none⟩).run P w = .ok (.agg cs.toArray) w := by
  have hl := run_loadCells_list (P := P) w ⟨b, o, none⟩ cs (fun j v h => by rw [add_addr]; exact hc j v h)
  subst hn
  unfold loadVar
  simp [ht, hs, hl]
theorem loadA_sound {C : Cfg} {B : Nat → Prop} {w0 : World} {mem : Mem} {t : TypeId} {x v : AV} {ps : List Cnd} {vx : Value} (hm : MR C B w0 env mem w) (h : loadA P mem t x = some (ps, v)) (hp : allP ps) (hx : x.R env mem.n vx) :
    RunV P w env mem.n (Instr.loadAt t vx) v := by
  unfold loadA at h
  split at h
  · rename_i b o
    obtain ⟨hb, rfl⟩ := hx
    have hrun : ∀ z, (loadVar t ⟨env b, o, none⟩).run P w = .ok z w → (Instr.loadAt t ((SV.ptr b o).conc env)).run P w = .ok z w := fun z hz => by
      simp [SV.conc, Instr.loadAt, Instr.sureAddr, hz]
    split at h
    · rename_i l n hg ha
      obtain ⟨ab, hmb, hg⟩ := Option.bind_eq_some_iff.1 hg
      obtain ⟨vs, rest, ty, fr, hh, hl⟩ := block_of (hm.blk b ab hmb) hg
      split at h
      · rename_i r hr
        cases h
        obtain ⟨h1, h2, h3⟩ := seg_spec hr
        obtain ⟨ht, hs⟩ := aggSize_some (w := w) ha
        have hall : All2 (SV.R env mem.n) r ((vs.drop o).take n) := by rw [h1]; exact (hl.drop o).take n
        refine ⟨.agg ((vs.drop o).take n).toArray, hrun _ (run_loadVar_agg ht hs (hall.length.symm.trans h2) fun j v hj => ?_), _, rfl, hall⟩
        rw [cell_at hh]
        have hj' : vs[o + j]? = some v := by
          rw [List.getElem?_take] at hj
          split at hj
          · simpa [List.getElem?_drop] using hj
          · cases hj
        rw [List.getElem?_append_left (List.getElem?_eq_some_iff.1 hj').1]
        exact hj'
      · cases h
    · rename_i l hg ha
      obtain ⟨ab, hmb, hg⟩ := Option.bind_eq_some_iff.1 hg
      obtain ⟨vs, rest, ty, fr, hh, hl⟩ := block_of (hm.blk b ab hmb) hg
      split at h
      · rename_i s hs
        cases h
        obtain ⟨z, hz, hr⟩ := All2.get hl hs
        refine ⟨z, hrun _ (run_loadVar_cell (aggSize_none ha) ?_), hr⟩
        rw [cell_at hh, List.getElem?_append_left (List.getElem?_eq_some_iff.1 hz).1]
        exact hz
      · cases h
    · rename_i ha
      split at h
      · rename_i k L hg
        cases h
        obtain ⟨ab, hmb, hg⟩ := Option.bind_eq_some_iff.1 hg
        have hlt : (o : Int) < (L.length : Int) := hp.2.1
        obtain ⟨rest, ty, fr, hh, hok⟩ := ints_of (hm.blk b ab hmb) hg (fun e => by subst e; simp at hlt; omega)
        obtain ⟨h3, h4⟩ := sel_get hok hp.1 hlt
        refine ⟨_, hrun _ (run_loadVar_cell (aggSize_none ha) ?_), si_R h4⟩
        rw [Int.toNat_natCast] at h3
        rw [cell_at hh, List.getElem?_append_left (List.getElem?_eq_some_iff.1 h3).1]
        exact h3
      · cases h
    · cases h
  · rename_i b g e
    obtain ⟨hb, rfl⟩ := hx
    split at h
    · rename_i k L g' hmb ha
      split at h
      · rename_i hg
        have hg := Nat.eq_of_beq_eq_true hg
        subst hg
        cases h
        have hlt : e < (L.length : Int) := hp.2.1
        have h0 : 0 ≤ e := hp.1
        rcases hm.blk b _ hmb with hL | ⟨front, rest, ty, fr, hh, ⟨hf, _, hok⟩, _⟩
        · subst hL; simp at hlt; omega
        · obtain ⟨h3, h4⟩ := sel_get hok h0 hlt
          refine ⟨_, ?_, si_R h4⟩
          have hld : (loadVar t ⟨env b, env g + e.toNat, none⟩).run P w = .ok (.int k (sel L e)) w := by
            refine run_loadVar_cell (aggSize_none ha) ?_
            rw [cell_at hh, List.getElem?_append_right (by omega), show env g + e.toNat - front.length = e.toNat by omega, List.getElem?_append_left (List.getElem?_eq_some_iff.1 h3).1]
            exact h3
          simp [SV.conc, Instr.loadAt, Instr.sureAddr, hld]
      · cases h
    · cases h
  · rename_i b e
    obtain ⟨hb, rfl⟩ := hx
    have hrun : ∀ z, (loadVar t ⟨env b, e.toNat, none⟩).run P w = .ok z w → (Instr.loadAt t ((SV.ptrS b e).conc env)).run P w = .ok z w := fun z hz => by
      simp [SV.conc, Instr.loadAt, Instr.sureAddr, hz]
    split at h
    · rename_i l hg ha
      obtain ⟨ab, hmb, hg⟩ := Option.bind_eq_some_iff.1 hg
      obtain ⟨vs, rest, ty, fr, hh, hl⟩ := block_of (hm.blk b ab hmb) hg
      split at h
      · rename_i k hk
        split at h
        · rename_i es he
          cases h
          obtain ⟨h1, h2⟩ := intsOf_R he hl
          obtain ⟨h3, h4⟩ := sel_get h2 hp.1 hp.2.1
          refine ⟨_, hrun _ (run_loadVar_cell (aggSize_none ha) ?_), si_R h4⟩
          rw [cell_at hh, h1, List.getElem?_append_left (List.getElem?_eq_some_iff.1 h3).1]
          exact h3
        · cases h
      · cases h
    · rename_i ha
      split at h
      · rename_i k L hg
        cases h
        obtain ⟨ab, hmb, hg⟩ := Option.bind_eq_some_iff.1 hg
        have hlt : e < (L.length : Int) := hp.2.1
        have h0 : 0 ≤ e := hp.1
        obtain ⟨rest, ty, fr, hh, hok⟩ := ints_of (hm.blk b ab hmb) hg (fun e' => by subst e'; simp at hlt; omega)
        obtain ⟨h3, h4⟩ := sel_get hok h0 hlt
        refine ⟨_, hrun _ (run_loadVar_cell (aggSize_none ha) ?_), si_R h4⟩
        rw [cell_at hh, List.getElem?_append_left (List.getElem?_eq_some_iff.1 h3).1]
        exact h3
      · cases h
    · cases h
  · cases h
theorem idxA_sound {e : TypeId} {len b o : Nat} {ix v : AV} {ps : List Cnd} {vi : Value} {n : Nat} (hb : b < m) (h : idxA P e len b o ix = some (ps, v)) (hp : allP ps) (hi : ix.R env m vi) :
    ∃ k i sz, vi = .int k i ∧ 0 ≤ i ∧ i < (len : Int) ∧ sizeA P e = some sz ∧ v.R env m (.pointer (some ⟨env b, o + i.toNat * sz, none⟩)) ∧ n = n := by
  unfold idxA at h
  split at h
  · rename_i sz k i hs hi'
    obtain ⟨rfl, hk⟩ := int_val (.inl hi') hi
    split at h
    · rename_i hb2
      simp only [Bool.and_eq_true, decide_eq_true_eq] at hb2
      cases h
      exact ⟨k, i, sz, rfl, hb2.1, hb2.2, hs, ⟨hb, rfl⟩, rfl⟩
    · cases h
  · rename_i sz k i hs hi'
    obtain ⟨rfl, hk⟩ := int_val (.inr hi') hi
    split at h
    · rename_i hb2
      simp only [Bool.and_eq_true] at hb2
      have e1 := Nat.eq_of_beq_eq_true hb2.1
      have e2 := Nat.eq_of_beq_eq_true hb2.2
      subst e1; subst e2
      cases h
      exact ⟨k, i, 1, rfl, hp.1, hp.2.1, hs, ⟨hb, by simp [SV.conc]⟩, rfl⟩
    · cases h
  · cases h
theorem idxQ_sound {e : TypeId} {n b o : Nat} {ix v : AV} {ps : List Cnd} {vi : Value} (hb : b < m) (h : idxQ P e n b o ix = some (ps, v)) (hp : allP ps) (hi : ix.R env m vi) :
    ∃ k i, vi = .int k i ∧ 0 ≤ i ∧ i < (n : Int) ∧ sizeA P e = some 1 ∧ v.R env m (.pointer (some ⟨env b, o + i.toNat, none⟩)) := by
  have fin : ∀ (k : IntKind) (i : Int) (sz : Nat), sizeA P e = some sz → vi = .int k i → (match Nat.beq sz 1 with | true => some ([0 ≤ i, i < (n : Int)], AV.one (.ptrS b ((o : Int) + i))) | false => none) = some (ps, v) →
      ∃ k i, vi = .int k i ∧ 0 ≤ i ∧ i < (n : Int) ∧ sizeA P e = some 1 ∧ v.R env m (.pointer (some ⟨env b, o + i.toNat, none⟩)) := fun k i sz hs hv h => by
    split at h
    · rename_i hz
      have hz := Nat.eq_of_beq_eq_true hz
      subst hz
      cases h
      refine ⟨k, i, hv, hp.1, hp.2.1, hs, hb, ?_⟩
      have h0 : 0 ≤ i := hp.1
      simp only [SV.conc]
      congr 3
      omega
    · cases h
  unfold idxQ at h
  split at h
  · rename_i sz k i hs hi'
    exact fin k i sz hs (int_val (.inl hi') hi).1 h
  · rename_i sz k i hs hi'
    exact fin k i sz hs (int_val (.inr hi') hi).1 h
  · cases h
theorem indexAddrA_sound {t : TypeId} {x ix v : AV} {ps : List Cnd} {vx vi : Value} (h : indexAddrA P t x ix = some (ps, v)) (hp : allP ps) (hx : x.R env m vx) (hi : ix.R env m vi) :
    RunV P w env m (Instr.indexAt t vx vi) v := by
  unfold indexAddrA at h
  split at h
  · rename_i n e b o hu
    obtain ⟨hb, rfl⟩ := hx
    split at h
    · rename_i hn
      have hn := of_decide_eq_true hn
      obtain ⟨k, i, sz, rfl, h0, h1, hs, hr, _⟩ := idxA_sound (n := 0) hb h hp hi
      refine ⟨_, ?_, hr⟩
      simp [SV.conc, Instr.indexAt, asIntOf, run_underlying hu, Instr.sureAddr, h0, h1, sizeA_run hs, add_addr]
    · cases h
  · rename_i e b o n c hu
    obtain ⟨hb, rfl⟩ := hx
    obtain ⟨k, i, sz, rfl, h0, h1, hs, hr, _⟩ := idxA_sound (n := 0) hb.1 h hp hi
    refine ⟨_, ?_, hr⟩
    simp [SV.conc, Instr.indexAt, asIntOf, run_underlying hu, h0, h1, sizeA_run hs, add_addr]
  · rename_i e b o n hu
    obtain ⟨hb, c, hc, _, rfl⟩ := hx
    obtain ⟨k, i, sz, rfl, h0, h1, hs, hr, _⟩ := idxA_sound (n := 0) hb h hp hi
    refine ⟨_, ?_, hr⟩
    simp [Instr.indexAt, asIntOf, run_underlying hu, h0, h1, sizeA_run hs, add_addr]
  · rename_i e b g o n hu
    obtain ⟨hb, o', ho, hg1, hg2, rfl⟩ := hx
    obtain ⟨k, i, rfl, h0, h1, hs, hr⟩ := idxQ_sound hb.1 h hp hi
    have ho : o' = o := by
      rcases ho with ho | ho
      · exact ho
      · omega
    subst ho
    refine ⟨_, ?_, hr⟩
    simp [Instr.indexAt, asIntOf, run_underlying hu, h0, h1, sizeA_run hs, add_addr]
  · rename_i e b o n hu
    obtain ⟨hb, p, c, hc, hc2, rfl, hn⟩ := hx
    obtain ⟨k, i, rfl, h0, h1, hs, hr⟩ := idxQ_sound hb h hp hi
    have hn : p = some ⟨env b, o, none⟩ := by
      rcases hn with hn | hn
      · omega
      · exact hn
    subst hn
    refine ⟨_, ?_, hr⟩
    simp [Instr.indexAt, asIntOf, run_underlying hu, h0, h1, sizeA_run hs, add_addr]
  · rename_i e b g o n hu
    obtain ⟨hb, p, c, hc, hc2, rfl, hn⟩ := hx
    unfold idxR at h
    split at h
    · rename_i qs b' e' hq
      cases h
      obtain ⟨k, i, rfl, h0, h1, hs, hr⟩ := idxQ_sound hb.1 hq hp hi
      have hn : p = some ⟨env b, env g + o, none⟩ := by
        rcases hn with hn | hn
        · omega
        · exact hn
      subst hn
      have he : b' = b ∧ e' = (o : Int) + i ∧ (0 : Int) ≤ i := by
        unfold idxQ at hq
        rw [hs] at hq
        cases hx : ix.int with
        | l k' i' =>
          rw [hx] at hq
          obtain ⟨he, _⟩ := int_val (.inl hx) hi
          cases he
          have hq : some (([0 ≤ i, i < (n : Int)] : List Cnd), AV.one (.ptrS b ((o : Int) + i))) = some (ps, AV.one (.ptrS b' e')) := hq
          cases hq
          exact ⟨rfl, rfl, h0⟩
        | s k' i' =>
          rw [hx] at hq
          obtain ⟨he, _⟩ := int_val (.inr hx) hi
          cases he
          have hq : some (([0 ≤ i, i < (n : Int)] : List Cnd), AV.one (.ptrS b ((o : Int) + i))) = some (ps, AV.one (.ptrS b' e')) := hq
          cases hq
          exact ⟨rfl, rfl, h0⟩
        | no => rw [hx] at hq; cases hq
      obtain ⟨rfl, rfl, h0'⟩ := he
      refine ⟨.pointer (some ⟨env b', env g + o + i.toNat, none⟩), ?_, hb, ?_⟩
      · simp [Instr.indexAt, asIntOf, run_underlying hu, h0, h1, sizeA_run hs, add_addr]
      · simp only [SV.conc]
        congr 3
        omega
    · cases h
  · cases h
theorem run_part_cell {t : TypeId} {cs : Array Value} {o : Nat} {v : Value} (ht : (isAgg t).run P w = .ok false w) (hc : cs[o]? = some v) : (part t cs o).run P w = .ok v w := by
  unfold part
  simp [ht, hc]
theorem run_part_agg {t : TypeId} {cs : List Value} {o n : Nat} (ht : (isAgg t).run P w = .ok true w) (hs : (sizeOf t).run P w = .ok n w) : (part t cs.toArray o).run P w = .ok (.agg ((cs.drop o).take n).toArray) w := by
  unfold part
  simp [ht, hs]
theorem partS {t : TypeId} {l : List SV} {vs : List Value} {o : Nat} {s : SV} (hl : All2 (SV.R env m) l vs) (ht : aggSize P t = some none) (hs : l[o]? = some s) : RunV P w env m (part t vs.toArray o) (.one s) := by
  obtain ⟨z, hz, hr⟩ := All2.get hl hs
  exact ⟨z, run_part_cell (aggSize_none ht) (by simpa using hz), hr⟩
theorem partL {t : TypeId} {l r : List SV} {vs : List Value} {o n : Nat} (hl : All2 (SV.R env m) l vs) (ht : aggSize P t = some (some n)) (hs : seg l o n = some r) : RunV P w env m (part t vs.toArray o) (.agg r) := by
  obtain ⟨h1, h2, h3⟩ := seg_spec hs
  obtain ⟨ha, hz⟩ := aggSize_some (w := w) ht
  exact ⟨_, run_part_agg ha hz, _, rfl, by rw [h1]; exact (hl.drop o).take n⟩
theorem strAt_sound {t : TypeId} {b : ByteArray} {k : IntKind} {i : Int} (hu : P.underlying t = some .string) (h0 : 0 ≤ i) (h1 : i < (b.size : Int)) :
    RunV P w env m (Instr.index t (.string b) (.int k i)) (.one (.si .u8 (sel (bytesI b) i))) := by
  have hlt : i.toNat < b.size := by omega
  refine ⟨.int .u8 ((b[i.toNat]'hlt).toNat : Int), ?_, ?_⟩
  · simp [Instr.index, asIntOf, run_underlying hu, h0, getElem?_pos, hlt]
  · have e : sel (bytesI b) i = ((b[i.toNat]'hlt).toNat : Int) := by
      have hl : i.toNat < b.data.toList.length := by simpa using hlt
      unfold sel bytesI
      rw [List.getD_eq_getElem?_getD, List.getElem?_map, List.getElem?_eq_getElem hl]
      rfl
    rw [e]
    have := (b[i.toNat]'hlt).toNat_lt
    exact ⟨⟨by simp [IntKind.min, IntKind.signed] <;> omega, by simp [IntKind.max, IntKind.signed, IntKind.bits] <;> omega⟩, rfl⟩
theorem indexA_sound {t : TypeId} {x ix v : AV} {ps : List Cnd} {vx vi : Value} (h : indexA P t x ix = some (ps, v)) (hp : allP ps) (hx : x.R env m vx) (hi : ix.R env m vi) :
    RunV P w env m (Instr.index t vx vi) v := by
  unfold indexA at h
  split at h
  · rename_i n e l hu
    obtain ⟨vs, rfl, hl⟩ := hx
    have hrun : ∀ (k : IntKind) (i : Int) (sz : Nat), 0 ≤ i → i < (n : Int) → sizeA P e = some sz → ∀ z, (part e vs.toArray (i.toNat * sz)).run P w = .ok z w → (Instr.index t (.agg vs.toArray) (.int k i)).run P w = .ok z w := fun k i sz h0 h1 hs z hz => by
      simp [Instr.index, asIntOf, run_underlying hu, h0, h1, sizeA_run hs, hz]
    split at h
    · rename_i k i ha hi'
      obtain ⟨rfl, hk⟩ := int_val (.inl hi') hi
      split at h
      · rename_i sz hs hb
        simp only [Bool.and_eq_true, decide_eq_true_eq] at hb
        split at h
        · rename_i s hg
          cases h
          obtain ⟨z, hz, hr⟩ := partS (w := w) hl ha hg
          exact ⟨z, hrun k i sz hb.1 hb.2 hs z hz, hr⟩
        · cases h
      · cases h
    · rename_i k i ha hi'
      obtain ⟨rfl, hk⟩ := int_val (.inr hi') hi
      split at h
      · rename_i sz hs
        split at h
        · rename_i k' hz1 hn hk'
          have e1 := Nat.eq_of_beq_eq_true hz1
          have e2 := Nat.eq_of_beq_eq_true hn
          subst e1
          split at h
          · rename_i es he
            cases h
            obtain ⟨h1, h2⟩ := intsOf_R he hl
            have hlen : es.length = n := by
              have := hl.length
              rw [h1] at this
              simp at this
              omega
            obtain ⟨h3, h4⟩ := sel_get h2 hp.1 (by rw [hlen]; exact hp.2.1)
            refine ⟨_, hrun k i 1 hp.1 hp.2.1 hs _ (run_part_cell (aggSize_none ha) ?_), si_R h4⟩
            rw [h1]
            simpa using h3
          · cases h
        · cases h
      · cases h
    · rename_i sz k i ha hi'
      obtain ⟨rfl, hk⟩ := int_val (.inl hi') hi
      split at h
      · rename_i hb
        simp only [Bool.and_eq_true, decide_eq_true_eq] at hb
        split at h
        · rename_i r hg
          cases h
          obtain ⟨z, hz, hr⟩ := partL (w := w) hl ha hg
          have hs : sizeA P e = some sz := by
            unfold aggSize at ha
            unfold sizeA
            split at ha <;> cases ha <;> simp [*]
          exact ⟨z, hrun k i sz hb.1 hb.2 hs z hz, hr⟩
        · cases h
      · cases h
    · cases h
  · rename_i b hu
    obtain ⟨_, rfl⟩ := hx
    have fin : ∀ (k : IntKind) (i : Int), okI k i → strAt b i = some (ps, v) → RunV P w env m (Instr.index t (.string b) (.int k i)) v := fun k i _ he => by
      cases he
      exact strAt_sound hu hp.1 hp.2.1
    split at h
    · rename_i k i hi'
      obtain ⟨rfl, hk⟩ := int_val (.inl hi') hi
      exact fin k i hk h
    · rename_i k i hi'
      obtain ⟨rfl, hk⟩ := int_val (.inr hi') hi
      exact fin k i hk h
    · cases h
  · cases h
theorem fieldA_sound {t : TypeId} {x v : AV} {f : Nat} {ps : List Cnd} {vx : Value} (h : fieldA P t x f = some (ps, v)) (hx : x.R env m vx) : RunV P w env m (Instr.field t vx f) v := by
  unfold fieldA at h
  split at h
  · rename_i fs l hu
    obtain ⟨vs, rfl, hl⟩ := hx
    split at h
    · rename_i fd hf
      have hrun : ∀ z, (part fd.type vs.toArray fd.offset).run P w = .ok z w → (Instr.field t (.agg vs.toArray) f).run P w = .ok z w := fun z hz => by
        simp [Instr.field, run_underlying hu, hf, asAgg, hz]
      split at h
      · rename_i ha
        split at h
        · rename_i s hs
          cases h
          obtain ⟨z, hz, hr⟩ := partS (w := w) hl ha hs
          exact ⟨z, hrun z hz, hr⟩
        · cases h
      · rename_i sz ha
        split at h
        · rename_i r hs
          cases h
          obtain ⟨z, hz, hr⟩ := partL (w := w) hl ha hs
          exact ⟨z, hrun z hz, hr⟩
        · cases h
      · cases h
    · cases h
  · cases h
theorem fieldAddrA_sound {t : TypeId} {x v : AV} {f : Nat} {ps : List Cnd} {vx : Value} (h : fieldAddrA P t x f = some (ps, v)) (hx : x.R env m vx) : RunV P w env m (Instr.fieldAt t vx f) v := by
  unfold fieldAddrA at h
  split at h
  · rename_i fs b o hu
    obtain ⟨hb, rfl⟩ := hx
    split at h
    · rename_i fd hf
      split at h
      · rename_i n hs
        cases h
        refine ⟨_, ?_, ⟨hb, rfl⟩⟩
        simp [SV.conc, Instr.fieldAt, run_underlying hu, hf, Instr.sureAddr, fieldPlace, sizeA_run hs, add_addr]
      · cases h
    · cases h
  · cases h
theorem extractA_sound {x v : AV} {i : Nat} {ps : List Cnd} {vx : Value} (h : extractA x i = some (ps, v)) (hx : x.R env m vx) : RunV P w env m (Instr.extract vx i) v := by
  unfold extractA at h
  split at h
  · rename_i l
    obtain ⟨vs, rfl, hl⟩ := hx
    split at h
    · rename_i s hs
      cases h
      obtain ⟨z, hz, hr⟩ := All2.get hl hs
      refine ⟨z, by simp [Instr.extract, hz], ?_⟩
      cases s with
      | one s => exact hr
      | agg l => exact hr
    · cases h
  · cases h
theorem capsOf_R : ∀ {xs : List AV} {l : List CV} {vs : List Value}, capsOf xs = some l → All2 (AV.R env m) xs vs → vs = l.map (CV.conc env) ∧ ∀ c ∈ l, c.ok m
  | [], l, [], h, _ => by cases h; exact ⟨rfl, by simp⟩
  | [], _, _ :: _, _, h => h.elim
  | _ :: _, _, [], _, h => h.elim
  | x :: xs, l, v :: vs, h, hr => by
    cases x with
    | one s =>
      cases s with
      | ptr b o =>
        simp only [capsOf] at h
        split at h
        · rename_i l' hl'
          cases h
          obtain ⟨h1, h2⟩ := capsOf_R hl' hr.2
          exact ⟨by rw [List.map_cons, ← h1, hr.1.2]; rfl, by simpa using ⟨hr.1.1, h2⟩⟩
        · cases h
      | raw u =>
        simp only [capsOf] at h
        split at h
        · rename_i l' hl'
          cases h
          obtain ⟨h1, h2⟩ := capsOf_R hl' hr.2
          exact ⟨by rw [List.map_cons, ← h1, hr.1.2]; rfl, by simpa using ⟨trivial, h2⟩⟩
        · cases h
      | _ => simp [capsOf] at h
    | _ => simp [capsOf] at h
theorem makeFuncA_sound {fn : Fn} {first caps : List AV} {v : AV} {ps : List Cnd} {v1 v2 : List Value} (h : makeFuncA fn first caps = some (ps, v)) (h1 : All2 (AV.R env m) first v1) (h2 : All2 (AV.R env m) caps v2) :
    RunV P w env m (Instr.makeFunc fn v1.toArray v2.toArray) v := by
  unfold makeFuncA at h
  split at h
  · rename_i f
    have : v1 = [] := by cases v1 with | nil => rfl | cons _ _ => exact h1.elim
    subst this
    split at h
    · rename_i l hl
      cases h
      obtain ⟨h3, h4⟩ := capsOf_R hl h2
      exact ⟨_, rfl, h4, by rw [h3]; rfl⟩
    · cases h
  · rename_i f b o
    match v1, h1 with
    | [x], h1 =>
      obtain ⟨⟨hb, rfl⟩, _⟩ := h1
      split at h
      · cases h
        cases v2 with
        | nil => exact ⟨_, rfl, hb, rfl⟩
        | cons _ _ => exact h2.elim
      · cases h
    | [], h1 => exact h1.elim
    | _ :: _ :: _, h1 => exact h1.2.elim
  · cases h
end
end Go.Ax

namespace Go.Ax
open Go Go.RowKit
section
variable {P : Program} {w : World} {env : Nat → Nat} {m : Nat}
def OptR (env : Nat → Nat) (m : Nat) : Option AV → Option Value → Prop
  | none, none => True
  | some x, some v => x.R env m v
  | _, _ => False
theorem optInt_R {d n : Nat} {x : Option AV} {v : Option Value} (h : optInt d x = some n) (hx : OptR env m x v) : (v = none ∧ n = d) ∨ ∃ k i, v = some (.int k i) ∧ 0 ≤ i ∧ i.toNat = n := by
  cases x with
  | none =>
    cases v with
    | none => simp [optInt] at h; exact .inl ⟨rfl, h.symm⟩
    | some v => exact hx.elim
  | some x =>
    cases v with
    | none => exact hx.elim
    | some v =>
      simp only [optInt] at h
      split at h
      · rename_i k i hi
        obtain ⟨rfl, _⟩ := int_val (.inl hi) hx
        split at h
        · rename_i hb
          cases h
          exact .inr ⟨k, i, rfl, of_decide_eq_true hb, rfl⟩
        · cases h
      · cases h
theorem run_sliceBound {k : IntKind} {i : Int} {y : Nat} {c : BoundsCode} (h0 : 0 ≤ i) (h1 : i.toNat ≤ y) : (Instr.sliceBound (.int k i) y c).run P w = .ok i.toNat w := by
  have : i ≤ (y : Int) := by omega
  simp [Instr.sliceBound, asIntOf, h0, this]
theorem boundsA_run {isSlice : Bool} {len cap l h mx : Nat} {lo hi ma : Option AV} {vl vh vm : Option Value} (hb : boundsA len cap lo hi ma = some (l, h, mx))
    (h1 : OptR env m lo vl) (h2 : OptR env m hi vh) (h3 : OptR env m ma vm) :
    (Instr.sliceBounds isSlice len cap vl vh vm).run P w = .ok (l, h, mx) w ∧ l ≤ h ∧ h ≤ mx ∧ mx ≤ cap ∧ cap ≤ 9223372036854775807 := by
  unfold boundsA at hb
  split at hb
  · rename_i l' h' m' e1 e2 e3
    split at hb
    · rename_i hc
      cases hb
      simp only [Bool.and_eq_true, Bool.or_eq_true, decide_eq_true_eq] at hc
      obtain ⟨⟨⟨⟨c1, c2⟩, c3⟩, c4⟩, c5⟩ := hc
      refine ⟨?_, c1, c2, c3, c5⟩
      have o1 := optInt_R e1 h1
      have o2 := optInt_R e2 h2
      have o3 := optInt_R e3 h3
      rcases o3 with ⟨rfl, rfl⟩ | ⟨k3, i3, rfl, p3, rfl⟩ <;> rcases o2 with ⟨rfl, rfl⟩ | ⟨k2, i2, rfl, p2, rfl⟩ <;> rcases o1 with ⟨rfl, rfl⟩ | ⟨k1, i1, rfl, p1, rfl⟩
      all_goals first
        | (simp [Instr.sliceBounds, run_sliceBound (P := P) (w := w), *]; done)
        | (exfalso
           cases hi with
           | none => cases ma with
             | none => exact h3.elim
             | some _ => simp at c4
           | some _ => exact h2.elim)
    · cases hb
  · cases hb
theorem boundsA_run_cap {len l h mx c : Nat} {lo hi : Option AV} {vl vh : Option Value} (hb : boundsA len len lo hi none = some (l, h, mx)) (hc : len ≤ c)
    (h1 : OptR env m lo vl) (h2 : OptR env m hi vh) :
    (Instr.sliceBounds true len c vl vh none).run P w = .ok (l, h, c) w ∧ l ≤ h ∧ h ≤ len := by
  unfold boundsA at hb
  split at hb
  · rename_i l' h' m' e1 e2 e3
    split at hb
    · rename_i hc'
      cases hb
      simp only [optInt, Option.some.injEq] at e3
      subst e3
      simp only [Bool.and_eq_true, Bool.or_eq_true, decide_eq_true_eq] at hc'
      obtain ⟨⟨⟨⟨c1, c2⟩, c3⟩, c4⟩, c5⟩ := hc'
      refine ⟨?_, c1, c2⟩
      have o1 := optInt_R e1 h1
      have o2 := optInt_R e2 h2
      rcases o2 with ⟨rfl, rfl⟩ | ⟨k2, i2, rfl, p2, rfl⟩ <;> rcases o1 with ⟨rfl, rfl⟩ | ⟨k1, i1, rfl, p1, rfl⟩
      · simp [Instr.sliceBounds]
      · simp [Instr.sliceBounds, run_sliceBound (P := P) (w := w), *]
      · have : i2.toNat ≤ c := by omega
        simp [Instr.sliceBounds, run_sliceBound (P := P) (w := w), *]
      · have : i2.toNat ≤ c := by omega
        simp [Instr.sliceBounds, run_sliceBound (P := P) (w := w), *]
    · cases hb
  · cases hb
theorem bndI_R {d n : Int} {x : Option AV} {v : Option Value} (h : bndI d x = some n) (hx : OptR env m x v) : (x = none ∧ v = none ∧ n = d) ∨ (∃ y k, x = some y ∧ v = some (.int k n)) := by
  cases x with
  | none =>
    cases v with
    | none => simp [bndI] at h; exact .inl ⟨rfl, rfl, h.symm⟩
    | some v => exact hx.elim
  | some x =>
    cases v with
    | none => exact hx.elim
    | some v =>
      simp only [bndI] at h
      split at h
      · rename_i i hi; cases h; exact .inr ⟨x, _, rfl, by rw [(int_val (.inl hi) hx).1]⟩
      · rename_i i hi; cases h; exact .inr ⟨x, _, rfl, by rw [(int_val (.inr hi) hx).1]⟩
      · cases h
theorem zeroB_R {x : Option AV} {v : Option Value} (h : zeroB x = true) (hx : OptR env m x v) : ∃ k, v = some (.int k 0) := by
  cases x with
  | none => cases h
  | some x =>
    cases v with
    | none => exact hx.elim
    | some v =>
      simp only [zeroB] at h
      split at h
      · rename_i hi; exact ⟨_, by rw [(int_val (.inl hi) hx).1]⟩
      · cases h
theorem run_bounds2 {n c : Nat} {l h : Int} {lo hi : Option AV} {vl vh : Option Value} (e1 : bndI 0 lo = some l) (e2 : bndI (n : Int) hi = some h) (h1 : OptR env m lo vl) (h2 : OptR env m hi vh) (q1 : 0 ≤ l) (q2 : l ≤ h) (q3 : h ≤ (n : Int)) (hc : n ≤ c) :
    (Instr.sliceBounds true n c vl vh none).run P w = .ok (l.toNat, h.toNat, c) w := by
  have g1 : h.toNat ≤ c := by omega
  have g2 : l.toNat ≤ h.toNat := by omega
  rcases bndI_R e2 h2 with ⟨_, rfl, rfl⟩ | ⟨_, k2, _, rfl⟩ <;> rcases bndI_R e1 h1 with ⟨_, rfl, rfl⟩ | ⟨_, k1, _, rfl⟩
  · simp [Instr.sliceBounds]
  · simp [Instr.sliceBounds, run_sliceBound (P := P) (w := w) q1 (show l.toNat ≤ n by omega)]
  · simp [Instr.sliceBounds, run_sliceBound (P := P) (w := w) (show 0 ≤ h by omega) g1]
  · simp [Instr.sliceBounds, run_sliceBound (P := P) (w := w) (show 0 ≤ h by omega) g1, run_sliceBound (P := P) (w := w) q1 g2]
theorem run_bounds3 {n c : Nat} {l h x : Int} {lo hi mx : Option AV} {vl vh vm : Option Value} {y : AV} (hmx : mx = some y) (e1 : bndI 0 lo = some l) (e2 : bndI (n : Int) hi = some h) (e3 : bndI 0 mx = some x) (h1 : OptR env m lo vl) (h2 : OptR env m hi vh) (h3 : OptR env m mx vm)
    (hhi : hi ≠ none) (q1 : 0 ≤ l) (q2 : l ≤ h) (q3 : h ≤ x) (q4 : x ≤ (n : Int)) (hc : n ≤ c) :
    (Instr.sliceBounds true n c vl vh vm).run P w = .ok (l.toNat, h.toNat, x.toNat) w := by
  have g0 : x.toNat ≤ c := by omega
  have g1 : h.toNat ≤ x.toNat := by omega
  have g2 : l.toNat ≤ h.toNat := by omega
  rcases bndI_R e3 h3 with ⟨q, _, _⟩ | ⟨_, k3, _, rfl⟩
  · rw [hmx] at q; cases q
  rcases bndI_R e2 h2 with ⟨q, _, _⟩ | ⟨_, k2, _, rfl⟩
  · exact absurd q hhi
  rcases bndI_R e1 h1 with ⟨_, rfl, rfl⟩ | ⟨_, k1, _, rfl⟩
  · simp [Instr.sliceBounds, run_sliceBound (P := P) (w := w) (show 0 ≤ x by omega) g0, run_sliceBound (P := P) (w := w) (show 0 ≤ h by omega) g1]
  · simp [Instr.sliceBounds, run_sliceBound (P := P) (w := w) (show 0 ≤ x by omega) g0, run_sliceBound (P := P) (w := w) (show 0 ≤ h by omega) g1, run_sliceBound (P := P) (w := w) q1 g2]
theorem offQ_eq {o : Nat} {lo : Option AV} {l : Int} (h : bndI 0 lo = some l) : offQ o lo l = o + l.toNat := by
  cases lo with
  | none => simp [bndI] at h; subst h; rfl
  | some x => rfl
theorem lenQ_eq {lo : Option AV} {l h : Int} (e : bndI 0 lo = some l) : lenQ lo l h = h.toNat - l.toNat := by
  cases lo with
  | none => simp [bndI] at e; subst e; rfl
  | some x => rfl
theorem sliceQ_sound {t e : TypeId} {b o n : Nat} {g : Option Nat} {v : AV} {lo hi ma : Option AV} {ps : List Cnd} {vx : Value} {vl vh vm : Option Value} (hu : P.underlying t = some (.slice e)) (h : sliceQ P e b g o n lo hi ma = some (ps, v)) (hp : allP ps)
    (hx : (match g with | some g => SV.sq b g o n | none => SV.slq b o n).R env m vx) (h1 : OptR env m lo vl) (h2 : OptR env m hi vh) (h3 : OptR env m ma vm) : RunV P w env m (Instr.sliceAt t vx vl vh vm) v := by
  obtain ⟨p, c, hb, rfl, hnc, hc, hpo⟩ : ∃ p c, b < m ∧ vx = .slice p n c ∧ n ≤ c ∧ c ≤ 9223372036854775807 ∧ (n = 0 ∨ p = some ⟨env b, o, none⟩) := by
    cases g with
    | some g =>
      obtain ⟨hb, o', ho, hg1, hg2, rfl⟩ := hx
      refine ⟨_, _, hb.1, rfl, by omega, by omega, ?_⟩
      by_cases h0 : n = 0
      · exact .inl h0
      · right
        rcases ho with rfl | ho
        · rfl
        · omega
    | none =>
      obtain ⟨hb, p, c, hc, hc2, rfl, hn⟩ := hx
      exact ⟨p, c, hb, rfl, hc, hc2, hn⟩
  unfold sliceQ at h
  split at h
  · rename_i sz hs
    split at h
    · rename_i hz hlo hzz
      cases h
      simp only [Bool.and_eq_true] at hzz
      obtain ⟨k2, rfl⟩ := zeroB_R hzz.1 h2
      obtain ⟨k3, rfl⟩ := zeroB_R hzz.2 h3
      have hvl : vl = none := by cases vl with | none => rfl | some _ => exact h1.elim
      subst hvl
      have hr : (Instr.sliceBounds true n c none (some (.int k2 0)) (some (.int k3 0))).run P w = .ok (0, 0, 0) w := by
        simp [Instr.sliceBounds, run_sliceBound (P := P) (w := w) (Int.le_refl 0) (Nat.zero_le _)]
      refine ⟨.slice p 0 0, ?_, trivial, p, rfl⟩
      simp only [Instr.sliceAt, Instr.slice, Sem.run_bind, run_underlying hu, Result.andThen_ok, Sem.run_pure, hr, sizeA_run hs, if_true, Nat.sub_zero]
    · rename_i hz _
      have hz := Nat.eq_of_beq_eq_true hz
      subst hz
      split at h
      · rename_i l h' e1 e2 _
        have hvm : vm = none := by cases vm with | none => rfl | some _ => exact h3.elim
        subst hvm
        cases h
        have q1 : 0 ≤ l := hp.1
        have q2 : l ≤ h' := hp.2.1
        have q3 : h' ≤ (n : Int) := hp.2.2.1
        have hr := run_bounds2 (P := P) (w := w) e1 e2 h1 h2 q1 q2 q3 hnc
        have hrun : ∀ z, z = Value.slice (if c = l.toNat then p else p.map (·.add (l.toNat * 1))) (h'.toNat - l.toNat) (c - l.toNat) → (Instr.sliceAt t (.slice p n c) vl vh none).run P w = .ok z w := fun z hz => by
          rw [hz]
          simp only [Instr.sliceAt, Instr.slice, Sem.run_bind, run_underlying hu, Result.andThen_ok, Sem.run_pure, hr, sizeA_run hs]
        cases g with
        | some g =>
          obtain ⟨hb', o', ho, hg1, hg2, hx⟩ := hx
          simp only [Value.slice.injEq] at hx
          obtain ⟨hx1, -, hx2⟩ := hx
          refine ⟨_, hrun _ rfl, ⟨hb', if c = l.toNat then o' else o' + l.toNat, ?_, ?_, hg2, ?_⟩⟩
          · rw [offQ_eq e1]
            split
            · right; omega
            · left
              rcases ho with rfl | ho
              · rfl
              · omega
          · rw [offQ_eq e1, lenQ_eq e1]; omega
          · rw [offQ_eq e1, lenQ_eq e1, hx1]
            have e3 : c - l.toNat = env g - (o + l.toNat) := by omega
            rw [e3]
            split
            · rfl
            · simp only [Option.map_some, add_addr, Nat.mul_one]
        | none =>
          refine ⟨_, hrun _ rfl, ⟨hb, _, _, ?_, ?_, by rw [lenQ_eq e1], ?_⟩⟩
          · rw [lenQ_eq e1]; omega
          · omega
          · rw [lenQ_eq e1, offQ_eq e1]
            by_cases h0 : h'.toNat - l.toNat = 0
            · exact .inl h0
            · right
              have hne : ¬ c = l.toNat := by omega
              rw [if_neg hne]
              rcases hpo with hpo | hpo
              · omega
              · rw [hpo]; simp only [Option.map_some, add_addr, Nat.mul_one]
      · rename_i y l h' e1 e2 _
        split at h
        · rename_i x e3 hsome
          cases h
          have q1 : 0 ≤ l := hp.1
          have q2 : l ≤ h' := hp.2.1
          have q3 : h' ≤ x := hp.2.2.1
          have q4 : x ≤ (n : Int) := hp.2.2.2.1
          have hhi : hi ≠ none := fun e => by subst e; cases hsome
          · have hr := run_bounds3 (P := P) (w := w) rfl e1 e2 e3 h1 h2 h3 hhi q1 q2 q3 q4 hnc
            refine ⟨.slice (if x.toNat = l.toNat then p else p.map (·.add (l.toNat * 1))) (h'.toNat - l.toNat) (x.toNat - l.toNat), ?_, hb, _, _, ?_, ?_, by rw [lenQ_eq e1], ?_⟩
            · simp only [Instr.sliceAt, Instr.slice, Sem.run_bind, run_underlying hu, Result.andThen_ok, Sem.run_pure, hr, sizeA_run hs]
            · rw [lenQ_eq e1]; omega
            · omega
            · rw [lenQ_eq e1, offQ_eq e1]
              by_cases h0 : h'.toNat - l.toNat = 0
              · exact .inl h0
              · right
                have hne : ¬ x.toNat = l.toNat := by omega
                rw [if_neg hne]
                rcases hpo with hpo | hpo
                · omega
                · rw [hpo]; simp only [Option.map_some, add_addr, Nat.mul_one]
        · cases h
      · cases h
    · cases h
  · cases h
theorem sliceR_sound {t e : TypeId} {b g o n : Nat} {v : AV} {lo hi ma : Option AV} {ps : List Cnd} {vx : Value} {vl vh vm : Option Value} (hu : P.underlying t = some (.slice e)) (h : sliceR P e b g o n lo hi ma = some (ps, v)) (hp : allP ps)
    (hx : (SV.slr b g o n).R env m vx) (h1 : OptR env m lo vl) (h2 : OptR env m hi vh) (h3 : OptR env m ma vm) : RunV P w env m (Instr.sliceAt t vx vl vh vm) v := by
  obtain ⟨hb, p, c, hc, hc2, rfl, hn⟩ := hx
  have hx : (SV.slq b (env g + o) n).R env m (.slice p n c) := ⟨hb.1, p, c, hc, hc2, rfl, hn⟩
  have key : ∀ x, sliceQ P e b none o n lo hi ma = some (ps, x) → ∃ x', sliceQ P e b none (env g + o) n lo hi ma = some (ps, x') ∧ ((x = .one .e0 ∧ x' = .one .e0) ∨ ∃ o' n', x = .one (.slq b o' n') ∧ x' = .one (.slq b (env g + o') n')) := fun x hq => by
    have hoff : ∀ l : Int, offQ (env g + o) lo l = env g + offQ o lo l := fun l => by
      cases lo with
      | none => rfl
      | some _ => simp only [offQ]; omega
    unfold sliceQ at hq ⊢
    split at hq
    · split at hq
      · cases hq; exact ⟨_, rfl, .inl ⟨rfl, rfl⟩⟩
      · split at hq
        · rename_i e1 e2 _
          cases hq
          refine ⟨_, rfl, .inr ⟨_, _, rfl, ?_⟩⟩
          rw [hoff]
        · split at hq
          · cases hq
            refine ⟨_, rfl, .inr ⟨_, _, rfl, ?_⟩⟩
            rw [hoff]
          · cases hq
        · cases hq
      · cases hq
    · cases hq
  unfold sliceR at h
  split at h
  · rename_i qs b' o' n' hq
    cases h
    obtain ⟨x', q1, ⟨q, _⟩ | ⟨o2, n2, q2, q3⟩⟩ := key _ hq
    · cases q
    · cases q2
      subst q3
      obtain ⟨z, hz, hr⟩ := sliceQ_sound (g := none) hu q1 hp hx h1 h2 h3
      obtain ⟨_, p', c', r1, r2, rfl, r3⟩ := hr
      exact ⟨_, hz, hb, p', c', r1, r2, rfl, r3⟩
  · rename_i qs hq
    cases h
    obtain ⟨x', q1, ⟨_, q2⟩ | ⟨o2, n2, q2, _⟩⟩ := key _ hq
    · subst q2
      exact sliceQ_sound (g := none) hu q1 hp hx h1 h2 h3
    · cases q2
  · cases h
theorem sliceA_sound {t : TypeId} {x v : AV} {lo hi ma : Option AV} {ps : List Cnd} {vx : Value} {vl vh vm : Option Value} (h : sliceA P t x lo hi ma = some (ps, v)) (hp : allP ps) (hx : x.R env m vx)
    (h1 : OptR env m lo vl) (h2 : OptR env m hi vh) (h3 : OptR env m ma vm) : RunV P w env m (Instr.sliceAt t vx vl vh vm) v := by
  have hoff : ∀ (b o l mx sz : Nat), (if mx = l then (⟨b, o, none⟩ : Addr) else (⟨b, o, none⟩ : Addr).add (l * sz)) = ⟨b, offA mx l o sz, none⟩ := fun b o l mx sz => by
    unfold offA
    by_cases e : mx = l
    · have : Nat.beq mx l = true := by rw [e]; exact Nat.beq_refl l
      rw [if_pos e, this]
    · have : Nat.beq mx l = false := by
        cases hq : Nat.beq mx l with
        | true => exact absurd (Nat.eq_of_beq_eq_true hq) e
        | false => rfl
      rw [if_neg e, this, add_addr]
  unfold sliceA at h
  split at h
  · rename_i n e b o hu
    obtain ⟨hb, rfl⟩ := hx
    split at h
    · rename_i l h' mx sz hbd hs
      cases h
      obtain ⟨hr, q1, q2, q3, q4⟩ := boundsA_run (P := P) (w := w) (isSlice := false) hbd h1 h2 h3
      refine ⟨_, ?_, ⟨⟨hb, by omega, by omega⟩, rfl⟩⟩
      simp only [SV.conc, Instr.sliceAt, Sem.run_bind, run_underlying hu, Result.andThen_ok, Instr.sureAddr, Sem.run_pure, hr, sizeA_run hs, hoff]
    · cases h
  · rename_i e b o len cap hu
    obtain ⟨hb, rfl⟩ := hx
    split at h
    · rename_i l h' mx sz hbd hs
      cases h
      obtain ⟨hr, q1, q2, q3, q4⟩ := boundsA_run (P := P) (w := w) (isSlice := true) hbd h1 h2 h3
      refine ⟨_, ?_, ⟨⟨hb.1, by omega, by omega⟩, rfl⟩⟩
      have ho := hoff (env b) o l mx sz
      simp only [SV.conc, Instr.sliceAt, Instr.slice, Sem.run_bind, run_underlying hu, Result.andThen_ok, Sem.run_pure, hr, sizeA_run hs, Option.map_some]
      rw [← ho]
      by_cases e : mx = l
      · rw [if_pos e, if_pos e]
      · rw [if_neg e, if_neg e]
    · cases h
  · rename_i e b o len hu
    obtain ⟨hb, c, hc, hc2, rfl⟩ := hx
    cases ma with
    | some _ => cases h
    | none =>
      have hvm : vm = none := by cases vm with | none => rfl | some _ => exact h3.elim
      subst hvm
      dsimp only at h
      split at h
      · cases h
      · rename_i l h' mx hbd
        split at h
        · rename_i sz hs hlt
          cases h
          have hlt := of_decide_eq_true hlt
          obtain ⟨hr, hr1, hr2⟩ := boundsA_run_cap (P := P) (w := w) hbd hc h1 h2
          refine ⟨.slice (some ⟨env b, o + l * sz, none⟩) (h' - l) (c - l), ?_, ⟨hb, c - l, by omega, by omega, rfl⟩⟩
          have hne : ¬ c = l := by omega
          simp only [Instr.sliceAt, Instr.slice, Sem.run_bind, run_underlying hu, Result.andThen_ok, Sem.run_pure, hr, sizeA_run hs, Option.map_some, if_neg hne, add_addr]
        · cases h
  · rename_i e b g o n hu; exact sliceQ_sound (g := some g) hu h hp hx h1 h2 h3
  · rename_i e b o n hu; exact sliceQ_sound (g := none) hu h hp hx h1 h2 h3
  · rename_i e b g o n hu; exact sliceR_sound hu h hp hx h1 h2 h3
  · cases h
theorem toArrPtrA_sound {t : TypeId} {x v : AV} {ps : List Cnd} {vx : Value} (h : toArrPtrA P t x = some (ps, v)) (hx : x.R env m vx) : RunV P w env m (Instr.arrayAt t vx) v := by
  unfold toArrPtrA at h
  split at h
  · rename_i n e b o len c hu
    obtain ⟨hb, rfl⟩ := hx
    split at h
    · rename_i hn
      have hn : ¬ len < n := by have := of_decide_eq_true hn; omega
      cases h
      exact ⟨.pointer (some ⟨env b, o, none⟩), by simp [SV.conc, Instr.arrayAt, run_underlying hu, hn], ⟨hb.1, rfl⟩⟩
    · cases h
  · rename_i n e b o len hu
    obtain ⟨hb, c, hc, _, rfl⟩ := hx
    split at h
    · rename_i hn
      have hn : ¬ len < n := by have := of_decide_eq_true hn; omega
      cases h
      exact ⟨.pointer (some ⟨env b, o, none⟩), by simp [Instr.arrayAt, run_underlying hu, hn], ⟨hb, rfl⟩⟩
    · cases h
  · cases h
theorem pickA_sound {c a b v : AV} {ps : List Cnd} {vc va vb : Value} (h : pickA c a b = some (ps, v)) (hc : c.R env m vc) (ha : a.R env m va) (hb : b.R env m vb) :
    RunV P w env m (do pure (if ← asBool vc then va else vb)) v := by
  unfold pickA at h
  split at h
  · rename_i hc'
    obtain rfl := bool_val (.inl hc') hc
    cases h
    exact ⟨va, by simp [asBool], ha⟩
  · rename_i hc'
    obtain rfl := bool_val (.inl hc') hc
    cases h
    exact ⟨vb, by simp [asBool], hb⟩
  · rename_i t hc'
    obtain rfl := bool_val (.inr hc') hc
    have key : ∀ k x k' y, (a.int = .l k x ∨ a.int = .s k x) → (b.int = .l k' y ∨ b.int = .s k' y) → kEq k k' = true → RunV P w env m (do pure (if ← asBool (.bool t) then va else vb)) (.one (.si k (iteI t x y))) := fun k x k' y h1 h2 hk => by
      have := kEq_of hk
      subst this
      obtain ⟨rfl, o1⟩ := int_val h1 ha
      obtain ⟨rfl, o2⟩ := int_val h2 hb
      exact ⟨_, by cases t <;> simp [asBool] <;> rfl, si_R (ok_iteI o1 o2)⟩
    have keyb : ∀ x y, (a.bool = .l x ∨ a.bool = .s x) → (b.bool = .l y ∨ b.bool = .s y) → RunV P w env m (do pure (if ← asBool (.bool t) then va else vb)) (.one (.sb (iteB t x y))) := fun x y h1 h2 => by
      obtain rfl := bool_val h1 ha
      obtain rfl := bool_val h2 hb
      exact ⟨_, by cases t <;> simp [asBool] <;> rfl, sb_R⟩
    split at h
    · rename_i e1 e2
      split at h
      · rename_i hk; cases h; exact key _ _ _ _ (.inl e1) (.inl e2) hk
      · cases h
    · rename_i e1 e2
      split at h
      · rename_i hk; cases h; exact key _ _ _ _ (.inl e1) (.inr e2) hk
      · cases h
    · rename_i e1 e2
      split at h
      · rename_i hk; cases h; exact key _ _ _ _ (.inr e1) (.inl e2) hk
      · cases h
    · rename_i e1 e2
      split at h
      · rename_i hk; cases h; exact key _ _ _ _ (.inr e1) (.inr e2) hk
      · cases h
    · split at h
      · rename_i e1 e2; cases h; exact keyb _ _ (.inl e1) (.inl e2)
      · rename_i e1 e2; cases h; exact keyb _ _ (.inl e1) (.inr e2)
      · rename_i e1 e2; cases h; exact keyb _ _ (.inr e1) (.inl e2)
      · rename_i e1 e2; cases h; exact keyb _ _ (.inr e1) (.inr e2)
      · cases h
  · cases h
theorem len_ok {n : Nat} (h : n ≤ 9223372036854775807) : okI .i64 (n : Int) := by
  unfold okI
  simp [IntKind.min, IntKind.max, IntKind.bits, IntKind.signed]
  omega
theorem lenA_sound {t : TypeId} {x v : AV} {ts : Array TypeId} {rt : TypeId} {args : Array Value} {ps : List Cnd} {vx : Value} (h : lenA P t x = some (ps, v)) (hx : x.R env m vx) (ht : ts[0]? = some t) (ha : args[0]? = some vx) :
    RunV P w env m (Builtin.len_ ts rt args) v := by
  unfold lenA at h
  split at h
  · rename_i e b o n c hu
    obtain ⟨hb, rfl⟩ := hx
    cases h
    exact ⟨_, by simp [Builtin.len_, ht, ha, SV.conc, run_underlying hu, goInt], li_R (len_ok (by have := hb.2; omega))⟩
  · rename_i e b o n hu
    obtain ⟨hb, c, hc, hc2, rfl⟩ := hx
    cases h
    exact ⟨_, by simp [Builtin.len_, ht, ha, run_underlying hu, goInt], li_R (len_ok (by omega))⟩
  · rename_i e c hu
    obtain ⟨hb, rfl⟩ := hx
    cases h
    exact ⟨_, by simp [Builtin.len_, ht, ha, SV.conc, run_underlying hu, goInt], li_R (by decide)⟩
  · rename_i e b g o n hu
    obtain ⟨hb, o', ho, hg1, hg2, rfl⟩ := hx
    cases h
    exact ⟨_, by simp [Builtin.len_, ht, ha, run_underlying hu, goInt], si_R (len_ok (by omega))⟩
  · rename_i e b o n hu
    obtain ⟨hb, p, c, hc, hc2, rfl, hn⟩ := hx
    cases h
    exact ⟨_, by simp [Builtin.len_, ht, ha, run_underlying hu, goInt], si_R (len_ok (by omega))⟩
  · rename_i e b g o n hu
    obtain ⟨hb, p, c, hc, hc2, rfl, hn⟩ := hx
    cases h
    exact ⟨_, by simp [Builtin.len_, ht, ha, run_underlying hu, goInt], si_R (len_ok (by omega))⟩
  · rename_i e hu
    obtain ⟨_, p, rfl⟩ := hx
    cases h
    exact ⟨_, by simp [Builtin.len_, ht, ha, run_underlying hu, goInt], li_R (by decide)⟩
  · rename_i n e hu
    split at h
    · rename_i hn
      cases h
      exact ⟨_, by simp [Builtin.len_, ht, ha, run_underlying hu, goInt], li_R (len_ok (of_decide_eq_true hn))⟩
    · cases h
  · cases h
theorem capA_sound {t : TypeId} {x v : AV} {ts : Array TypeId} {rt : TypeId} {args : Array Value} {ps : List Cnd} {vx : Value} (h : capA P t x = some (ps, v)) (hx : x.R env m vx) (ht : ts[0]? = some t) (ha : args[0]? = some vx) :
    RunV P w env m (Builtin.cap_ ts rt args) v := by
  unfold capA at h
  split at h
  · rename_i e b o n c hu
    obtain ⟨hb, rfl⟩ := hx
    cases h
    exact ⟨_, by simp [Builtin.cap_, ht, ha, SV.conc, run_underlying hu, goInt], li_R (len_ok hb.2.2)⟩
  · rename_i n e hu
    split at h
    · rename_i hn
      cases h
      exact ⟨_, by simp [Builtin.cap_, ht, ha, run_underlying hu, goInt], li_R (len_ok (of_decide_eq_true hn))⟩
    · cases h
  · cases h
theorem minmax_val {mn : Bool} {x y v : AV} {ps : List Cnd} {vx vy : Value} (h : minmax mn x.int y.int = some (ps, v)) (hx : x.R env m vx) (hy : y.R env m vy) :
    ∃ k a b, vx = .int k a ∧ vy = .int k b ∧ v.R env m (.int k (if mn then (if b < a then b else a) else (if b > a then b else a))) := by
  have key : ∀ k a k' b, (x.int = .l k a ∨ x.int = .s k a) → (y.int = .l k' b ∨ y.int = .s k' b) → kEq k k' = true → vx = .int k a ∧ vy = .int k b ∧ okI k a ∧ okI k b := fun k a k' b h1 h2 hk => by
    have := kEq_of hk
    subst this
    obtain ⟨rfl, o1⟩ := int_val h1 hx
    obtain ⟨rfl, o2⟩ := int_val h2 hy
    exact ⟨rfl, rfl, o1, o2⟩
  have okif : ∀ k (a b : Int), okI k a → okI k b → okI k (if mn then (if b < a then b else a) else (if b > a then b else a)) := fun k a b h1 h2 => by
    cases mn <;> simp <;> split <;> assumption
  have eqif : ∀ (a b : Int), mmI mn a b = (if mn then (if b < a then b else a) else (if b > a then b else a)) := fun a b => by
    cases mn <;> simp only [Bool.false_eq_true, if_false, if_true, mmI]
    · by_cases e : b > a
      · rw [if_pos e, decide_eq_true e]; rfl
      · rw [if_neg e, decide_eq_false e]; rfl
    · by_cases e : b < a
      · rw [if_pos e, decide_eq_true e]; rfl
      · rw [if_neg e, decide_eq_false e]; rfl
  unfold minmax at h
  split at h
  · rename_i k a k' b e1 e2
    split at h
    · rename_i hk
      cases h
      obtain ⟨h1, h2, h3, h4⟩ := key k a k' b (.inl e1) (.inl e2) hk
      refine ⟨k, a, b, h1, h2, ?_⟩
      exact ⟨by simp only [SV.ok]; rw [eqif]; exact okif k a b h3 h4, by simp only [SV.conc]; rw [eqif]⟩
    · cases h
  · rename_i k a k' b e1 e2
    split at h
    · rename_i hk
      cases h
      obtain ⟨h1, h2, h3, h4⟩ := key k a k' b (.inl e1) (.inr e2) hk
      refine ⟨k, a, b, h1, h2, ?_⟩
      exact ⟨by simp only [SV.ok]; rw [eqif]; exact okif k a b h3 h4, by simp only [SV.conc]; rw [eqif]⟩
    · cases h
  · rename_i k a k' b e1 e2
    split at h
    · rename_i hk
      cases h
      obtain ⟨h1, h2, h3, h4⟩ := key k a k' b (.inr e1) (.inl e2) hk
      refine ⟨k, a, b, h1, h2, ?_⟩
      exact ⟨by simp only [SV.ok]; rw [eqif]; exact okif k a b h3 h4, by simp only [SV.conc]; rw [eqif]⟩
    · cases h
  · rename_i k a k' b e1 e2
    split at h
    · rename_i hk
      cases h
      obtain ⟨h1, h2, h3, h4⟩ := key k a k' b (.inr e1) (.inr e2) hk
      refine ⟨k, a, b, h1, h2, ?_⟩
      exact ⟨by simp only [SV.ok]; rw [eqif]; exact okif k a b h3 h4, by simp only [SV.conc]; rw [eqif]⟩
    · cases h
  · cases h
theorem builtinA_sound {b : Builtin} {ts : Array TypeId} {rt : TypeId} {cs : Array Bool} {xs : List AV} {vs : List Value} {v : AV} {ps : List Cnd} (h : builtinA P b ts.toList xs = some (ps, v)) (hx : All2 (AV.R env m) xs vs) :
    ∃ val, (builtin b ts rt cs vs.toArray).run P w = .ok (.value val) w ∧ v.R env m val := by
  unfold builtinA at h
  split at h
  · rename_i t trest x xrest ht
    cases vs with
    | nil => exact hx.elim
    | cons vx vrest =>
      obtain ⟨z, hz, hr⟩ := lenA_sound (w := w) (rt := rt) (ts := ts) (args := (vx :: vrest).toArray) h hx.1 (by rw [← Array.getElem?_toList, ht]; rfl) rfl
      exact ⟨z, by simp only [builtin, Sem.run_bind, hz, Result.andThen_ok, Sem.run_pure], hr⟩
  · rename_i t trest x xrest ht
    cases vs with
    | nil => exact hx.elim
    | cons vx vrest =>
      obtain ⟨z, hz, hr⟩ := capA_sound (w := w) (rt := rt) (ts := ts) (args := (vx :: vrest).toArray) h hx.1 (by rw [← Array.getElem?_toList, ht]; rfl) rfl
      exact ⟨z, by simp only [builtin, Sem.run_bind, hz, Result.andThen_ok, Sem.run_pure], hr⟩
  · rename_i x y
    match vs, hx with
    | [vx, vy], hx =>
      obtain ⟨k, a, b, rfl, rfl, hr⟩ := minmax_val h hx.1 hx.2.1
      exact ⟨_, by simp only [builtin, Sem.run_bind, run_min_int2, Result.andThen_ok, Sem.run_pure]; rfl, by simpa using hr⟩
    | [], hx => exact hx.elim
    | [_], hx => exact hx.2.elim
    | _ :: _ :: _ :: _, hx => exact hx.2.2.elim
  · rename_i x y
    match vs, hx with
    | [vx, vy], hx =>
      obtain ⟨k, a, b, rfl, rfl, hr⟩ := minmax_val h hx.1 hx.2.1
      exact ⟨_, by simp only [builtin, Sem.run_bind, run_max_int2, Result.andThen_ok, Sem.run_pure]; rfl, by simpa using hr⟩
    | [], hx => exact hx.elim
    | [_], hx => exact hx.2.elim
    | _ :: _ :: _ :: _, hx => exact hx.2.2.elim
  · cases h
theorem cellsA_R {x : AV} {cs : List SV} {v : Value} (h : x.cellsA = some cs) (hx : x.R env m v) : All2 (SV.R env m) cs v.cells.toList := by
  cases x with
  | one s =>
    have hs : s ≠ .any := fun e => by subst e; cases h
    have hc : cs = [s] := by cases s <;> first | (cases h; done) | (cases h; rfl)
    subst hc
    have h1 := SV.oneCell_of_R hx hs
    have : v.cells = #[v] := by cases v <;> first | (cases h1; done) | rfl
    rw [this]
    exact ⟨hx, trivial⟩
  | agg l =>
    cases h
    obtain ⟨vs, rfl, hl⟩ := hx
    simpa [Value.cells] using hl
  | tup l => cases h
theorem zeroA_R {t : TypeId} {z : List SV} (h : zeroA P t = some z) : ∃ zv : Value, (zeroValue t).run P w = .ok zv w ∧ All2 (SV.R env m) z zv.cells.toList := by
  unfold zeroA at h
  split at h
  · rename_i i hi
    split at h
    · rename_i zv hz
      cases h
      refine ⟨zv, by simp [zeroValue, typeInfo, hi, hz], ?_⟩
      have := All2.both (R := SV.R env m) absS id zv.cells.toList (fun x _ => absS_R env m x)
      simpa using this
    · cases h
  · cases h
theorem foldl_set (o : Nat) : ∀ (vs : List Value) (k : Nat) (cells : Array Value), o + k + vs.length ≤ cells.size →
    ((vs.zipIdx k).foldl (fun (cs : Array Value) (x : Value × Nat) => cs.setIfInBounds (o + x.2) x.1) cells).toList = cells.toList.take (o + k) ++ vs ++ cells.toList.drop (o + k + vs.length)
  | [], k, cells, _ => by simp
  | v :: vs, k, cells, h => by
    simp only [List.zipIdx_cons, List.foldl_cons]
    have hlt : o + k < cells.toList.length := by simp at h ⊢; omega
    rw [foldl_set o vs (k + 1) _ (by simp at h ⊢; omega)]
    have e := list_seg_step cells.toList (o + k) v vs (by simp at h ⊢; omega)
    simpa [Array.toList_setIfInBounds, Nat.add_assoc] using e
theorem fillA_R {pl : Nat → Option (Nat × Nat)} : ∀ {parts : List (Nat × AV)} {vparts : List (Nat × Value)} {cells l : List SV} {vs : List Value}, fillA pl cells parts = some l → All2 (SV.R env m) cells vs →
    All2 (fun (p : Nat × AV) (q : Nat × Value) => p.1 = q.1 ∧ p.2.R env m q.2) parts vparts → ∃ ws : List Value, Instr.fill pl vs.toArray vparts = some ws.toArray ∧ All2 (SV.R env m) l ws
  | [], [], cells, l, vs, h, hc, _ => by cases h; exact ⟨vs, rfl, hc⟩
  | [], _ :: _, _, _, _, _, _, hp => hp.elim
  | _ :: _, [], _, _, _, _, _, hp => hp.elim
  | (i, x) :: parts, (j, v) :: vparts, cells, l, vs, h, hc, hp => by
    obtain ⟨⟨hij, hx⟩, hp⟩ := hp
    dsimp only at hij hx
    subst hij
    simp only [fillA] at h
    split at h
    · rename_i off sz cs hpl hcs
      split at h
      · rename_i hb
        simp only [Bool.and_eq_true, decide_eq_true_eq] at hb
        obtain ⟨hb1, hb2⟩ := hb
        have hb1 := Nat.eq_of_beq_eq_true hb1
        have hv := cellsA_R hcs hx
        have hlv := hv.length
        have hlc := hc.length
        simp only [Array.length_toList] at hlv
        have hlist : (v.cells.zipIdx.foldl (fun (cs : Array Value) (x : Value × Nat) => cs.setIfInBounds (off + x.2) x.1) vs.toArray) = (vs.take off ++ v.cells.toList ++ vs.drop (off + sz)).toArray := by
          apply Array.ext'
          rw [← Array.foldl_toList, Array.toList_zipIdx]
          have := foldl_set off v.cells.toList 0 vs.toArray (by simp; omega)
          simp only [Nat.add_zero] at this
          rw [this]
          simp [← hlv, hb1]
        obtain ⟨ws, hw1, hw2⟩ := fillA_R h (((hc.take off).append hv).append (hc.drop (off + sz))) hp
        refine ⟨ws, ?_, hw2⟩
        simp only [Instr.fill, hpl]
        rw [if_neg (by simp only [List.size_toArray, Bool.or_eq_true, decide_eq_true_eq, not_or]; exact ⟨by simp; omega, by simp; omega⟩)]
        rw [← hw1, ← hlist]
      · cases h
    · cases h
theorem run_mapM_some {α β : Type} (f : α → Sem β) (g : α → Option β) (hfg : ∀ x y, g x = some y → (f x).run P w = .ok y w) : ∀ (l : List α), (∀ x ∈ l, (g x).isSome = true) →
    ∃ ys : List β, (l.mapM f).run P w = .ok ys w ∧ ∀ i : Nat, ys[i]? = (l[i]?).bind g
  | [], _ => ⟨[], by simp, by simp⟩
  | x :: l, h => by
    obtain ⟨y, hy⟩ := Option.isSome_iff_exists.1 (h x (by simp))
    obtain ⟨ys, h1, h2⟩ := run_mapM_some f g hfg l (fun z hz => h z (by simp [hz]))
    refine ⟨y :: ys, by simp [List.mapM_cons, hfg x y hy, h1], fun i => ?_⟩
    cases i with
    | zero => simp [hy]
    | succ i => simpa using h2 i
theorem buildA_sound {t : TypeId} {parts : List (Nat × AV)} {vparts : List (Nat × Value)} {v : AV} {ps : List Cnd} (h : buildA P t parts = some (ps, v))
    (hp : All2 (fun (p : Nat × AV) (q : Nat × Value) => p.1 = q.1 ∧ p.2.R env m q.2) parts vparts) : RunV P w env m (Instr.build t vparts.toArray) v := by
  unfold buildA at h
  split at h
  · rename_i fs z hu hz
    obtain ⟨zv, hzr, hzc⟩ := zeroA_R (w := w) (env := env) (m := m) hz
    split at h
    · rename_i l hf
      split at h
      · rename_i hall
        cases h
        have hall' : ∀ f ∈ fs.toList, (sizeA P f.type).isSome = true := by
          intro f hf
          have := Array.all_eq_true_iff_forall_mem.1 hall f (by simpa using hf)
          exact this
        obtain ⟨ys, hy1, hy2⟩ := run_mapM_some (P := P) (w := w) (fun f : Field => do pure (f.offset, ← sizeOf f.type)) (fun f : Field => (sizeA P f.type).map fun n => (f.offset, n))
          (fun x y hxy => by
            obtain ⟨n, hn, rfl⟩ := Option.map_eq_some_iff.1 hxy
            simp [sizeA_run hn]) fs.toList (fun x hx => by simpa using hall' x hx)
        have hpl : fieldPlaceA P fs = (ys.toArray[·]?) := by
          funext i
          have := hy2 i
          simp only [List.getElem?_toArray]
          rw [this]
          simp only [Array.getElem?_toList]
          rfl
        rw [hpl] at hf
        obtain ⟨ws, hw1, hw2⟩ := fillA_R hf hzc hp
        refine ⟨_, ?_, ws, rfl, hw2⟩
        have hm : (fs.mapM fun f : Field => do pure (f.offset, ← sizeOf f.type)).run P w = .ok ys.toArray w := by
          rw [← Array.toArray_toList (xs := fs), List.mapM_toArray, Sem.run_map, hy1]
          rfl
        simp only [Instr.build, Sem.run_bind, hzr, Result.andThen_ok, run_underlying hu]
        simp only [hm, Result.andThen_ok]
        have : zv.cells = zv.cells.toList.toArray := by simp
        rw [this, hw1]
        rfl
      · cases h
    · cases h
  · rename_i n e z hu hz
    obtain ⟨zv, hzr, hzc⟩ := zeroA_R (w := w) (env := env) (m := m) hz
    split at h
    · rename_i sz hs
      split at h
      · rename_i l hf
        cases h
        obtain ⟨ws, hw1, hw2⟩ := fillA_R hf hzc hp
        refine ⟨_, ?_, ws, rfl, hw2⟩
        simp only [Instr.build, Sem.run_bind, hzr, Result.andThen_ok, run_underlying hu, sizeA_run hs]
        have : zv.cells = zv.cells.toList.toArray := by simp
        rw [this, hw1]
        rfl
      · cases h
    · cases h
  · cases h
end
theorem optR_map {C : Cfg} {B : Nat → Prop} {w0 w : World} {env : Nat → Nat} {tm : TM} {mem : Mem} {a : Act} (h : Rel C B w0 env tm mem a w) (x : Option Operand) : OptR env mem.n (x.map (ev C tm)) (x.map a.eval) := by
  cases x with
  | none => trivial
  | some x => exact ev_R h x
theorem evL_R {C : Cfg} {B : Nat → Prop} {w0 w : World} {env : Nat → Nat} {tm : TM} {mem : Mem} {a : Act} (h : Rel C B w0 env tm mem a w) (l : List Operand) : All2 (AV.R env mem.n) (l.map (ev C tm)) (l.map a.eval) :=
  All2.both _ _ l fun x _ => ev_R h x
def ExOk (P : Program) (g : Nat) (F : List AV → Option (List Cnd × AV)) : Prop :=
  ∀ args ps r, F args = some (ps, r) → allP ps → ∀ (w : World) (env : Nat → Nat) (m : Nat) (vals : List Value), All2 (AV.R env m) args vals → ∃ v, (callFunc g vals.toArray).run P w = .ok (.value v) w ∧ r.R env m v
theorem assoc_mem {α : Type} {l : List (Nat × α)} {n : Nat} {a : α} (h : assoc l n = some a) : (n, a) ∈ l := by
  induction l with
  | nil => cases h
  | cons p l ih =>
    obtain ⟨k, b⟩ := p
    simp only [assoc] at h
    split at h
    · rename_i hb; cases h; rw [Nat.eq_of_beq_eq_true hb]; exact List.mem_cons_self ..
    · exact List.mem_cons_of_mem _ (ih h)
theorem pureOp0_sound {C : Cfg} (hE : ∀ p ∈ C.ex, ExOk C.P p.1 p.2) {B : Nat → Prop} {w0 w : World} {env : Nat → Nat} {tm : TM} {mem : Mem} {a : Act} {o : Oper} {ps : List Cnd} {v : AV} (hr : Rel C B w0 env tm mem a w)
    (h : pureOp0 C o tm mem = some (ps, v)) (hp : allP ps) : ∃ val, (execOp a.eval o).run C.P w = .ok (.value val) w ∧ v.R env mem.n val := by
  have lift : ∀ {s : Sem Value}, RunV C.P w env mem.n s v → ∃ val, (do pure (Next.value (← s)) : Sem Next).run C.P w = .ok (.value val) w ∧ v.R env mem.n val := fun ⟨z, hz, hR⟩ => ⟨z, by simp [hz], hR⟩
  have hev := fun x => ev_R hr x
  unfold pureOp0 at h
  unfold execOp
  split at h
  · rename_i x ho; cases h; simp only [ho]; exact ⟨_, rfl, hev x⟩
  · rename_i x ho; cases h; simp only [ho]; exact ⟨_, rfl, hev x⟩
  · rename_i c x y ho
    simp only [ho]
    obtain ⟨z, hz, hR⟩ := pickA_sound (P := C.P) (w := w) h (hev c) (hev x) (hev y)
    refine ⟨z, ?_, hR⟩
    have hz' : (asBool (a.eval c)).run C.P w = .ok (match a.eval c with | .bool b => b | _ => false) w ∧ z = (if (match a.eval c with | .bool b => b | _ => false) then a.eval x else a.eval y) := by
      cases hc : a.eval c <;> rw [hc] at hz <;> simp [asBool] at hz ⊢ <;> exact hz.symm
    simp [hz'.1, hz'.2]
  · rename_i t x ho; simp only [ho]; exact lift (loadA_sound hr.mem h hp (hev x))
  · rename_i x ho
    simp only [ho]
    have hx := hev x
    unfold nilCheckA at h
    split at h
    · rename_i e; cases h; rw [e] at hx; have := hx.2; simp only [SV.conc] at this; rw [this]; exact ⟨_, rfl, hx.1, rfl⟩
    · rename_i e; cases h; rw [e] at hx; have := hx.2; simp only [SV.conc] at this; rw [this]; exact ⟨_, rfl, hx.1, rfl⟩
    · rename_i e; cases h; rw [e] at hx; have := hx.2; simp only [SV.conc] at this; rw [this]; exact ⟨_, rfl, hx.1, rfl⟩
    · rename_i e; cases h; rw [e] at hx; have := hx.2; simp only [SV.conc] at this; rw [this]; exact ⟨_, rfl, hx.1, rfl⟩
    · cases h
  · rename_i op t x y _ ho; simp only [ho]; exact lift (binA_sound x y h hp (hev x) (hev y))
  · rename_i op t x ho; simp only [ho]; exact lift (unA_sound h (hev x))
  · rename_i s d x ho; simp only [ho]; exact lift (convA_sound h (hev x))
  · rename_i t x ho; simp only [ho]; exact lift (toArrPtrA_sound h (hev x))
  · rename_i t x lo hi mx ho; simp only [ho]; exact lift (sliceA_sound h hp (hev x) (optR_map hr lo) (optR_map hr hi) (optR_map hr mx))
  · rename_i t x f ho; simp only [ho]; exact lift (fieldAddrA_sound h (hev x))
  · rename_i t x f ho; simp only [ho]; exact lift (fieldA_sound h (hev x))
  · rename_i t x ix ho; simp only [ho]; exact lift (indexAddrA_sound h hp (hev x) (hev ix))
  · rename_i t x ix ho; simp only [ho]; exact lift (indexA_sound h hp (hev x) (hev ix))
  · rename_i t i ho; simp only [ho]; exact lift (extractA_sound h (hev t))
  · rename_i fn first caps ho
    simp only [ho]
    have := makeFuncA_sound (P := C.P) (w := w) h (evL_R hr first.toList) (evL_R hr caps.toList)
    have e1 : (first.toList.map a.eval).toArray = first.map a.eval := by apply Array.ext'; simp
    have e2 : (caps.toList.map a.eval).toArray = caps.map a.eval := by apply Array.ext'; simp
    rw [e1, e2] at this
    exact lift this
  · rename_i t parts ho
    simp only [ho]
    have hq : All2 (fun (p : Nat × AV) (q : Nat × Value) => p.1 = q.1 ∧ p.2.R env mem.n q.2) (parts.toList.map fun p => (p.1, ev C tm p.2)) (parts.toList.map fun p => (p.1, a.eval p.2)) :=
      All2.both _ _ _ fun p _ => ⟨rfl, hev p.2⟩
    have := buildA_sound (P := C.P) (w := w) h hq
    have e1 : (parts.toList.map fun p => (p.1, a.eval p.2)).toArray = parts.map fun (i, x) => (i, a.eval x) := by apply Array.ext'; simp
    rw [e1] at this
    exact lift this
  · rename_i b args ts ho
    simp only [ho]
    obtain ⟨z, hz, hR⟩ := builtinA_sound (P := C.P) (w := w) (rt := o.type) (cs := args.map fun | .const _ => true | _ => false) h (evL_R hr args.toList)
    refine ⟨z, ?_, hR⟩
    have e1 : (args.toList.map a.eval).toArray = args.map a.eval := by apply Array.ext'; simp
    rw [e1] at hz
    simp only [resolve, Sem.run_bind, Sem.run_pure, Result.andThen_ok, invoke]
    exact hz
  · rename_i f args ts ho
    simp only [ho]
    unfold externA at h
    split at h
    · cases h
    · rename_i ex _
      split at h
      · rename_i g hf
        split at h
        · rename_i F hF
          have hv := hev f
          rw [hf] at hv
          obtain ⟨_, hv⟩ := hv
          obtain ⟨v', h1, h2⟩ := hE _ (assoc_mem hF) _ _ _ h hp w env mem.n _ (evL_R hr args.toList)
          have e1 : (args.toList.map a.eval).toArray = args.map a.eval := by apply Array.ext'; simp
          rw [e1] at h1
          refine ⟨v', ?_, h2⟩
          simp [resolve, Deferred.ofValue, hv, SV.conc, invoke, h1]
        · cases h
      · cases h
  · cases h
end Go.Ax

namespace Go.Ax
open Go Go.RowKit
section
variable {C : Cfg} {B : Nat → Prop} {w0 w : World} {env : Nat → Nat} {mem : Mem}
theorem lt_of_heap {w : World} {b : Nat} {o : Obj} (h : w.heap[b]? = some o) : b < w.heap.size := (Array.getElem?_eq_some_iff.1 h).1
theorem AB.heap_lt {m : Nat} {b : Nat} {ab : AB} (h : ab.R env m B w b) (hw : ab.wr = true) : b < w.heap.size ∧ ¬ B b := by
  cases ab with
  | cells t l => obtain ⟨vs, h1, _, h3⟩ := h; exact ⟨lt_of_heap h1, h3⟩
  | row t l => obtain ⟨vs, rest, h1, _, h3⟩ := h; exact ⟨lt_of_heap h1, h3⟩
  | seq t k L g => obtain ⟨rest, h1, _, _, _, h3⟩ := h; exact ⟨lt_of_heap h1, h3⟩
  | mp k kv es => obtain ⟨ms, c, h1, _, _, h3⟩ := h; exact ⟨lt_of_heap h1, h3⟩
  | ob x => obtain ⟨o, h1, _, h3⟩ := h; exact ⟨lt_of_heap h1, h3⟩
  | fz t l => obtain ⟨vs, fr, h1, _, h3⟩ := h; exact ⟨lt_of_heap h1, h3⟩
  | _ => cases hw
def envPush (env : Nat → Nat) (n b : Nat) : Nat → Nat := fun i => if i = n then b else env i
theorem Ext.push (env : Nat → Nat) (n b : Nat) : Ext env n (envPush env n b) (n + 1) := ⟨Nat.le_succ n, fun i hi => by unfold envPush; rw [if_neg (by omega)]⟩
theorem MR.push {t : TypeId} {l : List SV} {vs : List Value} (h : MR C B w0 env mem w) (hl : All2 (SV.R env mem.n) l vs) :
    MR C B w0 (envPush env mem.n w.heap.size) (mem.push (.cells t l)) (w.alloc (.cells vs.toArray t)) := by
  have hb : Below w.heap.size w (w.alloc (.cells vs.toArray t)) := (Below.refl _ _).alloc (Nat.le_refl _) _
  have hx := Ext.push env mem.n w.heap.size
  have hold : ∀ i ab, i ≠ mem.n → (mem.push (.cells t l)).get i = some ab → mem.get i = some ab := fun i ab hi hg => by
    simp only [Mem.get, Mem.push] at hg ⊢
    rw [Tr.get_set_ne _ _ _ _ (Ne.symm hi)] at hg
    exact hg
  have hnew : ∀ ab, (mem.push (.cells t l)).get mem.n = some ab → ab = .cells t l := fun ab hg => Tr.get_set_eq _ _ _ _ hg
  refine ⟨h.below.trans (.of hb h.base), fun b hB => Nat.lt_of_lt_of_le (h.base b hB) hb.size, fun i ab hg => ?_, fun i ab hg => ?_, fun i j a b hi hj hij ha hb' => ?_, fun p hp => ?_, h.gd.below (.of hb h.base)⟩
  · show i < mem.n + 1
    by_cases hi : i = mem.n
    · omega
    · have := h.lt i ab (hold i ab hi hg); omega
  · by_cases hi : i = mem.n
    · subst hi
      obtain rfl := hnew ab hg
      have he : envPush env mem.n w.heap.size mem.n = w.heap.size := if_pos rfl
      refine ⟨vs, ?_, hl.imp fun _ _ => SV.R_ext hx, ?_⟩
      · rw [he]; exact heap_alloc_new w _
      · rw [he]; exact fun hb => Nat.lt_irrefl _ (h.base _ hb)
    · have hg' := hold i ab hi hg
      have he : envPush env mem.n w.heap.size i = env i := by unfold envPush; rw [if_neg hi]
      rw [he]
      exact AB.R_ext hx (AB.R_below (h.blk i ab hg') hb)
  · unfold envPush
    by_cases hi' : i = mem.n
    · by_cases hj' : j = mem.n
      · exact absurd (hi'.trans hj'.symm) hij
      · rw [if_pos hi', if_neg hj']
        have := (AB.heap_lt (h.blk j b (hold j b hj' hj)) hb').1
        omega
    · by_cases hj' : j = mem.n
      · rw [if_neg hi', if_pos hj']
        have := (AB.heap_lt (h.blk i a (hold i a hi' hi)) ha).1
        omega
      · rw [if_neg hi', if_neg hj']
        exact h.sep i j a b (hold i a hi' hi) (hold j b hj' hj) hij ha hb'
  · obtain ⟨h1, h2⟩ := h.gl p hp
    exact ⟨by unfold envPush; rw [if_neg (by omega)]; exact h1, Nat.lt_succ_of_lt h2⟩
theorem MR.setRow {b : Nat} {ab ab' : AB} {cs : Array Value} (h : MR C B w0 env mem w) (hg : mem.get b = some ab) (hw : ab.wr = true) (hR : ab'.R env mem.n B (w.setRow (env b) cs) (env b)) :
    MR C B w0 env (mem.set b ab') (w.setRow (env b) cs) := by
  obtain ⟨hlt, hB⟩ := AB.heap_lt (h.blk b ab hg) hw
  have hbl : Keep B w (w.setRow (env b) cs) := ⟨⟨rfl, rfl, rfl, by simp, fun k hk => absurd hk (Nat.not_lt_zero _)⟩, fun k hk => setRow_other w _ _ _ (fun e => hB (e ▸ hk))⟩
  have hold : ∀ i ab, i ≠ b → (mem.set b ab').get i = some ab → mem.get i = some ab := fun i ab hi hg => by
    simp only [Mem.get, Mem.set] at hg ⊢
    rw [Tr.get_set_ne _ _ _ _ (Ne.symm hi)] at hg
    exact hg
  have hnew : ∀ x, (mem.set b ab').get b = some x → x = ab' := fun x hg => Tr.get_set_eq _ _ _ _ hg
  refine ⟨h.below.trans hbl, by have := h.base; simpa using this, fun i x hi => ?_, fun i x hi => ?_, fun i j x y hi hj hij hx hy => ?_, h.gl, h.gd.below hbl⟩
  · by_cases hib : i = b
    · subst hib; exact h.lt i ab hg
    · exact h.lt i x (hold i x hib hi)
  · by_cases hib : i = b
    · subst hib
      rw [hnew x hi]
      exact hR
    · have hx := hold i x hib hi
      have hr := h.blk i x hx
      cases x with
      | gone => trivial
      | cells t l =>
        have hne := h.sep i b _ ab hx hg hib rfl hw
        obtain ⟨vs, h1, h2, h3⟩ := hr
        exact ⟨vs, by rw [setRow_other w _ _ _ hne]; exact h1, h2, h3⟩
      | row t l =>
        have hne := h.sep i b _ ab hx hg hib rfl hw
        obtain ⟨vs, rest, h1, h2, h3⟩ := hr
        exact ⟨vs, rest, by rw [setRow_other w _ _ _ hne]; exact h1, h2, h3⟩
      | ro l =>
        obtain ⟨vs, rest, t, fr, h1, h2, h3⟩ := hr
        exact ⟨vs, rest, t, fr, by rw [setRow_other w _ _ _ (fun e => hB (by first | exact e ▸ h3 | exact e.symm ▸ h3))]; exact h1, h2, h3⟩
      | seq t k L g =>
        have hne := h.sep i b _ ab hx hg hib rfl hw
        obtain ⟨rest, h1, h2⟩ := hr
        exact ⟨rest, by rw [setRow_other w _ _ _ hne]; exact h1, h2⟩
      | rseq k L g =>
        rcases hr with hr | ⟨front, rest, t, fr, h1, h2, h3⟩
        · exact .inl hr
        · exact .inr ⟨front, rest, t, fr, by rw [setRow_other w _ _ _ (fun e => hB (by first | exact e ▸ h3 | exact e.symm ▸ h3))]; exact h1, h2, h3⟩
      | mp k kv es =>
        have hne := h.sep i b _ ab hx hg hib rfl hw
        obtain ⟨ms, c, h1, h2⟩ := hr
        exact ⟨ms, c, by rw [setRow_other w _ _ _ hne]; exact h1, h2⟩
      | fz t l =>
        have hne := h.sep i b _ ab hx hg hib rfl hw
        obtain ⟨vs, fr, h1, h2⟩ := hr
        exact ⟨vs, fr, by rw [setRow_other w _ _ _ hne]; exact h1, h2⟩
      | ob x =>
        have hne := h.sep i b _ ab hx hg hib rfl hw
        obtain ⟨o, h1, h2⟩ := hr
        exact ⟨o, by rw [setRow_other w _ _ _ hne]; exact h1, h2⟩
      | num c => exact hr
  · have key : ∀ i x, (mem.set b ab').get i = some x → x.wr = true → ∃ z, mem.get i = some z ∧ z.wr = true := fun i x hi hx => by
      by_cases hib : i = b
      · subst hib; exact ⟨ab, hg, hw⟩
      · exact ⟨x, hold i x hib hi, hx⟩
    obtain ⟨z, hz, hz'⟩ := key i x hi hx
    obtain ⟨u, hu, hu'⟩ := key j y hj hy
    exact h.sep i j z u hz hu hij hz' hu'
theorem oneCells {m : Nat} {cs : List SV} {vs : List Value} (h : All2 (SV.R env m) cs vs) (hd : cs.all SV.cell = true) : ∀ v ∈ vs, v.oneCell' = true := by
  induction cs generalizing vs with
  | nil => cases vs with
    | nil => simp
    | cons _ _ => exact h.elim
  | cons s cs ih =>
    cases vs with
    | nil => exact h.elim
    | cons v vs =>
      simp only [List.all_cons, Bool.and_eq_true] at hd
      intro u hu
      rcases List.mem_cons.1 hu with rfl | hu
      · exact SV.oneCell_of_R h.1 (fun e => by subst e; simp [SV.cell] at hd)
      · exact ih h.2 hd.2 u hu
theorem storeA_sound {t : TypeId} {x v r : AV} {ps : List Cnd} {mem' : Mem} {vx vv : Value} (hm : MR C B w0 env mem w) (h : storeA C.P mem t x v = some (ps, r, mem')) (hx : x.R env mem.n vx) (hv : v.R env mem.n vv) :
    ∃ w', (Instr.storeAt t vx vv).run C.P w = .ok () w' ∧ MR C B w0 env mem' w' ∧ mem'.n = mem.n ∧ r = .tup [] := by
  unfold storeA at h
  split at h
  · rename_i b o cs n hcs hs
    obtain ⟨hb, rfl⟩ := hx
    split at h
    · cases h
    · rename_i hc
      simp only [Bool.and_eq_true] at hc
      have hlen := Nat.eq_of_beq_eq_true hc.1
      have hcr := cellsA_R hcs hv
      have hone := oneCells hcr hc.2
      have hsz : vv.cells.size = n := by rw [← Array.length_toList, ← hcr.length, hlen]
      have hlv : vv.cells.toList.length = n := by simpa using hsz
      have hrun : ∀ w', (storeCells ⟨env b, o, none⟩ vv.cells.toList).run C.P w = .ok () w' → (Instr.storeAt t ((SV.ptr b o).conc env) vv).run C.P w = .ok () w' := fun w' hw' => by
        simp [SV.conc, Instr.storeAt, Instr.sureAddr, storeVar, sizeA_run hs, hsz, hw']
      split at h
      · rename_i ty l hg
        split at h
        · rename_i hle
          have hle := of_decide_eq_true hle
          cases h
          obtain ⟨vs, h1, h2, h3⟩ := hm.blk b _ hg
          have hvs := h2.length
          have hst := run_storeCells_at C.P (env b) o ty vv.cells.toList 0 vs.toArray w h1 (by simp only [List.size_toArray]; omega) hone
          simp only [Nat.add_zero] at hst
          refine ⟨_, hrun _ hst, hm.setRow hg rfl ⟨vs.take o ++ vv.cells.toList ++ vs.drop (o + vv.cells.toList.length), ?_, ?_, h3⟩, rfl, rfl⟩
          · exact setRow_heap w (env b) _ _ ty _ h1
          · unfold splice
            rw [hlv, hlen]
            exact ((h2.take o).append hcr).append (h2.drop (o + n))
        · cases h
      · rename_i ty l hg
        split at h
        · rename_i hle
          have hle := of_decide_eq_true hle
          cases h
          obtain ⟨vs, rest, h1, h2, h3⟩ := hm.blk b _ hg
          have hvs := h2.length
          have hst := run_storeCells_at C.P (env b) o ty vv.cells.toList 0 (vs ++ rest).toArray w h1 (by simp only [List.size_toArray, List.length_append]; omega) hone
          simp only [Nat.add_zero] at hst
          refine ⟨_, hrun _ hst, hm.setRow hg rfl ⟨vs.take o ++ vv.cells.toList ++ vs.drop (o + vv.cells.toList.length), rest, ?_, ?_, h3⟩, rfl, rfl⟩
          · have e : (vs ++ rest).take o ++ vv.cells.toList ++ (vs ++ rest).drop (o + vv.cells.toList.length) = vs.take o ++ vv.cells.toList ++ vs.drop (o + vv.cells.toList.length) ++ rest := by
              rw [List.take_append_of_le_length (by omega), List.drop_append_of_le_length (by omega)]
              simp
            rw [← e]
            exact setRow_heap w (env b) _ _ ty _ h1
          · unfold splice
            rw [hlv, hlen]
            exact ((h2.take o).append hcr).append (h2.drop (o + n))
        · cases h
      · cases h
  · cases h
theorem copyA_sound {ts : Array TypeId} {rt : TypeId} {xs : List AV} {vs : List Value} {r : AV} {ps : List Cnd} {mem' : Mem} (hm : MR C B w0 env mem w) (h : copyA C.P mem ts.toList xs = some (ps, r, mem')) (hx : All2 (AV.R env mem.n) xs vs) :
    ∃ val w', (Builtin.copy_ ts rt vs.toArray).run C.P w = .ok val w' ∧ MR C B w0 env mem' w' ∧ mem'.n = mem.n ∧ r.R env mem.n val := by
  unfold copyA at h
  split at h
  · rename_i dt trest b o dl dc b' o' sl sc ht
    match vs, hx with
    | [vd, vsr], hx =>
      obtain ⟨hb, rfl⟩ := hx.1
      obtain ⟨hb', rfl⟩ := hx.2.1
      split at h
      · rename_i e hu
        split at h
        · rename_i ty l src hs hg hsrc
          split at h
          · rename_i cs hseg
            split at h
            · rename_i hle
              have hle := of_decide_eq_true hle
              cases h
              obtain ⟨q1, q2, q3⟩ := seg_spec hseg
              obtain ⟨ab, hab, hsl⟩ := Option.bind_eq_some_iff.1 hsrc
              obtain ⟨us, rest, sty, fr, hh, hus⟩ := block_of (hm.blk b' ab hab) hsl
              obtain ⟨cur, c1, c2, c3⟩ := hm.blk b _ hg
              have hcs : All2 (SV.R env mem.n) cs ((us.drop o').take (min sl dl)) := by rw [q1]; exact (hus.drop o').take _
              have hl1 := hcs.length
              have hl2 := c2.length
              have hcell : ∀ j v, ((us.drop o').take (min sl dl))[j]? = some v → w.cell? ((⟨env b', o', none⟩ : Addr).add j) = some v := fun j v hj => by
                rw [add_addr, cell_at hh]
                have hj' : us[o' + j]? = some v := by
                  rw [List.getElem?_take] at hj
                  split at hj
                  · simpa [List.getElem?_drop] using hj
                  · cases hj
                rw [List.getElem?_append_left (List.getElem?_eq_some_iff.1 hj').1]
                exact hj'
              have hone := oneCells hcs q3
              have ht0 : ts[0]? = some dt := by rw [← Array.getElem?_toList, ht]; rfl
              have hsz : (sizeOf e).run C.P w = .ok 1 w := sizeA_run hs
              have hld := run_loadCells_list (P := C.P) w ⟨env b', o', none⟩ _ hcell
              have hst := run_storeCells_at C.P (env b) o ty ((us.drop o').take (min sl dl)) 0 cur.toArray w c1 (by simp only [List.size_toArray]; omega) hone
              simp only [Nat.add_zero] at hst
              have hn : ((us.drop o').take (min sl dl)).length = min sl dl := by omega
              rw [hn] at hld
              refine ⟨goInt (min sl dl : Nat), _, ?_, hm.setRow hg rfl ⟨cur.take o ++ (us.drop o').take (min sl dl) ++ cur.drop (o + ((us.drop o').take (min sl dl)).length), setRow_heap w (env b) _ _ ty _ c1, ?_, c3⟩, rfl, ?_⟩
              · have hst' := hst
                rw [hn] at hst'
                have hnm : Nat.min sl dl = min sl dl := rfl
                simp only [Builtin.copy_, ht0, SV.conc, List.getElem?_toArray, List.getElem?_cons_zero, List.getElem?_cons_succ, Sem.run_bind, run_underlying hu, Builtin.lenOf, Sem.run_pure, Result.andThen_ok, hsz, Builtin.firstCells, Nat.mul_one, hnm, hld, hst', hn]
              · unfold splice
                rw [hn, q2]
                exact ((c2.take o).append hcs).append (c2.drop (o + min sl dl))
              · rw [q2]
                exact li_R (len_ok (by have := hb.2; have := hb'.2; omega))
            · cases h
          · cases h
        · cases h
      · cases h
    | [], hx => exact hx.elim
    | [_], hx => exact hx.2.elim
    | _ :: _ :: _ :: _, hx => exact hx.2.2.elim
  · cases h
theorem all2_replicate {α β : Type} {R : α → β → Prop} {a : α} {b : β} (h : R a b) : ∀ n, All2 R (List.replicate n a) (List.replicate n b)
  | 0 => trivial
  | n + 1 => ⟨h, all2_replicate h n⟩
theorem fillA_length {place : Nat → Option (Nat × Nat)} : ∀ {parts : List (Nat × AV)} {cells l : List SV}, fillA place cells parts = some l → l.length = cells.length
  | [], cells, l, h => by cases h; rfl
  | (i, v) :: rest, cells, l, h => by
    simp only [fillA] at h
    split at h
    · split at h
      · rename_i hb
        simp only [Bool.and_eq_true, decide_eq_true_eq] at hb
        have := Nat.eq_of_beq_eq_true hb.1
        rw [fillA_length h]
        simp; omega
      · cases h
    · cases h
theorem buildSlice_core {P : Program} {w : World} {env : Nat → Nat} {m : Nat} {mem : Mem} {t : TypeId} {len : Nat} {parts : List (Nat × AV)} {vparts : List (Nat × Value)} {ps : List Cnd} {v : AV} {mem' : Mem} (h : buildSliceA P mem t len parts = some (ps, v, mem'))
    (hp : All2 (fun (p : Nat × AV) (q : Nat × Value) => p.1 = q.1 ∧ p.2.R env m q.2) parts vparts) :
    ∃ e l ws, mem' = mem.push (.cells e l) ∧ v = .one (.slice mem.n 0 len len) ∧ len ≤ 16777216 ∧ l.length = len ∧ All2 (SV.R env m) l ws ∧ (Instr.buildSlice t len vparts.toArray).run P w = .ok (.slice (some ⟨w.heap.size, 0, none⟩) len len) (w.alloc (.cells ws.toArray e)) := by
  unfold buildSliceA at h
  split at h
  · rename_i e hu
    split at h
    · rename_i sz z hs hz
      split at h
      · rename_i l hb hf
        simp only [Bool.and_eq_true, decide_eq_true_eq] at hb
        obtain ⟨hb1, hb3⟩ := hb
        have hb1 := Nat.eq_of_beq_eq_true hb1
        subst hb1
        cases h
        obtain ⟨zv, hz1, hz2⟩ := zeroA_R (P := P) (w := w) (env := env) (m := m) hz
        have hzl := hz2.length
        obtain ⟨c, hc⟩ : ∃ c, zv.cells.toList = [c] := by
          cases hq : zv.cells.toList with
          | nil => rw [hq] at hzl; simp at hzl
          | cons c r => cases r with
            | nil => exact ⟨c, rfl⟩
            | cons d r => rw [hq] at hzl; simp at hzl
        have hcz : zv.cells = #[c] := by apply Array.ext'; rw [hc]
        rw [hc] at hz2
        obtain ⟨ws, hw1, hw2⟩ := fillA_R hf (all2_replicate hz2.1 len) hp
        have hrow : ((Array.range (len * 1)).map fun x => (#[c] : Array Value)[x % (#[c] : Array Value).size]!) = (List.replicate len c).toArray := by
          apply Array.ext'
          simp [Nat.mod_one, List.map_const']
        refine ⟨e, l, ws, rfl, rfl, hb3, ?_, hw2, ?_⟩
        · rw [fillA_length hf, List.length_replicate]
        have h1 : ¬ len * 1 > 2 ^ 24 := by omega
        by_cases h2 : len * 1 = 0
        · have h0 : len = 0 := by omega
          have hr0 : ((Array.range (len * 1)).map fun x => (#[] : Array Value)[x % (#[] : Array Value).size]!) = (List.replicate len c).toArray := by
            subst h0
            apply Array.ext'
            simp
          simp only [Instr.buildSlice, Sem.run_bind, Result.andThen_ok, run_underlying hu, sizeA_run hs, if_neg h1, if_pos h2, Sem.run_pure, hr0, hw1]
          simp [newRow]
        · simp only [Instr.buildSlice, Sem.run_bind, Result.andThen_ok, run_underlying hu, sizeA_run hs, if_neg h1, if_neg h2, hz1, Sem.run_pure, hcz, hrow, hw1]
          simp [newRow]
      · cases h
    · cases h
  · cases h
theorem buildSliceA_sound {t : TypeId} {len : Nat} {parts : List (Nat × AV)} {vparts : List (Nat × Value)} {ps : List Cnd} {v : AV} {mem' : Mem} (hm : MR C B w0 env mem w) (h : buildSliceA C.P mem t len parts = some (ps, v, mem'))
    (hp : All2 (fun (p : Nat × AV) (q : Nat × Value) => p.1 = q.1 ∧ p.2.R env mem.n q.2) parts vparts) :
    ∃ val w' env', (Instr.buildSlice t len vparts.toArray).run C.P w = .ok val w' ∧ MR C B w0 env' mem' w' ∧ Ext env mem.n env' mem'.n ∧ v.R env' mem'.n val := by
  obtain ⟨e, l, ws, rfl, rfl, hlen, _, hw, hrun⟩ := buildSlice_core (w := w) h hp
  refine ⟨_, _, _, ?_, hm.push (t := e) hw, Ext.push _ _ _, ⟨Nat.lt_succ_self _, Nat.le_refl _, by omega⟩, rfl⟩
  rw [hrun]
  simp [SV.conc, envPush]
theorem memOp0_sound {o : Oper} {tm : TM} {a : Act} {ps : List Cnd} {v : AV} {mem' : Mem} (hr : Rel C B w0 env tm mem a w) (h : memOp0 C o tm mem = some (ps, v, mem')) :
    ∃ nx val w' env', (execOp a.eval o).run C.P w = .ok nx w' ∧ (nx = .value val ∨ (nx = .skip ∧ val = undef)) ∧ MR C B w0 env' mem' w' ∧ Ext env mem.n env' mem'.n ∧ v.R env' mem'.n val := by
  have hev := fun x => ev_R hr x
  unfold memOp0 at h
  unfold execOp
  split at h
  · rename_i t ho
    simp only [ho]
    split at h
    · rename_i z hz
      cases h
      obtain ⟨zv, h1, h2⟩ := zeroA_R (P := C.P) (w := w) (env := env) (m := mem.n) hz
      have hp := hr.mem.push (t := t) h2
      refine ⟨.value (.pointer (some ⟨w.heap.size, 0, none⟩)), .pointer (some ⟨w.heap.size, 0, none⟩), _, _, ?_, .inl rfl, hp, Ext.push _ _ _, ⟨Nat.lt_succ_self _, by simp only [SV.conc, envPush, if_true]⟩⟩
      simp [Instr.alloc, h1, newVar, newRow]
    · cases h
  · rename_i t x ho
    simp only [ho]
    split at h
    · rename_i cs hcs
      cases h
      have h2 := cellsA_R hcs (hev x)
      have hp := hr.mem.push (t := t) h2
      refine ⟨.value (.pointer (some ⟨w.heap.size, 0, none⟩)), .pointer (some ⟨w.heap.size, 0, none⟩), _, _, ?_, .inl rfl, hp, Ext.push _ _ _, ⟨Nat.lt_succ_self _, by simp only [SV.conc, envPush, if_true]⟩⟩
      simp [Instr.box, newVar, newRow]
    · cases h
  · rename_i t x y ho
    simp only [ho]
    obtain ⟨w', h1, h2, h3, rfl⟩ := storeA_sound hr.mem h (hev x) (hev y)
    refine ⟨.skip, undef, w', env, by simp [h1], .inr ⟨rfl, rfl⟩, h2, ?_, [], rfl, trivial⟩
    rw [h3]
    exact Ext.refl _ _
  · rename_i t n parts ho
    simp only [ho]
    have hq : All2 (fun (p : Nat × AV) (q : Nat × Value) => p.1 = q.1 ∧ p.2.R env mem.n q.2) (parts.toList.map fun p => (p.1, ev C tm p.2)) (parts.toList.map fun p => (p.1, a.eval p.2)) :=
      All2.both _ _ _ fun p _ => ⟨rfl, hev p.2⟩
    obtain ⟨val, w', env', h1, h2, h3, h4⟩ := buildSliceA_sound hr.mem h hq
    have e1 : (parts.toList.map fun p => (p.1, a.eval p.2)).toArray = parts.map fun (i, x) => (i, a.eval x) := by apply Array.ext'; simp
    rw [e1] at h1
    exact ⟨.value val, val, w', env', by simp [h1], .inl rfl, h2, h3, h4⟩
  · rename_i args ts ho
    simp only [ho]
    obtain ⟨val, w', h1, h2, h3, h4⟩ := copyA_sound (rt := o.type) hr.mem h (evL_R hr args.toList)
    have e1 : (args.toList.map a.eval).toArray = args.map a.eval := by apply Array.ext'; simp
    rw [e1] at h1
    refine ⟨.value val, val, w', env, ?_, .inl rfl, h2, ?_, ?_⟩
    · simp only [resolve, Sem.run_bind, Sem.run_pure, Result.andThen_ok, invoke, builtin, h1]
    · rw [h3]; exact Ext.refl _ _
    · rw [h3]; exact h4
  · cases h
end
end Go.Ax
