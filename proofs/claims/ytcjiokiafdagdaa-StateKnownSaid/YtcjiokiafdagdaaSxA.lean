/- A small executor over symbolic states for the model's code: what one call does, as a proposition that the kernel reckons. First part: the definitions. -/
import Derived.WalkKit
import Derived.Below
import Derived.KernelRfl
import Derived.Laws.Rows
import Derived.Deep.Quiet
import Derived.StillTail
namespace Go.Sx
open Go.RowKit
set_option linter.unusedVariables false

/-- One cell's content: a value of the model; a pointer into a block that is known by a number; a pointer to an element of a row that came from outside; a slice over a whole known block; a slice that came from outside. -/
inductive SC where
  | v (x : Value)
  | p (id off : Nat)
  | q (id sz i j : Nat)
  | s (id len : Nat)
  | r (id : Nat)
structure Env where
  addr : Nat → Option Addr
  len : Nat → Nat
  cap : Nat → Nat
inductive SV where
  | c (x : SC)
  | a (cs : List SC)
inductive ST where
  | v (x : SV)
  | t (xs : List SV)
def SC.den (E : Env) : SC → Value
  | .v x => x
  | .p id off => .pointer ((E.addr id).map (·.add off))
  | .q id sz i j => .pointer ((E.addr id).map (·.add (i * sz + j)))
  | .s id len => .slice (E.addr id) len len
  | .r id => .slice (E.addr id) (E.len id) (E.cap id)
def SV.den (E : Env) : SV → Value
  | .c x => x.den E
  | .a cs => .agg (cs.map (SC.den E)).toArray
def ST.den (E : Env) : ST → Value
  | .v x => x.den E
  | .t xs => .tuple (xs.map (SV.den E)).toArray
def SV.cells : SV → List SC
  | .c x => [x]
  | .a cs => cs
/-- What is kept in memory of which nothing but its elements is known. -/
class Gh (γ : Type) where
  len : γ → Nat
  sz : γ → Nat
  row : γ → Nat → List SC
  row_len : ∀ g i, (row g i).length = sz g
  row_one : ∀ g i c, c ∈ row g i → ∃ x, c = .v x ∧ x.oneCell' = true
inductive Blk (γ : Type) where
  | gone
  | own (ty : TypeId) (cs : List SC)
  | ro (ty : TypeId) (cs : List SC)
  | ext (g : γ)
def Blk.still {γ : Type} : Blk γ → Blk γ
  | .own ty cs => .ro ty cs
  | b => b
/-- How many temporaries there are; what they hold, the newest first; how many blocks there are; what they hold, the newest first. -/
structure St (γ : Type) where
  nt : Nat
  tmps : List (Nat × ST)
  n : Nat
  heap : List (Nat × Blk γ)
def look {α : Type} : List (Nat × α) → Nat → Option α
  | [], _ => none
  | (e, v) :: r, d => match Nat.beq e d with
    | true => some v
    | false => look r d
/-- The list, laid open. -/
def frc {α : Type} {R : Sort 1} : List α → (List α → R) → R
  | [], k => k []
  | x :: r, k => frc r (fun r' => k (x :: r'))
inductive SExit where
  | normal
  | exit (id : Nat)
  | ret
def SExit.ex : SExit → Exit
  | .normal => .normal
  | .exit id => .exit id
  | .ret => .ret
/-- A test: where it is known it falls away. -/
structure br (b : Bool) (p q : Prop) : Prop where
  t : b = true → p
  f : b = false → q
/-- What an operation comes to. -/
inductive OR where
  | ok (x : ST)
  | chk (b : Bool) (x : ST)
  | bad
def ofValue : Value → Option SV
  | .agg cs => if cs.toList.all Value.oneCell' then frc (cs.toList.map .v) (fun l => some (.a l)) else none
  | .tuple _ => none
  | x => some (.c (.v x))
section
variable {γ : Type}
def evalO (st : St γ) : Operand → Option ST
  | .tmp t => look st.tmps t
  | .const v => match ofValue v with
    | some x => some (.v x)
    | none => none
  | .func f => some (.v (.c (.v (.func (.func f) #[] #[]))))
  | .global _ => none
def evalV (st : St γ) (x : Operand) : Option SV :=
  match evalO st x with
  | some (.v y) => some y
  | _ => none
def evalVs (st : St γ) : List Operand → Option (List SV)
  | [] => some []
  | x :: r => match evalV st x with
    | some y => match evalVs st r with
      | some ys => some (y :: ys)
      | none => none
    | none => none
def aggB : Option TypeDesc → Option Bool
  | some (.struct _) => some true
  | some (.array _ _) => some true
  | some _ => some false
  | none => none
def intOp (op : BinOp) (k : IntKind) (a b : Int) : OR :=
  match op with
  | .add => .ok (.v (.c (.v (.int k (k.wrap (a + b))))))
  | .sub => .ok (.v (.c (.v (.int k (k.wrap (a - b))))))
  | .mul => .ok (.v (.c (.v (.int k (k.wrap (a * b))))))
  | .and => .ok (.v (.c (.v (.int k (bits .and k a b)))))
  | .or => .ok (.v (.c (.v (.int k (bits .or k a b)))))
  | .xor => .ok (.v (.c (.v (.int k (bits .xor k a b)))))
  | .andNot => .ok (.v (.c (.v (.int k (bits .andNot k a b)))))
  | .quo => .chk (b != 0) (.v (.c (.v (.int k (k.wrap (a.tdiv b))))))
  | .rem => .chk (b != 0) (.v (.c (.v (.int k (a.tmod b)))))
  | .eql => .ok (.v (.c (.v (.bool (a == b)))))
  | .neq => .ok (.v (.c (.v (.bool (a != b)))))
  | .lss => .ok (.v (.c (.v (.bool (decide (a < b))))))
  | .leq => .ok (.v (.c (.v (.bool (decide (a ≤ b))))))
  | .gtr => .ok (.v (.c (.v (.bool (decide (a > b))))))
  | .geq => .ok (.v (.c (.v (.bool (decide (a ≥ b))))))
  | _ => .bad
def shOp (op : BinOp) (k : IntKind) (a b : Int) : OR :=
  match op with
  | .shl => .chk (decide (0 ≤ b)) (.v (.c (.v (.int k (k.wrap (a * 2 ^ (min b.toNat k.bits)))))))
  | .shr => .chk (decide (0 ≤ b)) (.v (.c (.v (.int k (a.fdiv (2 ^ (min b.toNat k.bits)))))))
  | _ => .bad
/-- Two rows of plain values, compared. -/
def eqVals : List Value → List Value → Option Bool
  | [], [] => some true
  | .int k a :: r, .int k' b :: s => if k = k' then match eqVals r s with
      | some z => some ((a == b) && z)
      | none => none
    else none
  | _, _ => none
def valsOf : List SC → Option (List Value)
  | [] => some []
  | .v x :: r => match valsOf r with
    | some l => some (x :: l)
    | none => none
  | _ => none
def eqCells (xs ys : List SC) : Option Bool :=
  match valsOf xs, valsOf ys with
  | some a, some b => eqVals a b
  | _, _ => none
def binV (P : Program) (eqs : TypeId → Bool) (op : BinOp) (t : TypeId) (x y : SV) : OR :=
  match x, y with
  | .c (.v (.int k a)), .c (.v (.int k' b)) =>
    match op with
    | .shl => shOp .shl k a b
    | .shr => shOp .shr k a b
    | op => if k = k' then intOp op k a b else .bad
  | .c (.v (.bool a)), .c (.v (.bool b)) =>
    match P.underlying t with
    | some .bool => match op with
      | .eql => .ok (.v (.c (.v (.bool (a == b)))))
      | .neq => .ok (.v (.c (.v (.bool (!(a == b))))))
      | _ => .bad
    | _ => .bad
  | .a xs, .a ys =>
    match eqs t, P.info? t with
    | true, some i => if i.size = xs.length then match eqCells xs ys with
        | some b => match op with
          | .eql => .ok (.v (.c (.v (.bool b))))
          | .neq => .ok (.v (.c (.v (.bool (!b)))))
          | _ => .bad
        | none => .bad
      else .bad
    | _, _ => .bad
  | _, _ => .bad
def pickV (c : Bool) (x y : Option SV) : OR :=
  match x, y with
  | some (.c (.v (.bool a))), some (.c (.v (.bool b))) => .ok (.v (.c (.v (.bool (match c with | true => a | false => b)))))
  | some (.c (.v (.int k a))), some (.c (.v (.int k' b))) => if k = k' then .ok (.v (.c (.v (.int k (match c with | true => a | false => b))))) else .bad
  | some x, none => .chk c (.v x)
  | none, some y => .chk (!c) (.v y)
  | _, _ => .bad
variable [Gh γ]
def loadV (P : Program) (H : List (Nat × Blk γ)) (t : TypeId) (x : SV) : OR :=
  match x, P.info? t with
  | .c (.p id off), some i =>
    match look H id with
    | some (.own _ cs) | some (.ro _ cs) =>
      match aggB (P.underlying t) with
      | some true => if off + i.size ≤ cs.length then frc ((cs.drop off).take i.size) (fun l => .ok (.v (.a l))) else .bad
      | some false => match cs[off]? with
        | some c => .ok (.v (.c c))
        | none => .bad
      | none => .bad
    | _ => .bad
  | .c (.q id sz e j), some i =>
    match look H id with
    | some (.ext g) =>
      if sz = Gh.sz g then
      match aggB (P.underlying t) with
      | some true => if j + i.size ≤ Gh.sz g then frc (((Gh.row g e).drop j).take i.size) (fun l => .chk (decide (e < Gh.len g)) (.v (.a l))) else .bad
      | some false => match (Gh.row g e)[j]? with
        | some c => .chk (decide (e < Gh.len g)) (.v (.c c))
        | none => .bad
      | none => .bad
      else .bad
    | _ => .bad
  | _, _ => .bad
def fieldAddrV (P : Program) (t : TypeId) (x : SV) (f : Nat) : OR :=
  match P.underlying t with
  | some (.struct fs) => match fs[f]? with
    | some fd => match P.info? fd.type with
      | some i => if i.size = 0 then .bad else match x with
        | .c (.p id off) => .ok (.v (.c (.p id (off + fd.offset))))
        | .c (.q id sz e j) => .ok (.v (.c (.q id sz e (j + fd.offset))))
        | _ => .bad
      | none => .bad
    | none => .bad
  | _ => .bad
def partV (P : Program) (t : TypeId) (cs : List SC) (off : Nat) : OR :=
  match aggB (P.underlying t) with
  | some true => match P.info? t with
    | some i => if off + i.size ≤ cs.length then frc ((cs.drop off).take i.size) (fun l => .ok (.v (.a l))) else .bad
    | none => .bad
  | some false => match cs[off]? with
    | some c => .ok (.v (.c c))
    | none => .bad
  | none => .bad
def OR.under (b : Bool) : OR → OR
  | .ok x => .chk b x
  | .chk c x => .chk (b && c) x
  | .bad => .bad
def fieldV (P : Program) (t : TypeId) (x : SV) (f : Nat) : OR :=
  match P.underlying t with
  | some (.struct fs) => match fs[f]? with
    | some fd => match x with
      | .a cs => partV P fd.type cs fd.offset
      | _ => .bad
    | none => .bad
  | _ => .bad
def indexAddrV (P : Program) (H : List (Nat × Blk γ)) (t : TypeId) (x ix : SV) : OR :=
  match ix with
  | .c (.v (.int k e)) =>
    match P.underlying t with
    | some (.array n el) => match P.info? el with
      | some i => match x with
        | .c (.p id off) => .chk (decide (0 ≤ e) && decide (e < n)) (.v (.c (.p id (off + e.toNat * i.size))))
        | _ => .bad
      | none => .bad
    | some (.slice el) => match P.info? el with
      | some i => match x with
        | .c (.s id n) => .chk (decide (0 ≤ e) && decide (e < n)) (.v (.c (.p id (e.toNat * i.size))))
        | .c (.r id) => match look H id with
          | some (.ext g) => .chk (decide (0 ≤ e) && decide (e < (Gh.len g : Int))) (.v (.c (.q id i.size e.toNat 0)))
          | _ => .bad
        | _ => .bad
      | none => .bad
    | _ => .bad
  | _ => .bad
def indexV (P : Program) (t : TypeId) (x ix : SV) : OR :=
  match ix with
  | .c (.v (.int k e)) =>
    match P.underlying t with
    | some (.array n el) => match P.info? el with
      | some i => match x with
        | .a cs => (partV P el cs (e.toNat * i.size)).under (decide (0 ≤ e) && decide (e < n))
        | _ => .bad
      | none => .bad
    | some .string => match x with
      | .c (.v (.string s)) => match s[e.toNat]? with
        | some b => .chk (decide (0 ≤ e)) (.v (.c (.v (.int .u8 b.toNat))))
        | none => .bad
      | _ => .bad
    | _ => .bad
  | _ => .bad
def lenV (P : Program) (H : List (Nat × Blk γ)) (t : TypeId) (x : SV) : OR :=
  match P.underlying t with
  | some (.slice _) => match x with
    | .c (.s _ n) => .ok (.v (.c (.v (.int .i64 n))))
    | .c (.r id) => match look H id with
      | some (.ext g) => .ok (.v (.c (.v (.int .i64 (Gh.len g : Nat)))))
      | _ => .bad
    | .c (.v (.slice _ n _)) => .ok (.v (.c (.v (.int .i64 n))))
    | _ => .bad
  | some (.array n _) => .ok (.v (.c (.v (.int .i64 n))))
  | _ => .bad
def setCs (cs : List SC) (o : Nat) (vs : List SC) : List SC := cs.take o ++ vs ++ cs.drop (o + vs.length)
/-- The parts of a composite are laid into its cells. -/
def fillV (place : Nat → Option (Nat × Nat)) (cs : List SC) : List (Nat × SV) → Option (List SC)
  | [] => some cs
  | (i, x) :: r => match place i with
    | none => none
    | some (off, size) => if x.cells.length = size ∧ off + size ≤ cs.length then fillV place (setCs cs off x.cells) r else none
def evalParts (st : St γ) : List (Nat × Operand) → Option (List (Nat × SV))
  | [] => some []
  | (i, x) :: r => match evalV st x with
    | some y => match evalParts st r with
      | some ys => some ((i, y) :: ys)
      | none => none
    | none => none
def zeroV (P : Program) (t : TypeId) : Option SV :=
  match P.info? t with
  | some i => match i.zero with
    | some z => ofValue z
    | none => none
  | none => none
def fieldPlaces (P : Program) : List Field → Option (List (Nat × Nat))
  | [] => some []
  | f :: r => match P.info? f.type with
    | some i => match fieldPlaces P r with
      | some l => some ((f.offset, i.size) :: l)
      | none => none
    | none => none
def buildV (P : Program) (t : TypeId) (parts : List (Nat × SV)) : OR :=
  match zeroV P t with
  | some z =>
    match P.underlying t with
    | some (.struct fs) => match fieldPlaces P fs.toList with
      | some l => match fillV (fun i => l[i]?) z.cells parts with
        | some cs => frc cs (fun cs => .ok (.v (.a cs)))
        | none => .bad
      | none => .bad
    | some (.array _ el) => match P.info? el with
      | some i => match fillV (fun n => some (n * i.size, i.size)) z.cells parts with
        | some cs => frc cs (fun cs => .ok (.v (.a cs)))
        | none => .bad
      | none => .bad
    | _ => .bad
  | none => .bad
def convV (P : Program) (s d : TypeId) (x : SV) : OR :=
  match P.underlying s with
  | some _ => match P.underlying d, x with
    | some (.int k), .c (.v (.int _ n)) => .ok (.v (.c (.v (.int k (k.wrap n)))))
    | _, _ => .bad
  | none => .bad
def unV (op : UnOp) (x : SV) : OR :=
  match op, x with
  | .not, .c (.v (.bool b)) => .ok (.v (.c (.v (.bool (!b)))))
  | .neg, .c (.v (.int k n)) => .ok (.v (.c (.v (.int k (k.wrap (0 - n))))))
  | _, _ => .bad
def extractV (x : ST) (i : Nat) : OR :=
  match x with
  | .t xs => match xs[i]? with
    | some y => .ok (.v y)
    | none => .bad
  | _ => .bad
/-- A call of one of Go's own functions that leaves memory alone. -/
def callV (P : Program) (st : St γ) (c : Call) : OR :=
  match c.callee with
  | .builtin .len => match c.args.toList, c.argTypes.toList with
    | [x], [t] => match evalV st x with
      | some y => lenV P st.heap t y
      | none => .bad
    | _, _ => .bad
  | .builtin .min => match c.args.toList with
    | [x, y] => match evalV st x, evalV st y with
      | some (.c (.v (.int k a))), some (.c (.v (.int _ b))) => .ok (.v (.c (.v (.int k (if b < a then b else a)))))
      | _, _ => .bad
    | _ => .bad
  | .builtin .max => match c.args.toList with
    | [x, y] => match evalV st x, evalV st y with
      | some (.c (.v (.int k a))), some (.c (.v (.int _ b))) => .ok (.v (.c (.v (.int k (if a < b then b else a)))))
      | _, _ => .bad
    | _ => .bad
  | _ => .bad
/-- An operation that leaves memory alone. -/
def pureOp (P : Program) (eqs : TypeId → Bool) (st : St γ) (op : Op) : OR :=
  match op with
  | .move x | .assign x => match evalO st x with
    | some y => .ok y
    | none => .bad
  | .pick c x y => match evalV st c with
    | some (.c (.v (.bool b))) => pickV b (evalV st x) (evalV st y)
    | _ => .bad
  | .load t x => match evalV st x with
    | some y => loadV P st.heap t y
    | none => .bad
  | .fieldAddr t x f => match evalV st x with
    | some y => fieldAddrV P t y f
    | none => .bad
  | .field t x f => match evalV st x with
    | some y => fieldV P t y f
    | none => .bad
  | .indexAddr t x ix => match evalV st x, evalV st ix with
    | some y, some z => indexAddrV P st.heap t y z
    | _, _ => .bad
  | .index t x ix => match evalV st x, evalV st ix with
    | some y, some z => indexV P t y z
    | _, _ => .bad
  | .binOp op t x y _ => match evalV st x, evalV st y with
    | some a, some b => binV P eqs op t a b
    | _, _ => .bad
  | .unOp op _ x => match evalV st x with
    | some y => unV op y
    | none => .bad
  | .convert s d x => match evalV st x with
    | some y => convV P s d y
    | none => .bad
  | .extract x i => match evalO st x with
    | some y => extractV y i
    | none => .bad
  | .build t ps => match evalParts st ps.toList with
    | some l => buildV P t l
    | none => .bad
  | .call c => callV P st c
  | _ => .bad
def St.put (st : St γ) (d : Option Nat) (x : ST) : St γ :=
  match d with
  | some d => match Nat.blt d st.nt with
    | true => ⟨st.nt, (d, x) :: st.tmps, st.n, st.heap⟩
    | false => st
  | none => st
/-- A new block. -/
def St.new (st : St γ) (b : Blk γ) : St γ := ⟨st.nt, st.tmps, st.n + 1, (st.n, b) :: st.heap⟩
def St.putK (st : St γ) (d : Option Nat) (x : ST) (k : St γ → Prop) : Prop :=
  match st with
  | ⟨nt, tm, n, h⟩ => match d with
    | some d => match Nat.blt d nt with
      | true => k ⟨nt, (d, x) :: tm, n, h⟩
      | false => k ⟨nt, tm, n, h⟩
    | none => k ⟨nt, tm, n, h⟩
def St.newK (st : St γ) (b : Blk γ) (k : Nat → St γ → Prop) : Prop :=
  match st with
  | ⟨nt, tm, n, h⟩ => k n ⟨nt, tm, n + 1, (n, b) :: h⟩
def St.setK (st : St γ) (id : Nat) (b : Blk γ) (k : St γ → Prop) : Prop :=
  match st with
  | ⟨nt, tm, n, h⟩ => k ⟨nt, tm, n, (id, b) :: h⟩
def St.news (st : St γ) : List (Blk γ) → St γ
  | [] => st
  | b :: r => (st.new b).news r
def St.newsK (k : St γ → Prop) : List (Blk γ) → St γ → Prop
  | [], st => k st
  | b :: r, st => st.newK b (fun _ st' => St.newsK k r st')
/-- What a callee comes to: a result, and rows that are new. -/
structure CR (γ : Type) where
  pre : Bool
  res : ST
  new : List (Blk γ)
/-- An order in which a region that draws is gone through: first part (true: read only, taken ahead of all others), new variables (which may come at any time of the first part), second part. -/
structure Plan where
  p1 : List (Nat × Bool)
  al : List Nat
  p2 : List (Nat × Bool)
/-- All that is told of the program besides its own text. -/
structure Cx (γ : Type) where
  P : Program
  eqs : TypeId → Bool
  calls : FuncId → Nat → List (Nat × Blk γ) → List SV → Option (CR γ)
  loops : List Nat → Option (St γ → (SExit → St γ → Prop) → Prop)
  turns : Nat
  n0 : Nat
  plans : List (Nat × Plan)
def isPure : Op → Bool
  | .alloc _ => false
  | .box _ _ => false
  | .store _ _ _ => false
  | .buildSlice _ _ _ => false
  | .makeSlice _ _ _ => false
  | .call c => match c.callee with
    | .value _ => false
    | _ => true
  | _ => true
/-- One operation, and what follows. -/
def step (cx : Cx γ) (o : Oper) (st : St γ) (k : St γ → Prop) : Prop :=
  match o.op with
  | .alloc t => match zeroV cx.P t with
    | some z => frc z.cells (fun cs => st.newK (.own t cs) (fun n st' => st'.putK o.dst (.v (.c (.p n 0))) k))
    | none => False
  | .box t x => match evalV st x with
    | some y => frc y.cells (fun cs => st.newK (.own t cs) (fun n st' => st'.putK o.dst (.v (.c (.p n 0))) k))
    | none => False
  | .store t x y => match evalV st x, evalV st y, cx.P.info? t with
    | some (.c (.p id off)), some z, some i =>
      match look st.heap id with
      | some (.own ty cs) => if z.cells.length = i.size ∧ off + i.size ≤ cs.length then frc (setCs cs off z.cells) (fun l => st.setK id (.own ty l) (fun st' => st'.putK o.dst (.t []) k)) else False
      | _ => False
    | _, _, _ => False
  | .buildSlice t n ps => match evalParts st ps.toList, cx.P.underlying t with
    | some l, some (.slice el) => match cx.P.info? el, zeroV cx.P el with
      | some i, some z => if n * i.size ≤ 16777216 ∧ i.size = z.cells.length ∧ 0 < n * i.size then
          match fillV (fun j => some (j * i.size, i.size)) ((List.replicate n z.cells).flatten) l with
          | some cs => frc cs (fun cs => st.newK (.own el cs) (fun m st' => st'.putK o.dst (.v (.c (.s m n))) k))
          | none => False
        else False
      | _, _ => False
    | _, _ => False
  | .makeSlice t x y => match evalV st x, evalV st y, cx.P.underlying t with
    | some (.c (.v (.int _ lx))), some (.c (.v (.int _ ly))), some (.slice el) => match cx.P.info? el, zeroV cx.P el with
      | some i, some z => if (lx = ly ∧ 0 ≤ lx) ∧ (lx.toNat * i.size ≤ 16777216 ∧ i.size = z.cells.length ∧ 0 < lx.toNat * i.size) ∧ (i.bytes : Int) * lx ≤ 281474976710656 ∧ lx ≤ 9223372036854775807 then frc ((List.replicate lx.toNat z.cells).flatten) (fun cs => st.newK (.own el cs) (fun m st' => st'.putK o.dst (.v (.c (.s m lx.toNat))) k)) else False
      | _, _ => False
    | _, _, _ => False
  | .call c => match c.callee with
    | .value (.func f) => match evalVs st c.args.toList with
      | some l => match cx.calls f st.n st.heap l with
        | some r => br r.pre (St.newsK (fun st' => st'.putK o.dst r.res k) r.new st) False
        | none => False
      | none => False
    | _ => match callV cx.P st c with
      | .ok x => st.putK o.dst x k
      | .chk b x => br b (st.putK o.dst x k) False
      | .bad => False
  | op => match pureOp cx.P cx.eqs st op with
    | .ok x => st.putK o.dst x k
    | .chk b x => br b (st.putK o.dst x k) False
    | .bad => False
omit [Gh γ] in
theorem putK_eq (st : St γ) (d : Option Nat) (x : ST) (k : St γ → Prop) : st.putK d x k = k (st.put d x) := by
  obtain ⟨nt, tm, n, h⟩ := st
  cases d with
  | none => rfl
  | some d =>
    simp only [St.putK, St.put]
    split <;> simp_all
omit [Gh γ] in
theorem newK_eq (st : St γ) (b : Blk γ) (k : Nat → St γ → Prop) : st.newK b k = k st.n (st.new b) := rfl
omit [Gh γ] in
theorem setK_eq (st : St γ) (id : Nat) (b : Blk γ) (k : St γ → Prop) : st.setK id b k = k ⟨st.nt, st.tmps, st.n, (id, b) :: st.heap⟩ := rfl
omit [Gh γ] in
theorem newsK_eq (k : St γ → Prop) : ∀ (l : List (Blk γ)) (st : St γ), St.newsK k l st = k (st.news l)
  | [], _ => rfl
  | b :: r, st => by rw [St.newsK, newK_eq, newsK_eq k r]; rfl
theorem frc_eq {α : Type} {R : Sort 1} : ∀ (l : List α) (k : List α → R), frc l k = k l
  | [], _ => rfl
  | x :: r, k => frc_eq r _
inductive Gd where
  | yes (b : Bool) (d : Nat)
  | no
  | bad
/-- What a guard's operation has yielded. -/
def guardV (all : List Oper) (st : St γ) (j : Nat) : Gd :=
  match all[j]? with
  | some o => match o.dst with
    | some d => match look st.tmps d with
      | some (.v (.c (.v (.bool b)))) => .yes b d
      | some (.t []) => .no
      | _ => .bad
    | none => .bad
  | none => .bad
/-- A step that leaves memory alone, or calls what makes nothing that is seen. -/
def stepQ (cx : Cx γ) (o : Oper) (st : St γ) (k : St γ → Prop) : Prop :=
  match o.op with
  | .call c => match c.callee with
    | .value (.func f) => match evalVs st c.args.toList with
      | some l => match cx.calls f st.n st.heap l with
        | some r => match r.new with
          | [] => br r.pre (st.putK o.dst r.res k) False
          | _ => False
        | none => False
      | none => False
    | _ => match callV cx.P st c with
      | .ok x => st.putK o.dst x k
      | .chk b x => br b (st.putK o.dst x k) False
      | .bad => False
  | op => match pureOp cx.P cx.eqs st op with
    | .ok x => st.putK o.dst x k
    | .chk b x => br b (st.putK o.dst x k) False
    | .bad => False
def execOps (stp : Oper → St γ → (St γ → Prop) → Prop) (all : List Oper) : List Oper → St γ → (St γ → Prop) → Prop
  | [], st, K => K st
  | o :: rest, st, K =>
    match o.guard with
    | none => stp o st (fun st' => execOps stp all rest st' K)
    | some (j, pol) => match guardV all st j with
      | .yes b d => br b
          (st.putK (some d) (.v (.c (.v (.bool true)))) (fun st1 => match pol with
            | true => stp o st1 (fun st' => execOps stp all rest st' K)
            | false => st1.putK o.dst (.t []) (fun st2 => execOps stp all rest st2 K)))
          (st.putK (some d) (.v (.c (.v (.bool false)))) (fun st1 => match pol with
            | false => stp o st1 (fun st' => execOps stp all rest st' K)
            | true => st1.putK o.dst (.t []) (fun st2 => execOps stp all rest st2 K)))
      | .no => st.putK o.dst (.t []) (fun st2 => execOps stp all rest st2 K)
      | .bad => False
def unroll (body : St γ → (SExit → St γ → Prop) → Prop) : Nat → St γ → (SExit → St γ → Prop) → Prop
  | 0, _, _ => False
  | n + 1, st, K => body st (fun e st' => match e with
      | .normal => unroll body n st' K
      | e => K e st')
def setAll (listed : Array Bool) : List Nat → Array Bool
  | [] => listed
  | i :: r => setAll (listed.setIfInBounds i true) r
/-- What is read from: nothing that is written to within the region. -/
def hideB (ids : List Nat) (m : Nat) (id : Nat) : Blk γ → Blk γ
  | .own t cs => match ids.contains id || Nat.ble m id with
    | true => .gone
    | false => .own t cs
  | b => b
def hide (ids : List Nat) (m : Nat) (H : List (Nat × Blk γ)) : List (Nat × Blk γ) := H.map fun x => (x.1, hideB ids m x.1 x.2)
def stepH (cx : Cx γ) (ids : List Nat) (m : Nat) (o : Oper) (st : St γ) (k : St γ → Prop) : Prop :=
  match st with
  | ⟨nt, tm, n, h⟩ => stepQ cx o ⟨nt, tm, n, hide ids m h⟩ (fun st' => match st' with
    | ⟨nt', tm', n', _⟩ => k ⟨nt', tm', n', h⟩)
def stepR (cx : Cx γ) (ids : List Nat) (m : Nat) (o : Oper) (st : St γ) (k : St γ → Prop) : Prop :=
  match o.op with
  | .store _ x _ => match evalV st x with
    | some (.c (.p id _)) => match ids.contains id || Nat.ble m id with
      | true => step cx o st k
      | false => False
    | _ => False
  | _ => step cx o st k
def execPlan (cx : Cx γ) (ids : List Nat) (m : Nat) (ops : Array Oper) : List (Nat × Bool) → St γ → (St γ → Prop) → Prop
  | [], st, K => K st
  | (i, q) :: r, st, K => match ops[i]? with
    | some o => match q with
      | true => execOps (stepH cx ids m) ops.toList [o] st (fun st' => execPlan cx ids m ops r st' K)
      | false => execOps (stepR cx ids m) ops.toList [o] st (fun st' => execPlan cx ids m ops r st' K)
    | none => False
def execAl (cx : Cx γ) (ops : Array Oper) : List Nat → St γ → (St γ → Prop) → Prop
  | [], st, K => K st
  | i :: r, st, K => match ops[i]? with
    | some o => step cx o st (fun st' => execAl cx ops r st' K)
    | none => False
def alDsts (ops : Array Oper) : List Nat → List Nat
  | [] => []
  | i :: r => match ops[i]? with
    | some o => match o.dst with
      | some d => d :: alDsts ops r
      | none => alDsts ops r
    | none => alDsts ops r
def dropT (ds : List Nat) : List (Nat × ST) → List (Nat × ST)
  | [] => []
  | (d, x) :: r => match ds.contains d with
    | true => dropT ds r
    | false => (d, x) :: dropT ds r
def findDst (t : Nat) : List Oper → Option Op
  | [] => none
  | o :: r => match o.dst with
    | some d => match Nat.beq d t with
      | true => some o.op
      | false => findDst t r
    | none => findDst t r
def root (ops : List Oper) : Nat → Operand → Option Nat
  | 0, _ => none
  | f + 1, x => match x with
    | .tmp t => match findDst t ops with
      | some (.fieldAddr _ y _) => root ops f y
      | some (.indexAddr _ y _) => root ops f y
      | some (.move y) => root ops f y
      | some (.assign y) => root ops f y
      | some _ => none
      | none => some t
    | _ => none
def targets (st : St γ) (all : List Oper) : List Oper → List Nat
  | [] => []
  | o :: r => match o.op with
    | .store _ x _ => match root all 9 x with
      | some t => match look st.tmps t with
        | some (.v (.c (.p id _))) => id :: targets st all r
        | some (.v (.c (.s id _))) => id :: targets st all r
        | _ => targets st all r
      | none => targets st all r
    | _ => targets st all r
/-- The order may be gone through so: each operation that only reads may come up, and nobody who could come ahead of it touches its temporaries; all others come up one by one. -/
def goB (ops : Array Oper) (al : List Nat) : List (Nat × Bool) → Array Bool → Bool
  | [], _ => true
  | (i, true) :: r, listed => (Region.ready .any ops listed).contains i && Region.free .any ops listed i && !al.contains i && goB ops al r (listed.setIfInBounds i true)
  | (i, false) :: r, listed => decide (Region.ready .any ops (setAll listed al) = [i]) && (Region.ready .any ops listed).contains i && !al.contains i && goB ops al r (listed.setIfInBounds i true)
def alB (ops : Array Oper) (listed : Array Bool) (k : Nat) : Bool :=
  match ops[k]? with
  | some o => (match o.op with
      | .alloc _ => true
      | _ => false) && o.guard.isNone && o.dst.isSome && (Region.ready .any ops listed).contains k && Region.free .any ops listed k
  | none => false
def zerosB (P : Program) (ops : Array Oper) : List Nat → Bool
  | [] => true
  | k :: r => (match ops[k]? with
    | some o => match o.op with
      | .alloc t => (zeroV P t).isSome
      | _ => false
    | none => false) && zerosB P ops r
def nodupB : List Nat → Bool
  | [] => true
  | i :: r => !r.contains i && nodupB r
def planB (ops : Array Oper) (pl : Plan) : Bool :=
  let l0 := Array.replicate ops.size false
  let l1 := setAll l0 (pl.p1.map (·.1))
  let l2 := setAll l1 pl.al
  let l3 := setAll l2 (pl.p2.map (·.1))
  Region.noSelect ops && nodupB pl.al && pl.al.all (fun k => decide (k < ops.size)) && pl.al.all (alB ops l0) && goB ops pl.al pl.p1 l0 && pl.al.all (fun k => decide (Region.ready .any ops (setAll l1 (pl.al.filter (· != k))) = [k])) &&
    goB ops [] pl.p2 l2 && decide (Region.ready .any ops l3 = []) && decide (pl.p1.length + pl.al.length + pl.p2.length ≤ ops.size)
/-- A region that draws its order may be gone through in the order of the text. -/
structure drw (b : Bool) (p : Prop) : Prop where
  ok : b = true
  go : p
def exec (cx : Cx γ) : List Nat → Code → St γ → (SExit → St γ → Prop) → Prop
  | _, .skip, st, K => K .normal st
  | _, .region id ops draw, st, K => match draw with
    | false => execOps (step cx) ops.toList ops.toList st (K .normal)
    | true => match look cx.plans id with
      | some pl => match st with
        | ⟨nt, tm, n, h⟩ => drw (planB ops pl && (alDsts ops pl.al).all (fun d => Nat.blt d nt) && zerosB cx.P ops pl.al) (frc (targets ⟨nt, tm, n, h⟩ ops.toList ops.toList) (fun ids => frc (dropT (alDsts ops pl.al) tm) (fun tm' =>
          execPlan cx ids n ops pl.p1 ⟨nt, tm', n, h⟩ (fun st1 => execAl cx ops pl.al st1 (fun st2 => execPlan cx ids n ops pl.p2 st2 (K .normal))))))
      | none => False
  | pt, .seq a b, st, K => exec cx (0 :: pt) a st (fun e st' => match e with
      | .normal => exec cx (1 :: pt) b st' K
      | e => K e st')
  | pt, .cond c a b, st, K => match evalV st c with
      | some (.c (.v (.bool t))) => br t (exec cx (0 :: pt) a st K) (exec cx (1 :: pt) b st K)
      | _ => False
  | pt, .block id body, st, K => exec cx (0 :: pt) body st (fun e st' => match e with
      | .exit id' => if id' = id then K .normal st' else K (.exit id') st'
      | e => K e st')
  | pt, .loop body, st, K => match cx.loops pt with
      | some F => F st K
      | none => unroll (exec cx (0 :: pt) body) cx.turns st K
  | _, .exit id, st, K => K (.exit id) st
  | _, .ret, st, K => K .ret st
  | _, _, _, _ => False
end
end Go.Sx
