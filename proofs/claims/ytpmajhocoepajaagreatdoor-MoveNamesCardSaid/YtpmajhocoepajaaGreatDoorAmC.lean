/-
  Am, part C: the program's code as operations of part B; the big steps.
-/
import Derived.Test.YtpmajhocoepajaaGreatDoorAmB
import GoSem.Op.Equal
set_option linter.unusedVariables false
namespace Go.Am

section
variable {γ : Type}
noncomputable def g1 (f : AVal → Option γ) (l : List AVal) : Option γ := List.rec (motive := fun _ => Option γ) none (fun a _ _ => f a) l
noncomputable def g2 (f : AVal → AVal → Option γ) (l : List AVal) : Option γ := List.rec (motive := fun _ => Option γ) none (fun a l _ => g1 (f a) l) l
noncomputable def g3 (f : AVal → AVal → AVal → Option γ) (l : List AVal) : Option γ := List.rec (motive := fun _ => Option γ) none (fun a l _ => g2 (f a) l) l
noncomputable def h1 (f : AVal → Heap → Option γ) (l : List AVal) (H : Heap) : Option γ := g1 (fun a => f a H) l
noncomputable def h2 (f : AVal → AVal → Heap → Option γ) (l : List AVal) (H : Heap) : Option γ := g2 (fun a b => f a b H) l
noncomputable def h3 (f : AVal → AVal → AVal → Heap → Option γ) (l : List AVal) (H : Heap) : Option γ := g3 (fun a b c => f a b c H) l
theorem g1_eq {f : AVal → Option γ} {l : List AVal} {r : γ} : g1 f l = some r ↔ ∃ a m, l = a :: m ∧ f a = some r := by
  cases l with
  | nil => simp [g1]
  | cons a l => simp [g1]
theorem g2_eq {f : AVal → AVal → Option γ} {l : List AVal} {r : γ} : g2 f l = some r ↔ ∃ a b m, l = a :: b :: m ∧ f a b = some r := by
  cases l with
  | nil => simp [g2]
  | cons a l =>
    show g1 (f a) l = some r ↔ _
    rw [g1_eq]
    constructor
    · rintro ⟨b, m, rfl, h⟩; exact ⟨a, b, m, rfl, h⟩
    · rintro ⟨a', b, m, e, h⟩; cases e; exact ⟨b, m, rfl, h⟩
theorem g3_eq {f : AVal → AVal → AVal → Option γ} {l : List AVal} {r : γ} : g3 f l = some r ↔ ∃ a b c m, l = a :: b :: c :: m ∧ f a b c = some r := by
  cases l with
  | nil => simp [g3]
  | cons a l =>
    show g2 (f a) l = some r ↔ _
    rw [g2_eq]
    constructor
    · rintro ⟨b, c, m, rfl, h⟩; exact ⟨a, b, c, m, rfl, h⟩
    · rintro ⟨a', b, c, m, e, h⟩; cases e; exact ⟨b, c, m, rfl, h⟩
end

inductive Opd where
  | t (i : Nat)
  | c (v : AVal)

inductive SOp where
  | pur (f : List AVal → Option AVal)
  | rd (f : List AVal → Heap → Option AVal)
  | al (f : List AVal → Made)
  | ef (f : List AVal → Heap → Res)
  | call (f : FuncId)
  | callv

structure Chk where
  t : Nat
  guard : Option (Nat × Bool)
  f : List AVal → Heap → Option AVal
  args : List Opd

structure SOper where
  dst : Option Nat
  op : SOp
  args : List Opd
  guard : Option (Nat × Bool)
  chk : List Chk

abbrev Env := Nat → AVal
def Opd.ev (E : Env) : Opd → AVal
  | .t i => E i
  | .c v => v
def put (E : Env) (d : Option Nat) (v : AVal) : Env := match d with
  | none => E
  | some d => fun i => if i = d then v else E i

/-! ## the program's text -/
def strOf (b : ByteArray) : Nat × Nat := b.data.toList.foldl (fun p c => (p.1 + 1, p.2 * 256 + c.toNat)) (0, 0)

def conv : Nat → Value → Option AVal
  | 0, _ => none
  | d + 1, v => match v with
    | .bool b => some (.bool b)
    | .int k n => some (.int k n)
    | .string s => some (.str (strOf s).1 (strOf s).2)
    | .pointer none => some .nilp
    | .slice none 0 0 => some .nils
    | .map none => some .nilm
    | .func f a b => match f with
      | .yield _ => none
      | f => match a.toList.mapM (conv d), b.toList.mapM (conv d) with
        | some a, some b => some (.fn f a b)
        | _, _ => none
    | .nilFunc => some .nilf
    | .iface t v => match conv d v with
      | some a => some (.ifc t a)
      | none => none
    | .nilIface => some .nili
    | .agg l => match l.toList.mapM (fun v : Value => match v with
        | .agg _ => none
        | .tuple _ => none
        | v => conv d v) with
      | some l => some (.agg l)
      | none => none
    | .tuple l => match l.toList.mapM (conv d) with
      | some l => some (.tup l)
      | none => none
    | _ => none

section
variable (P : Program)

def cOpd : Operand → Option Opd
  | .tmp t => some (.t t)
  | .const v => (conv 5 v).map .c
  | .global g => if g < P.globals.size then some (.c (.ptr g 0)) else none
  | .func f => some (.c (.fn (.func f) [] []))
def cOpds (l : Array Operand) : Option (List Opd) := l.toList.mapM (cOpd P)
def cOpdo : Option Operand → Option (List Opd)
  | none => some []
  | some x => (cOpd P x).map fun x => [x]

def size? (t : TypeId) : Option Nat := (P.info? t).map (·.size)
def bytes? (t : TypeId) : Option Nat := (P.info? t).map (·.bytes)
/-- the zero value's cells, as many as the type has -/
noncomputable def zero? (t : TypeId) : Option (AVal × List AVal) := match P.info? t with
  | none => none
  | some i => match i.zero with
    | none => none
    | some z => match conv 5 z with
      | none => none
      | some v => withCells v fun l => if l.length = i.size then some (v, l) else none
def agg? (t : TypeId) : Option Bool := (P.underlying t).map fun | .struct _ | .array _ _ => true | _ => false

/-- the kinds of a type's cells, where its values may be held against each other cell by cell -/
def flatGo (F : TypeId → Option (List TK)) : List Field → Nat → Option (List TK)
  | [], _ => some []
  | f :: l, off => if f.name = "_" then none else if f.offset ≠ off then none else
    match F f.type with
    | none => none
    | some ks => if ks.length = 0 then none else if size? P f.type ≠ some ks.length then none else
      match flatGo F l (off + ks.length) with
      | none => none
      | some r => some (ks ++ r)
def flatK : Nat → TypeId → Option (List TK)
  | 0, _ => none
  | d + 1, t => match P.underlying t with
    | some .bool => some [.b]
    | some (.int _) => some [.i]
    | some .string => some [.s]
    | some (.struct fs) => if P.stoodInHeld t then none else flatGo P (flatK d) fs.toList 0
    | _ => none
def eqKind (t : TypeId) : Option TK := match P.underlying t with
  | some .bool => some .b
  | some (.int _) => some .i
  | some .string => some .s
  | some (.pointer _) => some .p
  | some (.interface _) => some .f
  | some (.slice _) => some .v
  | some (.map _ _) => some .m
  | some (.func _ _ _) => some .n
  | some (.struct _) => if P.eqGuardType P.depth t then none else (flatK P 6 t).map .agg
  | _ => none
def keyKind (t : TypeId) : Option TK := match P.underlying t with
  | some .bool => some .b
  | some (.int _) => some .i
  | some .string => some .s
  | _ => none

def isC : Operand → Bool
  | .const _ => true
  | _ => false

noncomputable def cBin (op : BinOp) (nn : Bool) (tk : TK) : AVal → AVal → Option AVal :=
  match op with
  | .add => bAdd | .sub => bSub | .mul => bMul | .quo => bQuo | .rem => bRem | .and => bAnd | .or => bOr | .xor => bXor | .andNot => bNot
  | .shl => bShl | .shr => bShr | .eql => bEql nn tk | .neq => bNeq nn tk | .lss => bLss | .leq => bLeq | .gtr => bGtr | .geq => bGeq

def places? (fields : Array Field) : Option (List (Nat × Nat)) := fields.toList.mapM fun f => (size? P f.type).map fun n => (f.offset, n)
def cParts (pl : Nat → Option (Nat × Nat)) : List (Nat × Operand) → Option (List (Nat × Nat) × List Opd)
  | [] => some ([], [])
  | (i, x) :: l => match pl i, cOpd P x, cParts pl l with
    | some p, some y, some r => some (p :: r.1, y :: r.2)
    | _, _, _ => none

noncomputable def cOp (o : Oper) : Option (SOp × List Opd) :=
  match o.op with
  | .move x | .assign x => do some (.pur (g1 oMv), [← cOpd P x])
  | .pick c a b => do some (.pur (g3 oPick), [← cOpd P c, ← cOpd P a, ← cOpd P b])
  | .alloc e => do some (.al (aNew e (← zero? P e).2), [])
  | .box e x => do some (.al (g1 (aBox e (← size? P e))), [← cOpd P x])
  | .build t ps => do
    let z := (← zero? P t).2
    match ← P.underlying t with
    | .struct fields => do
      let pl ← places? P fields
      let l ← cParts P (pl[·]?) ps.toList
      some (.pur (oAgg z l.1), l.2)
    | .array _ e => do
      let s ← size? P e
      let l ← cParts P (fun i => some (i * s, s)) ps.toList
      some (.pur (oAgg z l.1), l.2)
    | _ => none
  | .buildSlice t len ps => do
    match ← P.underlying t with
    | .slice e => do
      let s ← size? P e
      let z ← zero? P e
      let l ← cParts P (fun i => some (i * s, s)) ps.toList
      if len * s > 2 ^ 24 then none else
      some (.al (aSlice e len (List.replicate len z.2).flatten l.1), l.2)
    | _ => none
  | .load t a => do
    match ← agg? P t with
    | true => some (.rd (h1 (oLdN (← size? P t))), [← cOpd P a])
    | false => some (.rd (h1 oLd1), [← cOpd P a])
  | .store t a v => do some (.ef (h2 (oSt (← size? P t))), [← cOpd P a, ← cOpd P v])
  | .nilCheck x => do some (.pur (g1 oNilchk), [← cOpd P x])
  | .binOp op t x y _ => do some (.pur (g2 (cBin op (isC x || isC y) (← if op matches .eql | .neq then eqKind P t else some .b))), [← cOpd P x, ← cOpd P y])
  | .unOp op _ x => do
    match op with
    | .not => some (.pur (g1 uNot), [← cOpd P x])
    | .neg => some (.pur (g1 uNeg), [← cOpd P x])
    | .xor => some (.pur (g1 uXor), [← cOpd P x])
    | .plus => none
  | .convert s d x => do
    match ← P.underlying s, ← P.underlying d with
    | .int _, .int k => some (.pur (g1 (oInt k)), [← cOpd P x])
    | .int _, .string => some (.pur (g1 oI2s), [← cOpd P x])
    | .string, .slice e => match ← P.underlying e with
      | .int .u8 => some (.al (g1 (aBytes e)), [← cOpd P x])
      | _ => none
    | .slice e, .string => match ← P.underlying e with
      | .int .u8 => some (.rd (h1 oB2s), [← cOpd P x])
      | _ => none
    | .string, .string => some (.pur (g1 fun v => onStr v fun _ _ => some v), [← cOpd P x])
    | _, _ => none
  | .makeInterface t x => do
    match ← P.underlying t with
    | .interface _ => none
    | _ => some (.pur (g1 (oIfc t)), [← cOpd P x])
  | .makeFunc f a b => do
    match f with
    | .yield _ => none
    | f => some (.pur (oFn f a.size), (← cOpds P a) ++ (← cOpds P b))
  | .makeMap t none => do some (.al aMap, [])
  | .makeMap t (some (.const (.int ..))) => do
    match ← P.underlying t with
    | .map _ _ => some (.al aMap, [])
    | _ => none
  | .makeSlice t l c => do
    match ← P.underlying t with
    | .slice e => some (.al (g2 (aMake e (← bytes? P e) (← zero? P e).2)), [← cOpd P l, ← cOpd P c])
    | _ => none
  | .slice t x lo hi mx => do
    let l := (← cOpd P x) :: ((← cOpdo P mx) ++ (← cOpdo P hi) ++ (← cOpdo P lo))
    if mx.isSome && hi.isNone then none else
    match ← P.underlying t with
    | .string => if mx.isSome then none else some (.pur (oSlS lo.isSome hi.isSome), l)
    | .slice e => some (.pur (oSlV (← size? P e) lo.isSome hi.isSome mx.isSome), l)
    | .array n e => some (.pur (oSlA n (← size? P e) lo.isSome hi.isSome mx.isSome), l)
    | _ => none
  | .fieldAddr t x i => do
    match ← P.underlying t with
    | .struct fs => do
      let f ← fs[i]?
      if (← size? P f.type) = 0 then none else some (.pur (g1 (oFad f.offset)), [← cOpd P x])
    | _ => none
  | .field t x i => do
    match ← P.underlying t with
    | .struct fs => do
      let f ← fs[i]?
      match ← agg? P f.type with
      | true => some (.pur (g1 (oFldN f.offset (← size? P f.type))), [← cOpd P x])
      | false => some (.pur (g1 (oFld1 f.offset)), [← cOpd P x])
    | _ => none
  | .indexAddr t x i => do
    match ← P.underlying t with
    | .slice e => some (.pur (g2 (oIaS (← size? P e))), [← cOpd P x, ← cOpd P i])
    | .array n e => some (.pur (g2 (oIaA n (← size? P e))), [← cOpd P x, ← cOpd P i])
    | _ => none
  | .index t x i => do
    match ← P.underlying t with
    | .string => some (.pur (g2 oIxS), [← cOpd P x, ← cOpd P i])
    | .array n e => match ← agg? P e with
      | true => some (.pur (g2 (oIxN n (← size? P e))), [← cOpd P x, ← cOpd P i])
      | false => some (.pur (g2 (oIx1 n (← size? P e))), [← cOpd P x, ← cOpd P i])
    | _ => none
  | .lookup t m k ok => do
    match ← P.underlying t with
    | .map kt e => some (.rd (h2 (oLk (← keyKind P kt) (← zero? P e).1 ok)), [← cOpd P m, ← cOpd P k])
    | _ => none
  | .mapUpdate t m k v | .insert t m k v => do
    match ← P.underlying t with
    | .map kt _ => some (.ef (h3 (oMu (← keyKind P kt))), [← cOpd P m, ← cOpd P k, ← cOpd P v])
    | _ => none
  | .mapEntry t m k => do
    match ← P.underlying t with
    | .map kt e => some (.ef (h2 (oMe (← keyKind P kt) (← zero? P e).1)), [← cOpd P m, ← cOpd P k])
    | _ => none
  | .entryStore _ m s v => do some (.ef (h3 oEs), [← cOpd P m, ← cOpd P s, ← cOpd P v])
  | .range t x => do
    match ← P.underlying t with
    | .string => some (.al (g1 aIter), [← cOpd P x])
    | _ => none
  | .next it true => do some (.ef (h1 oNxt), [← cOpd P it])
  | .extract x i => do some (.pur (g1 (oExt i)), [← cOpd P x])
  | .call c => do
    let args ← cOpds P c.args
    match c.callee with
    | .value (.func f) => match P.funcs[f]? with
      | some fn => if fn.body.isNone || fn.name == "runtime.NumGoroutine" then none else some (.call f, args)
      | none => none
    | .value f => do some (.callv, (← cOpd P f) :: args)
    | .invoke .. => none
    | .builtin b => match b, c.args.size with
      | .append, 2 => do
        match ← (c.argTypes[0]?).bind P.underlying with
        | .slice e => match ← (c.argTypes[1]?).bind P.underlying with
          | .int _ => none
          | _ => do
            let z ← zero? P e
            let b ← bytes? P e
            if b = 0 then none else some (.ef (h2 (oApp e (← size? P e) b)), args)
        | _ => none
      | .len, 1 => do match ← (c.argTypes[0]?).bind P.underlying with
        | .string => some (.pur (g1 oLenS), args)
        | .slice _ => some (.pur (g1 oLenV), args)
        | .map .. => some (.rd (h1 oLenM), args)
        | .array n _ => some (.pur (oKst (.int .i64 n)), args)
        | .pointer a => do match ← P.underlying a with
          | .array n _ => some (.pur (oKst (.int .i64 n)), args)
          | _ => none
        | _ => none
      | .copy, 2 => do
        match ← (c.argTypes[0]?).bind P.underlying with
        | .slice e => some (.ef (h2 (oCpy (← size? P e))), args)
        | _ => none
      | .clear, 1 => do
        match ← (c.argTypes[0]?).bind P.underlying with
        | .slice e => some (.ef (h1 (oClr (← zero? P e).2)), args)
        | _ => none
      | .min, 2 => some (.pur (g2 oMin), args)
      | .max, 2 => some (.pur (g2 oMax), args)
      | .unsafeSliceData, 1 => some (.pur (g1 oSdata), args)
      | .unsafeString, 2 => do match ← (c.argTypes[0]?).bind P.underlying with
        | .pointer e => if size? P e = some 1 then some (.ef (h2 (oUstr e)), args) else none
        | _ => none
      | _, _ => none
  | _ => none

/-- what an operation does to memory -/
inductive SK where
  | pu | rd | al | ef
def SOp.kind : SOp → SK
  | .pur _ => .pu
  | .rd _ => .rd
  | .al _ => .al
  | _ => .ef
def SOp.notRd : SOp → Bool
  | .rd _ => false
  | _ => true
def SOp.reads : SOp → Option (List AVal → Heap → Option AVal)
  | .rd f => some f
  | _ => none

/-- the operations that an operation must follow -/
def dirs (o : Oper) : List Nat := o.after.toList.filterMap fun e => if Region.binds .any e then some e.on else none
/-- and all those that these must follow, as the bits of a number -/
def above (an : Nat → Nat) (l : List Nat) : Nat := l.foldl (fun m j => Nat.lor m (Nat.lor (Nat.shiftLeft 1 j) (an j))) 0

def Opd.tmps : List Opd → List Nat
  | [] => []
  | .t i :: l => i :: Opd.tmps l
  | .c _ :: l => Opd.tmps l

def gdst (ops : Array Oper) (g : Option (Nat × Bool)) : Option (Option (Nat × Bool)) := match g with
  | none => some none
  | some (j, b) => match (ops[j]?).bind (·.dst) with
    | some t => some (some (t, b))
    | none => none

def cOper (nt : Nat) (ops : Array Oper) (o : Oper) (s : SOp × List Opd) (chk : List Chk) : Option SOper :=
  match gdst ops o.guard with
  | none => none
  | some g => if (o.dst.map fun d => Nat.ble (d + 1) nt).getD true then some ⟨o.dst, s.1, s.2, g, chk⟩ else none

def cChk (ops : Array Oper) (o : Oper) (s : SOp × List Opd) : Option Chk :=
  match s.1.reads, o.dst, gdst ops o.guard with
  | some f, some t, some g => some ⟨t, g, f, s.2⟩
  | _, _, _ => none

/-- what stands ahead of an operation, where it must stand ahead of it -/
def preOk (k : SK) (m : Nat) (pre : List (Nat × SK)) : Bool := pre.all fun q => match k, q.2 with
  | .ef, .ef | .ef, .al | .rd, .ef => m.testBit q.1
  | _, _ => true
/-- the reads that stand ahead of a write, and need not -/
def stale (m : Nat) (pre : List (Nat × SK)) : List Nat := pre.filterMap fun q => match q.2 with
  | .rd => if m.testBit q.1 then none else some q.1
  | _ => none

/-- an order of a region's operations -/
structure Plan where
  ord : List Nat
  an : List Nat
def Plan.up (p : Plan) (i : Nat) : Nat := p.an.getD i 0

/-- an operation's place in an order: all that it must meet -/
def stepOk (plan : Plan) (dsts : List (Nat × Nat)) (pre : List (Nat × SK)) (i : Nat) (o : Oper) (s : SOp × List Opd) : Bool :=
  let m := plan.up i
  let d := dirs o
  !(pre.any fun q => Nat.beq q.1 i) &&
  d.all (fun j => pre.any fun q => Nat.beq q.1 j) &&
  Nat.beq m (above plan.up d) &&
  preOk s.1.kind m pre &&
  ((Opd.tmps s.2).all fun t => dsts.all fun q => !Nat.beq q.1 t || (m.testBit q.2 || (s.1.notRd && (plan.up q.2).testBit i))) &&
  (match o.guard with
    | none => true
    | some (g, _) => m.testBit g)

def walk (nt : Nat) (ops : Array Oper) (sops : List (SOp × List Opd)) (plan : Plan) (dsts : List (Nat × Nat)) : List Nat → List (Nat × SK) → Option (List SOper)
  | [], _ => some []
  | i :: rest, pre =>
    match ops[i]?, sops[i]? with
    | some o, some s =>
      if stepOk plan dsts pre i o s then
        match (match s.1.kind with
          | .ef => (stale (plan.up i) pre).mapM fun r => match ops[r]?, sops[r]? with
            | some o, some s => cChk ops o s
            | _, _ => none
          | _ => some []) with
        | none => none
        | some chk => match cOper nt ops o s chk with
          | none => none
          | some so => match walk nt ops sops plan dsts rest ((i, s.1.kind) :: pre) with
            | none => none
            | some l => some (so :: l)
      else none
    | _, _ => none

/-- where each operation puts its value -/
def dstsOf (ops : List Oper) : List (Nat × Nat) := ops.zipIdx.filterMap fun p => p.1.dst.map fun d => (d, p.2)
def apart : List (Nat × Nat) → Bool
  | [] => true
  | a :: l => l.all (fun b => !Nat.beq a.1 b.1) && apart l

noncomputable def cOpers (nt : Nat) (draw : Option Plan) (ops : Array Oper) : Option (List SOper) :=
  match ops.toList.mapM (cOp P) with
  | none => none
  | some sops => match draw with
    | none => (ops.toList.zip sops).mapM fun p => cOper nt ops p.1 p.2 []
    | some plan =>
      if apart (dstsOf ops.toList) && (List.range ops.size).all (fun i => plan.ord.any fun j => Nat.beq i j) then walk nt ops sops plan (dstsOf ops.toList) plan.ord [] else none
end

/-! ## the big steps -/
inductive Ex where
  | nrm | exit (id : Nat) | ret
inductive Job where
  | code (nt : Nat) (c : Code) (E : Env) (H : Heap)
  | ops (l : List SOper) (E : Env) (H : Heap)
  | fn (f : FuncId) (args : List AVal) (H : Heap)
inductive Fin where
  | st (e : Ex) (E : Env) (H : Heap)
  | val (v : AVal) (H : Heap)

/-- does an operation run? none: nothing can be said -/
def gd (g : Option (Nat × Bool)) (E : Env) : Option Bool := match g with
  | none => some true
  | some (t, b) => match E t with
    | .bool b' => some (b' == b)
    | .tup [] => some false
    | _ => none

noncomputable def SOp.exec (o : SOp) (l : List AVal) (H : Heap) : Res :=
  match o with
  | .pur f => onOpt (f l) fun v => some (v, H)
  | .rd f => onOpt (f l H) fun v => some (v, H)
  | .al f => onOpt (f l) fun p => some (p.2 H.next, H.new p.1)
  | .ef f => onOpt (f l H) fun r => ifB (Nat.ble H.next r.2.next) (some r)
  | _ => none

def chks (E : Env) (H : Heap) (l : List Chk) : Prop := ∀ c ∈ l, gd c.guard E = some false ∨ (gd c.guard E = some true ∧ c.f (c.args.map (Opd.ev E)) H = some (E c.t))

/-- what is called, by the operands' values -/
noncomputable def SOp.calls (o : SOp) (l : List AVal) : Option (FuncId × List AVal) :=
  match o with
  | .call f => some (f, l)
  | .callv => match l with
    | .fn (.func f) a c :: l => some (f, a ++ l ++ c)
    | _ => none
  | _ => none

def envOf (args : List AVal) : Env := fun i => (args[i]?).getD .bad

section
variable (P : Program)
noncomputable def resOf (E : Env) (H : Heap) : ResultVar → Option AVal
  | .tmp t => some (E t)
  | .cell a t => match agg? P t, size? P t, E a with
    | some true, some n, .ptr id off => onOpt (loadN H id off n) fun l => some (.agg l)
    | some false, _, .ptr id off => load1 H id off
    | _, _, _ => none
noncomputable def resOfs (E : Env) (H : Heap) (l : List ResultVar) : Option AVal :=
  match l.mapM (resOf P E H) with
  | none => none
  | some [v] => some v
  | some l => some (.tup l)

variable (S : FuncId → List AVal → Heap → AVal → Heap → Prop)
inductive BS : Job → Fin → Prop where
  | skip {nt E H} : BS (.code nt .skip E H) (.st .nrm E H)
  | label {nt l E H} : BS (.code nt (.label l) E H) (.st .nrm E H)
  | exit {nt id E H} : BS (.code nt (.exit id) E H) (.st (.exit id) E H)
  | ret {nt E H} : BS (.code nt .ret E H) (.st .ret E H)
  | reg {nt id ops draw plan l E H e E1 H1} (loc : Nat → Bool) : cOpers P nt plan ops = some l → plan.isSome = draw → BS (.ops l E H) (.st e E1 H1) → BS (.code nt (.region id ops draw) E H) (.st e (fun t => if loc t then .bad else E1 t) H1)
  | seq {nt a b E H E1 H1 r} : BS (.code nt a E H) (.st .nrm E1 H1) → BS (.code nt b E1 H1) r → BS (.code nt (.seq a b) E H) r
  | seqx {nt a b E H e E1 H1} : BS (.code nt a E H) (.st e E1 H1) → e ≠ .nrm → BS (.code nt (.seq a b) E H) (.st e E1 H1)
  | cond {nt c x a b E H t r} : cOpd P c = some x → x.ev E = .bool t → BS (.code nt (if t then a else b) E H) r → BS (.code nt (.cond c a b) E H) r
  | block {nt id b E H e E1 H1} : BS (.code nt b E H) (.st e E1 H1) → e ≠ .exit id → BS (.code nt (.block id b) E H) (.st e E1 H1)
  | blockx {nt id b E H E1 H1} : BS (.code nt b E H) (.st (.exit id) E1 H1) → BS (.code nt (.block id b) E H) (.st .nrm E1 H1)
  | loop {nt b E H E1 H1 r} : BS (.code nt b E H) (.st .nrm E1 H1) → BS (.code nt (.loop b) E1 H1) r → BS (.code nt (.loop b) E H) r
  | loopx {nt b E H e E1 H1} : BS (.code nt b E H) (.st e E1 H1) → e ≠ .nrm → BS (.code nt (.loop b) E H) (.st e E1 H1)
  | scope {nt b E H e E1 H1} : BS (.code nt b E H) (.st e E1 H1) → BS (.code nt (.scope b) E H) (.st e E1 H1)
  | nil {E H} : BS (.ops [] E H) (.st .nrm E H)
  | skp {o l E H r} : gd o.guard E = some false → BS (.ops l (put E o.dst (.tup [])) H) r → BS (.ops (o :: l) E H) r
  | run {o l E H v H1 r} : gd o.guard E = some true → o.op.exec (o.args.map (Opd.ev E)) H = some (v, H1) → chks (put E o.dst v) H1 o.chk →
      BS (.ops l (put E o.dst v) H1) r → BS (.ops (o :: l) E H) r
  | call {o l E H f args v H1 r} : gd o.guard E = some true → o.op.calls (o.args.map (Opd.ev E)) = some (f, args) → BS (.fn f args H) (.val v H1) →
      chks (put E o.dst v) H1 o.chk → BS (.ops l (put E o.dst v) H1) r → BS (.ops (o :: l) E H) r
  | fn {f args H fn c e E1 H1 v} : P.funcs[f]? = some fn → fn.body = some c → args.length ≤ fn.ntmps → BS (.code fn.ntmps c (envOf args) H) (.st e E1 H1) →
      (e = .nrm ∨ e = .ret) → resOfs P E1 H1 fn.results.toList = some v → BS (.fn f args H) (.val v H1)
  | sum {f args H v H1} : S f args H v H1 → BS (.fn f args H) (.val v H1)
  | drop {f args H H' v H1} : H'.next = H.next → (∀ id o, H'.obj id = some o → H.obj id = some o) → BS (.fn f args H') (.val v H1) → BS (.fn f args H) (.val v H1)
end
end Go.Am
