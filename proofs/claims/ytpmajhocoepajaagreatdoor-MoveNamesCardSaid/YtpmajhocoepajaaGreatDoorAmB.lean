/-
  Am, part B: the operations on values and memory.
-/
import Derived.Test.YtpmajhocoepajaaGreatDoorAmA
set_option linter.unusedVariables false
namespace Go.Am

/-! ## numbers -/
noncomputable def kix (k : IntKind) : Nat := IntKind.casesOn (motive := fun _ => Nat) k 0 1 2 3 4 5 6 7
noncomputable def keq (a b : IntKind) : Bool := Nat.beq (kix a) (kix b)
theorem keq_eq {a b : IntKind} : keq a b = true ↔ a = b := by cases a <;> cases b <;> decide
noncomputable def kmax (k : IntKind) : Nat :=
  IntKind.casesOn (motive := fun _ => Nat) k 127 32767 2147483647 9223372036854775807 255 65535 4294967295 18446744073709551615

noncomputable def wrN (k : IntKind) (n : Nat) : Int := iteB (Nat.ble n (kmax k)) (Int.ofNat n) (k.wrap (Int.ofNat n))
noncomputable def wrI (k : IntKind) (z : Int) : Int :=
  Int.casesOn (motive := fun _ => Int) z (wrN k) (fun n => iteB (and k.signed (Nat.ble n (kmax k))) (Int.negSucc n) (k.wrap (Int.negSucc n)))

noncomputable def natnat {γ : Type} (a b : Int) (f : Nat → Nat → γ) (d : γ) : γ :=
  Int.casesOn (motive := fun _ => γ) a (fun a => Int.casesOn (motive := fun _ => γ) b (f a) (fun _ => d)) (fun _ => d)

noncomputable def iadd (k : IntKind) (a b : Int) : Int := natnat a b (fun a b => wrN k (Nat.add a b)) (wrI k (a + b))
noncomputable def isub (k : IntKind) (a b : Int) : Int := natnat a b (fun a b => iteB (Nat.ble b a) (wrN k (Nat.sub a b)) (wrI k (Int.ofNat a - Int.ofNat b))) (wrI k (a - b))
noncomputable def imul (k : IntKind) (a b : Int) : Int := natnat a b (fun a b => wrN k (Nat.mul a b)) (wrI k (a * b))
noncomputable def iquo (k : IntKind) (a b : Int) : Int := natnat a b (fun a b => wrN k (Nat.div a b)) (wrI k (a.tdiv b))
noncomputable def irem (a b : Int) : Int := natnat a b (fun a b => Int.ofNat (Nat.mod a b)) (a.tmod b)
noncomputable def small (k : IntKind) (a b : Nat) : Bool := and (Nat.ble a (kmax k)) (Nat.ble b (kmax k))
noncomputable def iand (k : IntKind) (a b : Int) : Int :=
  natnat a b (fun x y => iteB (small k x y) (wrN k (Nat.land x y)) (k.wrap (BitVec.ofInt k.bits a &&& BitVec.ofInt k.bits b).toNat)) (k.wrap (BitVec.ofInt k.bits a &&& BitVec.ofInt k.bits b).toNat)
noncomputable def ior (k : IntKind) (a b : Int) : Int :=
  natnat a b (fun x y => iteB (small k x y) (wrN k (Nat.lor x y)) (k.wrap (BitVec.ofInt k.bits a ||| BitVec.ofInt k.bits b).toNat)) (k.wrap (BitVec.ofInt k.bits a ||| BitVec.ofInt k.bits b).toNat)
noncomputable def ixor (k : IntKind) (a b : Int) : Int :=
  natnat a b (fun x y => iteB (small k x y) (wrN k (Nat.xor x y)) (k.wrap (BitVec.ofInt k.bits a ^^^ BitVec.ofInt k.bits b).toNat)) (k.wrap (BitVec.ofInt k.bits a ^^^ BitVec.ofInt k.bits b).toNat)
noncomputable def inot (k : IntKind) (a b : Int) : Int := k.wrap (BitVec.ofInt k.bits a &&& ~~~BitVec.ofInt k.bits b).toNat
noncomputable def ishl (k : IntKind) (a : Int) (n : Nat) : Int := natnat a 0 (fun a _ => wrN k (Nat.mul a (Nat.pow 2 (min n k.bits)))) (k.wrap (a * 2 ^ (min n k.bits)))
noncomputable def ishr (k : IntKind) (a : Int) (n : Nat) : Int := natnat a 0 (fun a _ => Int.ofNat (Nat.div a (Nat.pow 2 (min n k.bits)))) (a.fdiv (2 ^ (min n k.bits)))
noncomputable def ieq (a b : Int) : Bool := natnat a b (fun a b => Nat.beq a b) (a == b)
noncomputable def ilt (a b : Int) : Bool := natnat a b (fun a b => Nat.ble (Nat.succ a) b) (decide (a < b))
noncomputable def ile (a b : Int) : Bool := natnat a b (fun a b => Nat.ble a b) (decide (a ≤ b))

/-! ## texts: how many bytes, and these as one number -/
noncomputable def strIx (n v i : Nat) : Nat := Nat.mod (Nat.div v (Nat.pow 256 (Nat.sub n (Nat.succ i)))) 256
noncomputable def strSub (n v l h : Nat) : Nat := Nat.mod (Nat.div v (Nat.pow 256 (Nat.sub n h))) (Nat.pow 256 (Nat.sub h l))
noncomputable def strEq (n v m u : Nat) : Bool := and (Nat.beq n m) (Nat.beq v u)
noncomputable def strLess (n v m u : Nat) : Bool :=
  iteB (Nat.ble n m) (or (Nat.ble (Nat.succ (Nat.mul v (Nat.pow 256 (Nat.sub m n)))) u) (and (Nat.beq (Nat.mul v (Nat.pow 256 (Nat.sub m n))) u) (Nat.ble (Nat.succ n) m)))
    (Nat.ble (Nat.succ v) (Nat.mul u (Nat.pow 256 (Nat.sub n m))))

/-! ## equality -/
/-- kinds of types whose values may be held against each other -/
inductive TK where
  | b | i | s | p | f | v | m | n
  | agg (l : List TK)

noncomputable def eqPlain (k : TK) (x y : AVal) : Option Bool :=
  match k, x, y with
  | .b, .bool a, .bool b => some (a == b)
  | .i, .int j a, .int k b => ifB (keq j k) (some (ieq a b))
  | .s, .str n v, .str m u => some (strEq n v m u)
  | _, _, _ => none

noncomputable def eqCells (ks : List TK) : List AVal → List AVal → Option Bool :=
  List.rec (motive := fun _ => List AVal → List AVal → Option Bool)
    (fun l m => List.rec (motive := fun _ => Option Bool) (List.rec (motive := fun _ => Option Bool) (some true) (fun _ _ _ => none) m) (fun _ _ _ => none) l)
    (fun k _ ih l m => List.rec (motive := fun _ => Option Bool) none (fun a l _ => List.rec (motive := fun _ => Option Bool) none (fun b m _ => onOpt (eqPlain k a b) fun t => onOpt (ih l m) fun r => some (and t r)) m) l) ks

/-- nn: may two nil interface values be held against each other? -/
noncomputable def eqAny (nn : Bool) (k : TK) (x y : AVal) : Option Bool :=
  match k, x, y with
  | .b, .bool a, .bool b => some (a == b)
  | .p, .nilp, .nilp => some true
  | .p, .nilp, .ptr .. => some false
  | .p, .ptr .., .nilp => some false
  | .f, .nili, .nili => ifB nn (some true)
  | .f, .nili, .ifc .. => some false
  | .f, .ifc .., .nili => some false
  | .v, .nils, .nils => some true
  | .v, .nils, .slc .. => some false
  | .v, .slc .., .nils => some false
  | .m, .nilm, .nilm => some true
  | .m, .nilm, .map _ => some false
  | .m, .map _, .nilm => some false
  | .n, .nilf, .nilf => some true
  | .n, .nilf, .fn .. => some false
  | .n, .fn .., .nilf => some false
  | .agg ks, .agg l, .agg m => eqCells ks l m
  | _, _, _ => none

noncomputable def bin1 (fi : IntKind → Int → Int → Option AVal) (fs : Nat → Nat → Nat → Nat → Option AVal) (d : Option AVal) (x y : AVal) : Option AVal :=
  @AVal.casesOn (fun _ => Option AVal) x d d d d (fun _ => d) (fun _ => d) (fun _ _ => d) (fun _ _ _ => d) d d (fun _ => d) (fun n v => onStr y fun m u => fs n v m u) (fun _ => d) (fun _ _ _ _ _ => d) (fun _ _ => d) (fun k a => onInt y fun k' b => ifB (keq k k') (fi k a b))

noncomputable def bAdd : AVal → AVal → Option AVal := bin1 (fun k a b => some (.int k (iadd k a b))) (fun n v m u => ifB (Nat.ble (Nat.add n m) 1000000000) (some (.str (Nat.add n m) (Nat.add (Nat.mul v (Nat.pow 256 m)) u)))) none
noncomputable def bSub : AVal → AVal → Option AVal := bin1 (fun k a b => some (.int k (isub k a b))) (fun _ _ _ _ => none) none
noncomputable def bMul : AVal → AVal → Option AVal := bin1 (fun k a b => some (.int k (imul k a b))) (fun _ _ _ _ => none) none
noncomputable def bQuo : AVal → AVal → Option AVal := bin1 (fun k a b => iteB (ieq b 0) none (some (.int k (iquo k a b)))) (fun _ _ _ _ => none) none
noncomputable def bRem : AVal → AVal → Option AVal := bin1 (fun k a b => iteB (ieq b 0) none (some (.int k (irem a b)))) (fun _ _ _ _ => none) none
noncomputable def bAnd : AVal → AVal → Option AVal := bin1 (fun k a b => some (.int k (iand k a b))) (fun _ _ _ _ => none) none
noncomputable def bOr : AVal → AVal → Option AVal := bin1 (fun k a b => some (.int k (ior k a b))) (fun _ _ _ _ => none) none
noncomputable def bXor : AVal → AVal → Option AVal := bin1 (fun k a b => some (.int k (ixor k a b))) (fun _ _ _ _ => none) none
noncomputable def bNot : AVal → AVal → Option AVal := bin1 (fun k a b => some (.int k (inot k a b))) (fun _ _ _ _ => none) none
noncomputable def bLss : AVal → AVal → Option AVal := bin1 (fun _ a b => some (.bool (ilt a b))) (fun n v m u => some (.bool (strLess n v m u))) none
noncomputable def bLeq : AVal → AVal → Option AVal := bin1 (fun _ a b => some (.bool (ile a b))) (fun n v m u => some (.bool (or (strLess n v m u) (strEq n v m u)))) none
noncomputable def bGtr : AVal → AVal → Option AVal := bin1 (fun _ a b => some (.bool (ilt b a))) (fun n v m u => some (.bool (not (or (strLess n v m u) (strEq n v m u))))) none
noncomputable def bGeq : AVal → AVal → Option AVal := bin1 (fun _ a b => some (.bool (ile b a))) (fun n v m u => some (.bool (not (strLess n v m u)))) none
noncomputable def bEql (nn : Bool) (tk : TK) (x y : AVal) : Option AVal :=
  bin1 (fun _ a b => some (.bool (ieq a b))) (fun n v m u => some (.bool (strEq n v m u))) (onOpt (eqAny nn tk x y) fun t => some (.bool t)) x y
noncomputable def bNeq (nn : Bool) (tk : TK) (x y : AVal) : Option AVal :=
  bin1 (fun _ a b => some (.bool (not (ieq a b)))) (fun n v m u => some (.bool (not (strEq n v m u)))) (onOpt (eqAny nn tk x y) fun t => some (.bool (not t))) x y
noncomputable def bShl (x y : AVal) : Option AVal := onInt x fun k a => onNat y fun n => some (.int k (ishl k a n))
noncomputable def bShr (x y : AVal) : Option AVal := onInt x fun k a => onNat y fun n => some (.int k (ishr k a n))

noncomputable def uNot (x : AVal) : Option AVal := onBool x fun b => some (.bool (not b))
noncomputable def uNeg (x : AVal) : Option AVal := onInt x fun k a => some (.int k (wrI k (0 - a)))
noncomputable def uXor (x : AVal) : Option AVal := onInt x fun k a => some (.int k (ixor k (iteB k.signed (-1) k.max) a))

/-! ## pure operations -/
noncomputable def oMv (x : AVal) : Option AVal := some x
noncomputable def oPick (c a b : AVal) : Option AVal := onBool c fun t => some (iteB t a b)
noncomputable def oNilchk (v : AVal) : Option AVal :=
  @AVal.casesOn (fun _ => Option AVal) v none none none (some v) (fun _ => some v) (fun _ => some v) (fun _ _ => some v) (fun f _ _ => Fn.casesOn (motive := fun _ => Option AVal) f (fun _ => some v) (fun _ => none) (fun _ _ => some v) (fun _ _ _ _ => some v) (fun _ => some v)) (some v) none (fun _ => some v) (fun _ _ => some v) (fun _ => some v) (fun _ _ _ _ _ => some v) (fun _ _ => some v) (fun _ _ => some v)
noncomputable def oInt (k : IntKind) (x : AVal) : Option AVal := onInt x fun _ n => some (.int k (wrI k n))
def encR (r : Int) : Nat × Nat :=
  let c := if (0 ≤ r && r < 0xD800) || (0xE000 ≤ r && r ≤ 0x10FFFF) then r.toNat else 0xFFFD
  if c < 0x80 then (1, c)
  else if c < 0x800 then (2, (0xC0 + c / 64) * 256 + (0x80 + c % 64))
  else if c < 0x10000 then (3, ((0xE0 + c / 4096) * 256 + (0x80 + c / 64 % 64)) * 256 + (0x80 + c % 64))
  else (4, (((0xF0 + c / 262144) * 256 + (0x80 + c / 4096 % 64)) * 256 + (0x80 + c / 64 % 64)) * 256 + (0x80 + c % 64))
noncomputable def oI2s (x : AVal) : Option AVal := onInt x fun _ n => some (.str (encR n).1 (encR n).2)
noncomputable def oIfc (t : TypeId) (x : AVal) : Option AVal := some (.ifc t x)
noncomputable def oFn (f : Fn) (n : Nat) (l : List AVal) : Option AVal := onOpt (takeL n l) fun a => some (.fn f a (dropL n l))
noncomputable def oBuild (zs : List AVal) (pos : List (Nat × Nat)) : List AVal → Option (List AVal) :=
  List.rec (motive := fun _ => List AVal → List AVal → Option (List AVal)) (fun zs l => List.rec (motive := fun _ => Option (List AVal)) (some zs) (fun _ _ _ => none) l)
    (fun p _ ih zs l => List.rec (motive := fun _ => Option (List AVal)) none (fun v l _ => withCells v fun cs => ifB (Nat.beq (lenL cs) p.2) (onOpt (lay p.1 cs zs) fun zs => ih zs l)) l) pos zs
noncomputable def oAgg (zs : List AVal) (pos : List (Nat × Nat)) (l : List AVal) : Option AVal := onOpt (oBuild zs pos l) fun l => some (.agg l)
noncomputable def oExt (i : Nat) (x : AVal) : Option AVal := onTup x fun l => nth l i
noncomputable def oFad (o : Nat) (x : AVal) : Option AVal := onPtr x fun id off => some (.ptr id (Nat.add off o))
noncomputable def oFld1 (o : Nat) (x : AVal) : Option AVal := onAgg x fun l => nth l o
noncomputable def oFldN (o n : Nat) (x : AVal) : Option AVal := onAgg x fun l => onOpt (takeL n (dropL o l)) fun r => some (.agg r)
noncomputable def oIaS (size : Nat) (x i : AVal) : Option AVal := onSlc x none fun id off len _ _ => onNat i fun i => ifB (Nat.ble (Nat.succ i) len) (some (.ptr id (Nat.add off (Nat.mul i size))))
noncomputable def oIaA (len size : Nat) (x i : AVal) : Option AVal := onPtr x fun id off => onNat i fun i => ifB (Nat.ble (Nat.succ i) len) (some (.ptr id (Nat.add off (Nat.mul i size))))
noncomputable def oIx1 (len size : Nat) (x i : AVal) : Option AVal := onAgg x fun l => onNat i fun i => ifB (Nat.ble (Nat.succ i) len) (nth l (Nat.mul i size))
noncomputable def oIxN (len size : Nat) (x i : AVal) : Option AVal := onAgg x fun l => onNat i fun i => ifB (Nat.ble (Nat.succ i) len) (onOpt (takeL size (dropL (Nat.mul i size) l)) fun r => some (.agg r))
noncomputable def oIxS (x i : AVal) : Option AVal := onStr x fun n v => onNat i fun i => ifB (Nat.ble (Nat.succ i) n) (some (.int .u8 (Int.ofNat (strIx n v i))))
noncomputable def oLenS (x : AVal) : Option AVal := onStr x fun n _ => some (.int .i64 (Int.ofNat n))
noncomputable def oLenV (x : AVal) : Option AVal := onSlc x (some (.int .i64 (Int.ofNat 0))) fun _ _ n _ _ => some (.int .i64 (Int.ofNat n))
noncomputable def oKst (v : AVal) (_ : List AVal) : Option AVal := some v
noncomputable def oMax (x y : AVal) : Option AVal := onInt x fun k a => onInt y fun _ b => some (.int k (iteB (ilt a b) b a))
noncomputable def oMin (x y : AVal) : Option AVal := onInt x fun k a => onInt y fun _ b => some (.int k (iteB (ilt b a) b a))
noncomputable def oSdata (x : AVal) : Option AVal := onSlc x (some .nilp) fun id off _ cap _ => ifB (Nat.ble 1 cap) (some (.ptr id off))

/-- a bound of a slice: d where there is none -/
noncomputable def bnd (has : Bool) (l : List AVal) (d lim : Nat) (k : Nat → List AVal → Option AVal) : Option AVal :=
  iteB has (List.rec (motive := fun _ => Option AVal) none (fun v l _ => onNat v fun n => ifB (Nat.ble n lim) (k n l)) l) (k d l)
/-- x[lo:hi] of a text; the bounds that there are follow x: hi ahead of lo -/
noncomputable def oSlS (lo hi : Bool) (l : List AVal) : Option AVal :=
  List.rec (motive := fun _ => Option AVal) none (fun x l _ => onStr x fun n v => bnd hi l n n fun h l => bnd lo l 0 h fun a _ => some (.str (Nat.sub h a) (strSub n v a h))) l
noncomputable def oSlV (size : Nat) (lo hi mx : Bool) (l : List AVal) : Option AVal :=
  List.rec (motive := fun _ => Option AVal) none (fun x l _ =>
    onSlc x (bnd mx l 0 0 fun m l => bnd hi l 0 m fun h l => bnd lo l 0 h fun _ _ => some .nils)
      fun id off len cap e => bnd mx l cap cap fun m l => bnd hi l len m fun h l => bnd lo l 0 h fun a _ =>
        iteB (or mx (Nat.beq e 0)) (some (.slc id (iteB (Nat.beq m a) off (Nat.add off (Nat.mul a size))) (Nat.sub h a) (Nat.sub m a) 0))
          (ifB (Nat.beq e (Nat.succ size)) (some (.slc id (Nat.add off (Nat.mul a size)) (Nat.sub h a) (Nat.sub m a) e)))) l
noncomputable def oSlA (n size : Nat) (lo hi mx : Bool) (l : List AVal) : Option AVal :=
  List.rec (motive := fun _ => Option AVal) none (fun x l _ => onPtr x fun id off => bnd mx l n n fun m l => bnd hi l n m fun h l => bnd lo l 0 h fun a _ =>
        some (.slc id (iteB (Nat.beq m a) off (Nat.add off (Nat.mul a size))) (Nat.sub h a) (Nat.sub m a) 0)) l

/-! ## reading -/
noncomputable def load1 (H : Heap) (id off : Nat) : Option AVal := onOpt (H.obj id) fun o => onCells o fun l _ _ _ _ => nth l off
noncomputable def loadN (H : Heap) (id off n : Nat) : Option (List AVal) := onOpt (H.obj id) fun o => onCells o fun l _ _ _ _ => takeL n (dropL off l)
noncomputable def oLd1 (x : AVal) (H : Heap) : Option AVal := onPtr x fun id off => load1 H id off
noncomputable def oLdN (n : Nat) (x : AVal) (H : Heap) : Option AVal := onPtr x fun id off => onOpt (loadN H id off n) fun l => some (.agg l)

/-- the entry of a key: its place, its value, its stamp -/
noncomputable def find (tk : TK) (k : AVal) (es : List (AVal × AVal × Nat)) : Option (Option (Nat × AVal × Nat)) :=
  List.rec (motive := fun _ => Nat → Option (Option (Nat × AVal × Nat))) (fun _ => some none)
    (fun e _ ih i => onOpt (eqPlain tk k e.1) fun t => iteB t (some (some (i, e.2.1, e.2.2))) (ih (Nat.succ i))) es 0
noncomputable def okd (ok : Bool) (v : AVal) (is : Bool) : AVal := iteB ok (.tup [v, .bool is]) v
noncomputable def oLk (tk : TK) (zero : AVal) (ok : Bool) (m k : AVal) (H : Heap) : Option AVal :=
  onMap m (some (okd ok zero false)) fun id => onOpt (H.obj id) fun o => onEnts o fun es _ => onOpt (find tk k es) fun r =>
    some (Option.rec (motive := fun _ => AVal) (okd ok zero false) (fun p => okd ok p.2.1 true) r)
noncomputable def oLenM (m : AVal) (H : Heap) : Option AVal :=
  onMap m (some (.int .i64 (Int.ofNat 0))) fun id => onOpt (H.obj id) fun o => onEnts o fun es _ => some (.int .i64 (Int.ofNat (lenL es)))

/-- the bytes of cells as a text -/
noncomputable def bytesOf (l : List AVal) : Option (Nat × Nat) :=
  List.rec (motive := fun _ => Nat → Nat → Option (Nat × Nat)) (fun n v => some (n, v))
    (fun c _ ih n v => onInt c fun k b => ifB (keq k .u8) (Int.casesOn (motive := fun _ => Option (Nat × Nat)) b (fun b => ih (Nat.succ n) (Nat.add (Nat.mul v 256) (Nat.mod b 256))) (fun _ => none))) l 0 0
noncomputable def oB2s (x : AVal) (H : Heap) : Option AVal :=
  onSlc x (some (.str 0 0)) fun id off len _ _ => onOpt (loadN H id off len) fun l => onOpt (bytesOf l) fun p => some (.str p.1 p.2)

/-! ## new memory -/
noncomputable def repl (n : Nat) (zs : List AVal) : List AVal := Nat.rec (motive := fun _ => List AVal) [] (fun _ ih => app zs ih) n
noncomputable def cellsOfStr (n v : Nat) : List AVal :=
  Nat.rec (motive := fun _ => Nat → List AVal → List AVal) (fun _ acc => acc) (fun _ ih v acc => ih (Nat.div v 256) (.int .u8 (Int.ofNat (Nat.mod v 256)) :: acc)) n v []
abbrev Made := Option (AObj × (Nat → AVal))
noncomputable def aNew (elem : TypeId) (zs : List AVal) (_ : List AVal) : Made := some (.cells zs elem false true (some 0), fun id => .ptr id 0)
noncomputable def aBox (elem : TypeId) (sz : Nat) (x : AVal) : Made := withCells x fun cs => ifB (Nat.beq (lenL cs) sz) (some (.cells cs elem false true (some 0), fun id => .ptr id 0))
noncomputable def aSlice (elem : TypeId) (len : Nat) (zs : List AVal) (pos : List (Nat × Nat)) (l : List AVal) : Made :=
  onOpt (oBuild zs pos l) fun cs => some (.cells cs elem false true (some 0), fun id => .slc id 0 len len 0)
noncomputable def aMap (_ : List AVal) : Made := some (.map [] 0, fun id => .map id)
noncomputable def aMake (elem : TypeId) (bytes : Nat) (zs : List AVal) (l c : AVal) : Made :=
  onNat l fun l => onNat c fun c => ifB (and (Nat.ble l c) (and (Nat.ble (Nat.mul bytes c) 140737488355328) (Nat.ble c 140737488355328)))
    (some (.cells (repl c zs) elem false true (some 0), fun id => .slc id 0 l c 0))
noncomputable def aBytes (elem : TypeId) (x : AVal) : Made := onStr x fun n v => some (.cells (cellsOfStr n v) elem true true none, fun id => .slc id 0 n n 2)
noncomputable def aIter (x : AVal) : Made := onStr x fun n v => some (.siter n v 0, fun id => .ptr id 0)

/-! ## writing -/
abbrev Res := Option (AVal × Heap)
noncomputable def free (fro : Option Nat) (off : Nat) : Bool := Option.rec (motive := fun _ => Bool) true (fun f => Nat.ble f off) fro
noncomputable def storeN (H : Heap) (id off : Nat) (vs : List AVal) : Option Heap :=
  onOpt (H.obj id) fun o => onCells o fun l e p w q => ifB (and w (free q off)) (onOpt (lay off vs l) fun l => some (H.set id (some (.cells l e p w q))))
noncomputable def oSt (n : Nat) (a v : AVal) (H : Heap) : Res :=
  onPtr a fun id off => withCells v fun cs => ifB (Nat.beq (lenL cs) n) (onOpt (storeN H id off cs) fun H => some (.tup [], H))

noncomputable def setAt (es : List (AVal × AVal × Nat)) (i : Nat) (e : AVal × AVal × Nat) : List (AVal × AVal × Nat) :=
  Nat.rec (motive := fun _ => List (AVal × AVal × Nat) → List (AVal × AVal × Nat)) (fun l => List.rec (motive := fun _ => List (AVal × AVal × Nat)) [] (fun _ l _ => e :: l) l)
    (fun _ ih l => List.rec (motive := fun _ => List (AVal × AVal × Nat)) [] (fun a l _ => a :: ih l) l) i es
noncomputable def oMu (tk : TK) (m k v : AVal) (H : Heap) : Res :=
  onMap m none fun id => onOpt (H.obj id) fun o => onEnts o fun es cl => onOpt (find tk k es) fun r =>
    Option.rec (motive := fun _ => Res) (some (.tup [], H.set id (some (.map (app es [(k, v, cl)]) (Nat.succ cl)))))
      (fun p => some (.tup [], H.set id (some (.map (setAt es p.1 (k, v, p.2.2)) cl)))) r
noncomputable def oMe (tk : TK) (zero : AVal) (m k : AVal) (H : Heap) : Res :=
  onMap m none fun id => onOpt (H.obj id) fun o => onEnts o fun es cl => onOpt (find tk k es) fun r =>
    Option.rec (motive := fun _ => Res) (some (.tup [zero, .int .i64 (Int.ofNat cl)], H.set id (some (.map (app es [(k, zero, cl)]) (Nat.succ cl)))))
      (fun p => some (.tup [p.2.1, .int .i64 (Int.ofNat p.2.2)], H.set id (some (.map (setAt es p.1 (k, p.2.1, p.2.2)) cl)))) r
/-- the place of a stamp -/
noncomputable def findBorn (b : Nat) (es : List (AVal × AVal × Nat)) : Option (Nat × AVal) :=
  List.rec (motive := fun _ => Nat → Option (Nat × AVal)) (fun _ => none) (fun e _ ih i => iteB (Nat.beq e.2.2 b) (some (i, e.1)) (ih (Nat.succ i))) es 0
noncomputable def oEs (m s v : AVal) (H : Heap) : Res :=
  onMap m none fun id => onNat s fun b => onOpt (H.obj id) fun o => onEnts o fun es cl => onOpt (findBorn b es) fun p =>
    some (.tup [], H.set id (some (.map (setAt es p.1 (p.2, v, b)) cl)))

/-- what is appended or copied: how many elements, their cells -/
noncomputable def src (H : Heap) (size : Nat) (y : AVal) (k : Nat → List AVal → Res) : Res :=
  @AVal.casesOn (fun _ => Res) y none none none none (fun _ => none) (fun _ => none) (fun _ _ => none) (fun _ _ _ => none) (k 0 []) none (fun _ => none) (fun n v => ifB (Nat.beq size 1) (k n (cellsOfStr n v))) (fun _ => none) (fun id off len _ _ => onOpt (loadN H id off (Nat.mul len size)) fun l => k len l) (fun _ _ => none) (fun _ _ => none)
noncomputable def roomy (need bytes : Nat) : Bool := Nat.ble (Nat.mul (Nat.add (Nat.mul 4 need) 4000) bytes) 140737488355328
noncomputable def mkOpen (H : Heap) (elem : TypeId) (size : Nat) (fro : Option Nat) (need : Nat) (cs : List AVal) : Res :=
  some (.slc H.next 0 need need (Nat.succ size), H.new (.cells cs elem true true fro))
noncomputable def froSub (fro : Option Nat) (off : Nat) : Option Nat := Option.rec (motive := fun _ => Option Nat) none (fun f => some (Nat.sub f off)) fro
noncomputable def oApp (elem : TypeId) (size bytes : Nat) (x y : AVal) (H : Heap) : Res :=
  src H size y fun n new => onSlc x (iteB (Nat.beq n 0) (some (.nils, H)) (ifB (roomy n bytes) (mkOpen H elem size (some 0) n new)))
    fun id off len cap e => iteB (Nat.ble (Nat.add len n) cap)
      (onOpt (storeN H id (Nat.add off (Nat.mul len size)) new) fun H => some (.slc id off (Nat.add len n) cap e, H))
      (ifB (roomy (Nat.add len n) bytes) (onOpt (loadN H id off (Nat.mul len size)) fun old => iteB (Nat.beq e 0)
        (mkOpen H elem size (some 0) (Nat.add len n) (app old new))
        (ifB (Nat.beq e (Nat.succ size)) (onOpt (H.obj id) fun o => onCells o fun l el p w q => ifB (and w (and (Nat.beq el elem) (free q (Nat.add off (Nat.mul len size)))))
          (mkOpen (H.set id none) elem size (froSub q off) (Nat.add len n) (app old new))))))
noncomputable def oCpy (size : Nat) (x y : AVal) (H : Heap) : Res :=
  src H size y fun n l => onSlc x (some (.int .i64 (Int.ofNat 0), H)) fun id off len _ _ =>
    onOpt (takeL (Nat.mul (iteB (Nat.ble n len) n len) size) l) fun l => onOpt (storeN H id off l) fun H => some (.int .i64 (Int.ofNat (iteB (Nat.ble n len) n len)), H)
noncomputable def oClr (zs : List AVal) (x : AVal) (H : Heap) : Res :=
  onSlc x (some (.tup [], H)) fun id off len _ _ => onOpt (storeN H id off (repl len zs)) fun H => some (.tup [], H)

def decR (n v i : Nat) : Nat × Nat :=
  let at' (k : Nat) : Nat := v / 256 ^ (n - (i + k + 1)) % 256
  let cont (k : Nat) : Bool := i + k < n && at' k / 64 == 2
  let valid (r : Nat) : Bool := r < 0xD800 || (0xE000 ≤ r && r ≤ 0x10FFFF)
  let b0 := at' 0
  if b0 < 0x80 then (b0, 1)
  else if b0 / 32 == 6 && cont 1 then
    let c := (b0 % 32) * 64 + at' 1 % 64
    if c ≥ 0x80 then (c, 2) else (0xFFFD, 1)
  else if b0 / 16 == 14 && cont 1 && cont 2 then
    let c := (b0 % 16) * 4096 + (at' 1 % 64) * 64 + at' 2 % 64
    if c ≥ 0x800 && valid c then (c, 3) else (0xFFFD, 1)
  else if b0 / 8 == 30 && cont 1 && cont 2 && cont 3 then
    let c := (b0 % 8) * 262144 + (at' 1 % 64) * 4096 + (at' 2 % 64) * 64 + at' 3 % 64
    if c ≥ 0x10000 && valid c then (c, 4) else (0xFFFD, 1)
  else (0xFFFD, 1)
noncomputable def oNxt (it : AVal) (H : Heap) : Res :=
  onPtr it fun id off => ifB (Nat.beq off 0) (onOpt (H.obj id) fun o => onSit o fun n v pos =>
    iteB (Nat.ble (Nat.succ pos) n)
      (some (.tup [.bool true, .int .i64 (Int.ofNat pos), .int .i32 (Int.ofNat (decR n v pos).1)], H.set id (some (.siter n v (Nat.add pos (decR n v pos).2)))))
      (some (.tup [.bool false], H)))
noncomputable def isPtr (p : AVal) : Bool := @AVal.casesOn (fun _ => Bool) p false false false false (fun _ => false) (fun _ => false) (fun _ _ => false) (fun _ _ _ => false) false true (fun _ => false) (fun _ _ => false) (fun _ => false) (fun _ _ _ _ _ => false) (fun _ _ => true) (fun _ _ => false)
noncomputable def oUstr (elem : TypeId) (p n : AVal) (H : Heap) : Res :=
  onNat n fun n => iteB (Nat.beq n 0) (ifB (isPtr p) (some (.str 0 0, H))) (onPtr p fun id off => onOpt (H.obj id) fun o => onCells o fun l e op w q =>
    ifB (and w (and (Nat.beq e elem) (Nat.ble n 9223372036854775807))) (onOpt q fun f => onOpt (takeL n (dropL off l)) fun bs => onOpt (bytesOf bs) fun r =>
      some (.str r.1 r.2, H.set id (some (.cells l e op w (some (iteB (Nat.ble f (Nat.add off n)) (Nat.add off n) f)))))))

end Go.Am
