/- A part of the library Am: an abstract machine for the model, that a kernel evaluates. -/
import Derived.Test.YtpmajhocoepajaaGreatDoorAmF2
import Derived.Test.YtpmajhocoepajaaGreatDoorAmK
set_option linter.unusedVariables false
set_option linter.unusedSimpArgs false
/-
  Am, the operations once more, for a kernel: closed recursors, one type of results each; that they are the same.
-/
namespace Go.Am

/-! ## laying open -/
noncomputable def boolV (x : AVal) : (Bool → Option AVal) → Option AVal := AVal.rec (motive_1 := fun _ => (Bool → Option AVal) → Option AVal) (motive_2 := fun _ => Unit) (fun _ => none) (fun _ => none) (fun _ => none) (fun _ => none) (fun _ => fun _ => none) (fun _ _ => fun _ => none) (fun _ _ _ => fun _ => none) (fun _ _ _ _ _ => fun _ => none) (fun _ => none) (fun _ => none) (fun _ _ => fun _ => none) (fun _ _ => fun _ => none) (fun b => fun g => g b) (fun _ _ _ _ _ => fun _ => none) (fun _ _ => fun _ => none) (fun _ _ => fun _ => none) () (fun _ _ _ _ => ()) x
theorem boolV_eq (x : AVal) (g : Bool → Option AVal) : boolV x g = onBool x g := by cases x <;> rfl
noncomputable def intV (x : AVal) : (IntKind → Int → Option AVal) → Option AVal := AVal.rec (motive_1 := fun _ => (IntKind → Int → Option AVal) → Option AVal) (motive_2 := fun _ => Unit) (fun _ => none) (fun _ => none) (fun _ => none) (fun _ => none) (fun _ => fun _ => none) (fun _ _ => fun _ => none) (fun _ _ _ => fun _ => none) (fun _ _ _ _ _ => fun _ => none) (fun _ => none) (fun _ => none) (fun _ _ => fun _ => none) (fun _ _ => fun _ => none) (fun _ => fun _ => none) (fun _ _ _ _ _ => fun _ => none) (fun _ _ => fun _ => none) (fun k n => fun g => g k n) () (fun _ _ _ _ => ()) x
theorem intV_eq (x : AVal) (g : IntKind → Int → Option AVal) : intV x g = onInt x g := by cases x <;> rfl
noncomputable def strV (x : AVal) : (Nat → Nat → Option AVal) → Option AVal := AVal.rec (motive_1 := fun _ => (Nat → Nat → Option AVal) → Option AVal) (motive_2 := fun _ => Unit) (fun _ => none) (fun _ => none) (fun _ => none) (fun _ => none) (fun _ => fun _ => none) (fun _ _ => fun _ => none) (fun _ _ _ => fun _ => none) (fun _ _ _ _ _ => fun _ => none) (fun _ => none) (fun _ => none) (fun _ _ => fun _ => none) (fun n v => fun g => g n v) (fun _ => fun _ => none) (fun _ _ _ _ _ => fun _ => none) (fun _ _ => fun _ => none) (fun _ _ => fun _ => none) () (fun _ _ _ _ => ()) x
theorem strV_eq (x : AVal) (g : Nat → Nat → Option AVal) : strV x g = onStr x g := by cases x <;> rfl
noncomputable def ptrV (x : AVal) : (Nat → Nat → Option AVal) → Option AVal := AVal.rec (motive_1 := fun _ => (Nat → Nat → Option AVal) → Option AVal) (motive_2 := fun _ => Unit) (fun _ => none) (fun _ => none) (fun _ => none) (fun _ => none) (fun _ => fun _ => none) (fun _ _ => fun _ => none) (fun _ _ _ => fun _ => none) (fun _ _ _ _ _ => fun _ => none) (fun _ => none) (fun _ => none) (fun _ _ => fun _ => none) (fun _ _ => fun _ => none) (fun _ => fun _ => none) (fun _ _ _ _ _ => fun _ => none) (fun i o => fun g => g i o) (fun _ _ => fun _ => none) () (fun _ _ _ _ => ()) x
theorem ptrV_eq (x : AVal) (g : Nat → Nat → Option AVal) : ptrV x g = onPtr x g := by cases x <;> rfl
noncomputable def aggV (x : AVal) : (List AVal → Option AVal) → Option AVal := AVal.rec (motive_1 := fun _ => (List AVal → Option AVal) → Option AVal) (motive_2 := fun _ => Unit) (fun _ => none) (fun _ => none) (fun _ => none) (fun _ => none) (fun _ => fun _ => none) (fun _ _ => fun _ => none) (fun _ _ _ => fun _ => none) (fun _ _ _ _ _ => fun _ => none) (fun _ => none) (fun _ => none) (fun l _ => fun g => g l) (fun _ _ => fun _ => none) (fun _ => fun _ => none) (fun _ _ _ _ _ => fun _ => none) (fun _ _ => fun _ => none) (fun _ _ => fun _ => none) () (fun _ _ _ _ => ()) x
theorem aggV_eq (x : AVal) (g : List AVal → Option AVal) : aggV x g = onAgg x g := by cases x <;> rfl
noncomputable def tupV (x : AVal) : (List AVal → Option AVal) → Option AVal := AVal.rec (motive_1 := fun _ => (List AVal → Option AVal) → Option AVal) (motive_2 := fun _ => Unit) (fun _ => none) (fun _ => none) (fun _ => none) (fun _ => none) (fun _ => fun _ => none) (fun l _ => fun g => g l) (fun _ _ _ => fun _ => none) (fun _ _ _ _ _ => fun _ => none) (fun _ => none) (fun _ => none) (fun _ _ => fun _ => none) (fun _ _ => fun _ => none) (fun _ => fun _ => none) (fun _ _ _ _ _ => fun _ => none) (fun _ _ => fun _ => none) (fun _ _ => fun _ => none) () (fun _ _ _ _ => ()) x
theorem tupV_eq (x : AVal) (g : List AVal → Option AVal) : tupV x g = onTup x g := by cases x <;> rfl
noncomputable def ptrR (x : AVal) : (Nat → Nat → Option (AVal × Heap)) → Option (AVal × Heap) := AVal.rec (motive_1 := fun _ => (Nat → Nat → Option (AVal × Heap)) → Option (AVal × Heap)) (motive_2 := fun _ => Unit) (fun _ => none) (fun _ => none) (fun _ => none) (fun _ => none) (fun _ => fun _ => none) (fun _ _ => fun _ => none) (fun _ _ _ => fun _ => none) (fun _ _ _ _ _ => fun _ => none) (fun _ => none) (fun _ => none) (fun _ _ => fun _ => none) (fun _ _ => fun _ => none) (fun _ => fun _ => none) (fun _ _ _ _ _ => fun _ => none) (fun i o => fun g => g i o) (fun _ _ => fun _ => none) () (fun _ _ _ _ => ()) x
theorem ptrR_eq (x : AVal) (g : Nat → Nat → Option (AVal × Heap)) : ptrR x g = onPtr x g := by cases x <;> rfl
noncomputable def strM (x : AVal) : (Nat → Nat → Option (AObj × (Nat → AVal))) → Option (AObj × (Nat → AVal)) := AVal.rec (motive_1 := fun _ => (Nat → Nat → Option (AObj × (Nat → AVal))) → Option (AObj × (Nat → AVal))) (motive_2 := fun _ => Unit) (fun _ => none) (fun _ => none) (fun _ => none) (fun _ => none) (fun _ => fun _ => none) (fun _ _ => fun _ => none) (fun _ _ _ => fun _ => none) (fun _ _ _ _ _ => fun _ => none) (fun _ => none) (fun _ => none) (fun _ _ => fun _ => none) (fun n v => fun g => g n v) (fun _ => fun _ => none) (fun _ _ _ _ _ => fun _ => none) (fun _ _ => fun _ => none) (fun _ _ => fun _ => none) () (fun _ _ _ _ => ()) x
theorem strM_eq (x : AVal) (g : Nat → Nat → Option (AObj × (Nat → AVal))) : strM x g = onStr x g := by cases x <;> rfl
noncomputable def intM (x : AVal) : (IntKind → Int → Option (AObj × (Nat → AVal))) → Option (AObj × (Nat → AVal)) := AVal.rec (motive_1 := fun _ => (IntKind → Int → Option (AObj × (Nat → AVal))) → Option (AObj × (Nat → AVal))) (motive_2 := fun _ => Unit) (fun _ => none) (fun _ => none) (fun _ => none) (fun _ => none) (fun _ => fun _ => none) (fun _ _ => fun _ => none) (fun _ _ _ => fun _ => none) (fun _ _ _ _ _ => fun _ => none) (fun _ => none) (fun _ => none) (fun _ _ => fun _ => none) (fun _ _ => fun _ => none) (fun _ => fun _ => none) (fun _ _ _ _ _ => fun _ => none) (fun _ _ => fun _ => none) (fun k n => fun g => g k n) () (fun _ _ _ _ => ()) x
theorem intM_eq (x : AVal) (g : IntKind → Int → Option (AObj × (Nat → AVal))) : intM x g = onInt x g := by cases x <;> rfl
noncomputable def intR (x : AVal) : (IntKind → Int → Option (AVal × Heap)) → Option (AVal × Heap) := AVal.rec (motive_1 := fun _ => (IntKind → Int → Option (AVal × Heap)) → Option (AVal × Heap)) (motive_2 := fun _ => Unit) (fun _ => none) (fun _ => none) (fun _ => none) (fun _ => none) (fun _ => fun _ => none) (fun _ _ => fun _ => none) (fun _ _ _ => fun _ => none) (fun _ _ _ _ _ => fun _ => none) (fun _ => none) (fun _ => none) (fun _ _ => fun _ => none) (fun _ _ => fun _ => none) (fun _ => fun _ => none) (fun _ _ _ _ _ => fun _ => none) (fun _ _ => fun _ => none) (fun k n => fun g => g k n) () (fun _ _ _ _ => ()) x
theorem intR_eq (x : AVal) (g : IntKind → Int → Option (AVal × Heap)) : intR x g = onInt x g := by cases x <;> rfl
noncomputable def slcV (x : AVal) : Option AVal → (Nat → Nat → Nat → Nat → Nat → Option AVal) → Option AVal := AVal.rec (motive_1 := fun _ => Option AVal → (Nat → Nat → Nat → Nat → Nat → Option AVal) → Option AVal) (motive_2 := fun _ => Unit) (fun _ _ => none) (fun _ _ => none) (fun _ _ => none) (fun _ _ => none) (fun _ => fun _ _ => none) (fun _ _ => fun _ _ => none) (fun _ _ _ => fun _ _ => none) (fun _ _ _ _ _ => fun _ _ => none) (fun d _ => d) (fun _ _ => none) (fun _ _ => fun _ _ => none) (fun _ _ => fun _ _ => none) (fun _ => fun _ _ => none) (fun a b c d e => fun _ g => g a b c d e) (fun _ _ => fun _ _ => none) (fun _ _ => fun _ _ => none) () (fun _ _ _ _ => ()) x
theorem slcV_eq (x : AVal) (d : Option AVal) (g : Nat → Nat → Nat → Nat → Nat → Option AVal) : slcV x d g = onSlc x d g := by cases x <;> rfl
noncomputable def mapV (x : AVal) : Option AVal → (Nat → Option AVal) → Option AVal := AVal.rec (motive_1 := fun _ => Option AVal → (Nat → Option AVal) → Option AVal) (motive_2 := fun _ => Unit) (fun _ _ => none) (fun _ _ => none) (fun _ _ => none) (fun d _ => d) (fun i => fun _ g => g i) (fun _ _ => fun _ _ => none) (fun _ _ _ => fun _ _ => none) (fun _ _ _ _ _ => fun _ _ => none) (fun _ _ => none) (fun _ _ => none) (fun _ _ => fun _ _ => none) (fun _ _ => fun _ _ => none) (fun _ => fun _ _ => none) (fun _ _ _ _ _ => fun _ _ => none) (fun _ _ => fun _ _ => none) (fun _ _ => fun _ _ => none) () (fun _ _ _ _ => ()) x
theorem mapV_eq (x : AVal) (d : Option AVal) (g : Nat → Option AVal) : mapV x d g = onMap x d g := by cases x <;> rfl
noncomputable def slcR (x : AVal) : Option (AVal × Heap) → (Nat → Nat → Nat → Nat → Nat → Option (AVal × Heap)) → Option (AVal × Heap) := AVal.rec (motive_1 := fun _ => Option (AVal × Heap) → (Nat → Nat → Nat → Nat → Nat → Option (AVal × Heap)) → Option (AVal × Heap)) (motive_2 := fun _ => Unit) (fun _ _ => none) (fun _ _ => none) (fun _ _ => none) (fun _ _ => none) (fun _ => fun _ _ => none) (fun _ _ => fun _ _ => none) (fun _ _ _ => fun _ _ => none) (fun _ _ _ _ _ => fun _ _ => none) (fun d _ => d) (fun _ _ => none) (fun _ _ => fun _ _ => none) (fun _ _ => fun _ _ => none) (fun _ => fun _ _ => none) (fun a b c d e => fun _ g => g a b c d e) (fun _ _ => fun _ _ => none) (fun _ _ => fun _ _ => none) () (fun _ _ _ _ => ()) x
theorem slcR_eq (x : AVal) (d : Option (AVal × Heap)) (g : Nat → Nat → Nat → Nat → Nat → Option (AVal × Heap)) : slcR x d g = onSlc x d g := by cases x <;> rfl
noncomputable def mapR (x : AVal) : Option (AVal × Heap) → (Nat → Option (AVal × Heap)) → Option (AVal × Heap) := AVal.rec (motive_1 := fun _ => Option (AVal × Heap) → (Nat → Option (AVal × Heap)) → Option (AVal × Heap)) (motive_2 := fun _ => Unit) (fun _ _ => none) (fun _ _ => none) (fun _ _ => none) (fun d _ => d) (fun i => fun _ g => g i) (fun _ _ => fun _ _ => none) (fun _ _ _ => fun _ _ => none) (fun _ _ _ _ _ => fun _ _ => none) (fun _ _ => none) (fun _ _ => none) (fun _ _ => fun _ _ => none) (fun _ _ => fun _ _ => none) (fun _ => fun _ _ => none) (fun _ _ _ _ _ => fun _ _ => none) (fun _ _ => fun _ _ => none) (fun _ _ => fun _ _ => none) () (fun _ _ _ _ => ()) x
theorem mapR_eq (x : AVal) (d : Option (AVal × Heap)) (g : Nat → Option (AVal × Heap)) : mapR x d g = onMap x d g := by cases x <;> rfl
noncomputable def natV (x : AVal) : (Nat → Option AVal) → Option AVal := AVal.rec (motive_1 := fun _ => (Nat → Option AVal) → Option AVal) (motive_2 := fun _ => Unit) (fun _ => none) (fun _ => none) (fun _ => none) (fun _ => none) (fun _ => fun _ => none) (fun _ _ => fun _ => none) (fun _ _ _ => fun _ => none) (fun _ _ _ _ _ => fun _ => none) (fun _ => none) (fun _ => none) (fun _ _ => fun _ => none) (fun _ _ => fun _ => none) (fun _ => fun _ => none) (fun _ _ _ _ _ => fun _ => none) (fun _ _ => fun _ => none) (fun _ n => Int.rec (motive := fun _ => (Nat → Option AVal) → Option AVal) (fun n g => g n) (fun _ _ => none) n) () (fun _ _ _ _ => ()) x
theorem natV_eq (x : AVal) (g : Nat → Option AVal) : natV x g = onNat x g := by
  cases x <;> first | rfl | (rename_i n; cases n <;> rfl)
noncomputable def natR (x : AVal) : (Nat → Option (AVal × Heap)) → Option (AVal × Heap) := AVal.rec (motive_1 := fun _ => (Nat → Option (AVal × Heap)) → Option (AVal × Heap)) (motive_2 := fun _ => Unit) (fun _ => none) (fun _ => none) (fun _ => none) (fun _ => none) (fun _ => fun _ => none) (fun _ _ => fun _ => none) (fun _ _ _ => fun _ => none) (fun _ _ _ _ _ => fun _ => none) (fun _ => none) (fun _ => none) (fun _ _ => fun _ => none) (fun _ _ => fun _ => none) (fun _ => fun _ => none) (fun _ _ _ _ _ => fun _ => none) (fun _ _ => fun _ => none) (fun _ n => Int.rec (motive := fun _ => (Nat → Option (AVal × Heap)) → Option (AVal × Heap)) (fun n g => g n) (fun _ _ => none) n) () (fun _ _ _ _ => ()) x
theorem natR_eq (x : AVal) (g : Nat → Option (AVal × Heap)) : natR x g = onNat x g := by
  cases x <;> first | rfl | (rename_i n; cases n <;> rfl)
noncomputable def natM (x : AVal) : (Nat → Option (AObj × (Nat → AVal))) → Option (AObj × (Nat → AVal)) := AVal.rec (motive_1 := fun _ => (Nat → Option (AObj × (Nat → AVal))) → Option (AObj × (Nat → AVal))) (motive_2 := fun _ => Unit) (fun _ => none) (fun _ => none) (fun _ => none) (fun _ => none) (fun _ => fun _ => none) (fun _ _ => fun _ => none) (fun _ _ _ => fun _ => none) (fun _ _ _ _ _ => fun _ => none) (fun _ => none) (fun _ => none) (fun _ _ => fun _ => none) (fun _ _ => fun _ => none) (fun _ => fun _ => none) (fun _ _ _ _ _ => fun _ => none) (fun _ _ => fun _ => none) (fun _ n => Int.rec (motive := fun _ => (Nat → Option (AObj × (Nat → AVal))) → Option (AObj × (Nat → AVal))) (fun n g => g n) (fun _ _ => none) n) () (fun _ _ _ _ => ()) x
theorem natM_eq (x : AVal) (g : Nat → Option (AObj × (Nat → AVal))) : natM x g = onNat x g := by
  cases x <;> first | rfl | (rename_i n; cases n <;> rfl)
noncomputable def optV (x : Option AVal) : (AVal → Option AVal) → Option AVal := Option.rec (motive := fun _ => (AVal → Option AVal) → Option AVal) (fun _ => none) (fun a g => g a) x
theorem optV_eq (x : Option AVal) (g : AVal → Option AVal) : optV x g = onOpt x g := by cases x <;> rfl
noncomputable def objV (x : Option AObj) : (AObj → Option AVal) → Option AVal := Option.rec (motive := fun _ => (AObj → Option AVal) → Option AVal) (fun _ => none) (fun a g => g a) x
theorem objV_eq (x : Option AObj) (g : AObj → Option AVal) : objV x g = onOpt x g := by cases x <;> rfl
noncomputable def objR (x : Option AObj) : (AObj → Option (AVal × Heap)) → Option (AVal × Heap) := Option.rec (motive := fun _ => (AObj → Option (AVal × Heap)) → Option (AVal × Heap)) (fun _ => none) (fun a g => g a) x
theorem objR_eq (x : Option AObj) (g : AObj → Option (AVal × Heap)) : objR x g = onOpt x g := by cases x <;> rfl
noncomputable def lisV (x : Option (List AVal)) : ((List AVal) → Option AVal) → Option AVal := Option.rec (motive := fun _ => ((List AVal) → Option AVal) → Option AVal) (fun _ => none) (fun a g => g a) x
theorem lisV_eq (x : Option (List AVal)) (g : (List AVal) → Option AVal) : lisV x g = onOpt x g := by cases x <;> rfl
noncomputable def lisR (x : Option (List AVal)) : ((List AVal) → Option (AVal × Heap)) → Option (AVal × Heap) := Option.rec (motive := fun _ => ((List AVal) → Option (AVal × Heap)) → Option (AVal × Heap)) (fun _ => none) (fun a g => g a) x
theorem lisR_eq (x : Option (List AVal)) (g : (List AVal) → Option (AVal × Heap)) : lisR x g = onOpt x g := by cases x <;> rfl
noncomputable def lisL (x : Option (List AVal)) : ((List AVal) → Option (List AVal)) → Option (List AVal) := Option.rec (motive := fun _ => ((List AVal) → Option (List AVal)) → Option (List AVal)) (fun _ => none) (fun a g => g a) x
theorem lisL_eq (x : Option (List AVal)) (g : (List AVal) → Option (List AVal)) : lisL x g = onOpt x g := by cases x <;> rfl
noncomputable def objL (x : Option AObj) : (AObj → Option (List AVal)) → Option (List AVal) := Option.rec (motive := fun _ => (AObj → Option (List AVal)) → Option (List AVal)) (fun _ => none) (fun a g => g a) x
theorem objL_eq (x : Option AObj) (g : AObj → Option (List AVal)) : objL x g = onOpt x g := by cases x <;> rfl
noncomputable def lisM (x : Option (List AVal)) : ((List AVal) → Option (AObj × (Nat → AVal))) → Option (AObj × (Nat → AVal)) := Option.rec (motive := fun _ => ((List AVal) → Option (AObj × (Nat → AVal))) → Option (AObj × (Nat → AVal))) (fun _ => none) (fun a g => g a) x
theorem lisM_eq (x : Option (List AVal)) (g : (List AVal) → Option (AObj × (Nat → AVal))) : lisM x g = onOpt x g := by cases x <;> rfl
noncomputable def arH (x : Option Ar) : (Ar → Option Heap) → Option Heap := Option.rec (motive := fun _ => (Ar → Option Heap) → Option Heap) (fun _ => none) (fun a g => g a) x
noncomputable def hpR (x : Option Heap) : (Heap → Option (AVal × Heap)) → Option (AVal × Heap) := Option.rec (motive := fun _ => (Heap → Option (AVal × Heap)) → Option (AVal × Heap)) (fun _ => none) (fun a g => g a) x
theorem hpR_eq (x : Option Heap) (g : Heap → Option (AVal × Heap)) : hpR x g = onOpt x g := by cases x <;> rfl
noncomputable def objH (x : Option AObj) : (AObj → Option Heap) → Option Heap := Option.rec (motive := fun _ => (AObj → Option Heap) → Option Heap) (fun _ => none) (fun a g => g a) x
theorem objH_eq (x : Option AObj) (g : AObj → Option Heap) : objH x g = onOpt x g := by cases x <;> rfl
noncomputable def lisH (x : Option (List AVal)) : (List AVal → Option Heap) → Option Heap := Option.rec (motive := fun _ => (List AVal → Option Heap) → Option Heap) (fun _ => none) (fun a g => g a) x
theorem lisH_eq (x : Option (List AVal)) (g : List AVal → Option Heap) : lisH x g = onOpt x g := by cases x <;> rfl
noncomputable def ifV (x : Bool) : Option AVal → Option AVal := Bool.rec (motive := fun _ => Option AVal → Option AVal) (fun _ => none) (fun a => a) x
theorem ifV_eq (x : Bool) (g : Option AVal) : ifV x g = ifB x g := by cases x <;> rfl
noncomputable def ifR (x : Bool) : Option (AVal × Heap) → Option (AVal × Heap) := Bool.rec (motive := fun _ => Option (AVal × Heap) → Option (AVal × Heap)) (fun _ => none) (fun a => a) x
theorem ifR_eq (x : Bool) (g : Option (AVal × Heap)) : ifR x g = ifB x g := by cases x <;> rfl
noncomputable def ifM (x : Bool) : Option (AObj × (Nat → AVal)) → Option (AObj × (Nat → AVal)) := Bool.rec (motive := fun _ => Option (AObj × (Nat → AVal)) → Option (AObj × (Nat → AVal))) (fun _ => none) (fun a => a) x
theorem ifM_eq (x : Bool) (g : Option (AObj × (Nat → AVal))) : ifM x g = ifB x g := by cases x <;> rfl
noncomputable def ifL (x : Bool) : Option (List AVal) → Option (List AVal) := Bool.rec (motive := fun _ => Option (List AVal) → Option (List AVal)) (fun _ => none) (fun a => a) x
theorem ifL_eq (x : Bool) (g : Option (List AVal)) : ifL x g = ifB x g := by cases x <;> rfl
noncomputable def ifH (x : Bool) : Option Heap → Option Heap := Bool.rec (motive := fun _ => Option Heap → Option Heap) (fun _ => none) (fun a => a) x
theorem ifH_eq (x : Bool) (g : Option Heap) : ifH x g = ifB x g := by cases x <;> rfl
noncomputable def blkV (x : AObj) : (Ar → TypeId → Bool → Bool → Option Nat → Option AVal) → Option AVal := AObj.rec (motive := fun _ => (Ar → TypeId → Bool → Bool → Option Nat → Option AVal) → Option AVal) (fun _ _ _ => none) (fun _ _ _ _ => none) (fun l e p w q g => g l e p w q) x
theorem blkV_eq (x : AObj) (g : Ar → TypeId → Bool → Bool → Option Nat → Option AVal) (f : List AVal → TypeId → Bool → Bool → Option Nat → Option AVal) (h : ∀ a e p w q, g a e p w q = f a.list e p w q) : blkV x g = onCells x f := by
  cases x with
  | blk a e p w q => exact h a e p w q
  | _ => rfl
noncomputable def blkR (x : AObj) : (Ar → TypeId → Bool → Bool → Option Nat → Option (AVal × Heap)) → Option (AVal × Heap) := AObj.rec (motive := fun _ => (Ar → TypeId → Bool → Bool → Option Nat → Option (AVal × Heap)) → Option (AVal × Heap)) (fun _ _ _ => none) (fun _ _ _ _ => none) (fun l e p w q g => g l e p w q) x
theorem blkR_eq (x : AObj) (g : Ar → TypeId → Bool → Bool → Option Nat → Option (AVal × Heap)) (f : List AVal → TypeId → Bool → Bool → Option Nat → Option (AVal × Heap)) (h : ∀ a e p w q, g a e p w q = f a.list e p w q) : blkR x g = onCells x f := by
  cases x with
  | blk a e p w q => exact h a e p w q
  | _ => rfl
noncomputable def blkL (x : AObj) : (Ar → TypeId → Bool → Bool → Option Nat → Option (List AVal)) → Option (List AVal) := AObj.rec (motive := fun _ => (Ar → TypeId → Bool → Bool → Option Nat → Option (List AVal)) → Option (List AVal)) (fun _ _ _ => none) (fun _ _ _ _ => none) (fun l e p w q g => g l e p w q) x
theorem blkL_eq (x : AObj) (g : Ar → TypeId → Bool → Bool → Option Nat → Option (List AVal)) (f : List AVal → TypeId → Bool → Bool → Option Nat → Option (List AVal)) (h : ∀ a e p w q, g a e p w q = f a.list e p w q) : blkL x g = onCells x f := by
  cases x with
  | blk a e p w q => exact h a e p w q
  | _ => rfl
noncomputable def blkH (x : AObj) : (Ar → TypeId → Bool → Bool → Option Nat → Option Heap) → Option Heap := AObj.rec (motive := fun _ => (Ar → TypeId → Bool → Bool → Option Nat → Option Heap) → Option Heap) (fun _ _ _ => none) (fun _ _ _ _ => none) (fun l e p w q g => g l e p w q) x
theorem blkH_eq (x : AObj) (g : Ar → TypeId → Bool → Bool → Option Nat → Option Heap) (f : List AVal → TypeId → Bool → Bool → Option Nat → Option Heap) (h : ∀ a e p w q, g a e p w q = f a.list e p w q) : blkH x g = onCells x f := by
  cases x with
  | blk a e p w q => exact h a e p w q
  | _ => rfl
noncomputable def wcR (x : AVal) : (List AVal → Option (AVal × Heap)) → Option (AVal × Heap) := fun g => (AVal.rec (motive_1 := fun _ => (List AVal → Option (AVal × Heap)) → AVal → Option (AVal × Heap)) (motive_2 := fun _ => Unit) (fun _ _ => none) (fun g v => g [v]) (fun g v => g [v]) (fun g v => g [v]) (fun _ => fun g v => g [v]) (fun _ _ => fun _ _ => none) (fun _ _ _ => fun g v => g [v]) (fun _ _ _ _ _ => fun g v => g [v]) (fun g v => g [v]) (fun g v => g [v]) (fun l _ => fun g _ => g l) (fun _ _ => fun g v => g [v]) (fun _ => fun g v => g [v]) (fun _ _ _ _ _ => fun g v => g [v]) (fun _ _ => fun g v => g [v]) (fun _ _ => fun g v => g [v]) () (fun _ _ _ _ => ()) x) g x
theorem wcR_eq (x : AVal) (g : List AVal → Option (AVal × Heap)) : wcR x g = withCells x g := by cases x <;> rfl
noncomputable def wcM (x : AVal) : (List AVal → Option (AObj × (Nat → AVal))) → Option (AObj × (Nat → AVal)) := fun g => (AVal.rec (motive_1 := fun _ => (List AVal → Option (AObj × (Nat → AVal))) → AVal → Option (AObj × (Nat → AVal))) (motive_2 := fun _ => Unit) (fun _ _ => none) (fun g v => g [v]) (fun g v => g [v]) (fun g v => g [v]) (fun _ => fun g v => g [v]) (fun _ _ => fun _ _ => none) (fun _ _ _ => fun g v => g [v]) (fun _ _ _ _ _ => fun g v => g [v]) (fun g v => g [v]) (fun g v => g [v]) (fun l _ => fun g _ => g l) (fun _ _ => fun g v => g [v]) (fun _ => fun g v => g [v]) (fun _ _ _ _ _ => fun g v => g [v]) (fun _ _ => fun g v => g [v]) (fun _ _ => fun g v => g [v]) () (fun _ _ _ _ => ()) x) g x
theorem wcM_eq (x : AVal) (g : List AVal → Option (AObj × (Nat → AVal))) : wcM x g = withCells x g := by cases x <;> rfl
noncomputable def wcL (x : AVal) : (List AVal → Option (List AVal)) → Option (List AVal) := fun g => (AVal.rec (motive_1 := fun _ => (List AVal → Option (List AVal)) → AVal → Option (List AVal)) (motive_2 := fun _ => Unit) (fun _ _ => none) (fun g v => g [v]) (fun g v => g [v]) (fun g v => g [v]) (fun _ => fun g v => g [v]) (fun _ _ => fun _ _ => none) (fun _ _ _ => fun g v => g [v]) (fun _ _ _ _ _ => fun g v => g [v]) (fun g v => g [v]) (fun g v => g [v]) (fun l _ => fun g _ => g l) (fun _ _ => fun g v => g [v]) (fun _ => fun g v => g [v]) (fun _ _ _ _ _ => fun g v => g [v]) (fun _ _ => fun g v => g [v]) (fun _ _ => fun g v => g [v]) () (fun _ _ _ _ => ()) x) g x
theorem wcL_eq (x : AVal) (g : List AVal → Option (List AVal)) : wcL x g = withCells x g := by cases x <;> rfl

/-! ## lists -/
theorem dropV_eq (i : Nat) (l : List AVal) : dropV i l = dropL i l := by rw [dropV_drop, dropL_eq]
theorem nthV_eq (l : List AVal) (i : Nat) : nthV l i = nth l i := by rw [nthV_get, nth_eq]
theorem appV_eq (l m : List AVal) : appV l m = app l m := by rw [appV_app, app_eq]
theorem lenV_eq (l : List AVal) : lenV l = lenL l := rfl
noncomputable def someB (x : Option AVal) : Bool := Option.rec (motive := fun _ => Bool) false (fun _ => true) x
noncomputable def geL (n : Nat) (l : List AVal) : Bool := Nat.rec (motive := fun _ => List AVal → Bool) (fun _ => true) (fun m _ l => someB (nthV l m)) n l
theorem geL_eq (n : Nat) (l : List AVal) : geL n l = decide (n ≤ l.length) := by
  cases n with
  | zero => rfl
  | succ m =>
    show someB (nthV l m) = _
    rw [nthV_eq, nth_eq]
    by_cases h : m < l.length
    · rw [List.getElem?_eq_getElem h]; show true = _; symm; exact decide_eq_true h
    · rw [List.getElem?_eq_none (by omega)]; show false = _; symm; exact decide_eq_false h
noncomputable def takeV (n : Nat) (l : List AVal) : Option (List AVal) := ifL (geL n l) (some (cpV n [] l))
theorem takeV_eq (n : Nat) (l : List AVal) : takeV n l = takeL n l := by
  unfold takeV
  rw [ifL_eq, geL_eq, cpV_eq, List.append_nil]
  cases h : takeL n l with
  | some r =>
    obtain ⟨h1, h2⟩ := takeL_eq.1 h
    subst h2
    rw [show decide (n ≤ l.length) = true by simpa using h1]; rfl
  | none =>
    by_cases h1 : n ≤ l.length
    · rw [takeL_eq.2 ⟨h1, rfl⟩] at h; cases h
    · rw [show decide (n ≤ l.length) = false by simpa using h1]; rfl
noncomputable def forceO (l : List AVal) : (List AVal → Option (List AVal)) → Option (List AVal) := List.rec (motive := fun _ => (List AVal → Option (List AVal)) → Option (List AVal)) (fun g => g []) (fun a t _ g => g (a :: t)) l
theorem forceO_eq (l : List AVal) (g : List AVal → Option (List AVal)) : forceO l g = g l := by cases l <;> rfl
noncomputable def layV (i : Nat) (m l : List AVal) : Option (List AVal) := ifL (geL (Nat.add i (lenV m)) l) (forceO (dropV (Nat.add i (lenV m)) l) fun t => some (cpV i (appV m t) l))
theorem layV_eq (i : Nat) (m l : List AVal) : layV i m l = lay i m l := by
  unfold layV
  rw [ifL_eq, geL_eq, forceO_eq, cpV_eq, appV_eq, app_eq, dropV_eq, dropL_eq, lenV_eq, lenL_eq]
  rw [show Nat.add i m.length = i + m.length from rfl]
  cases h : lay i m l with
  | some r =>
    obtain ⟨h1, h2⟩ := lay_eq.1 h
    subst h2
    rw [show decide (i + m.length ≤ l.length) = true by simpa using h1, List.append_assoc]; rfl
  | none =>
    by_cases h1 : i + m.length ≤ l.length
    · rw [lay_eq.2 ⟨h1, rfl⟩] at h; cases h
    · rw [show decide (i + m.length ≤ l.length) = false by simpa using h1]; rfl
noncomputable def nthDV (l : List AVal) (i : Nat) : AVal := Option.rec (motive := fun _ => AVal) .bad (fun v => v) (nthV l i)

/-! ## rows -/
namespace Ar
noncomputable def nth (a : Ar) (i : Nat) : Option AVal := Quot.lift (fun (o : OR) (i : Nat) => o.r.nth i) (by intro x y h; funext i; rw [Rp.nth_has i ⟨x.ok, rfl⟩, Rp.nth_has i ⟨y.ok, rfl⟩]; have h : x.r.list = y.r.list := h; rw [h]) a i
theorem nth_eq (a : Ar) (i : Nat) : a.nth i = a.list[i]? := by
  induction a using Quot.ind with
  | mk x => exact Rp.nth_has i ⟨x.ok, rfl⟩
noncomputable def size (a : Ar) : Nat := Quot.lift (fun (o : OR) => o.r.size) (by intro x y h; rw [Rp.size_eq x.ok, Rp.size_eq y.ok]; have h : x.r.list = y.r.list := h; rw [h]) a
theorem size_eq (a : Ar) : a.size = a.list.length := by
  induction a using Quot.ind with
  | mk x => exact Rp.size_eq x.ok
noncomputable def sub (a : Ar) (off n : Nat) : List AVal := Quot.lift (fun (o : OR) (off n : Nat) => o.r.sub off n) (by intro x y h; funext off n; rw [Rp.sub_has off n ⟨x.ok, rfl⟩, Rp.sub_has off n ⟨y.ok, rfl⟩]; have h : x.r.list = y.r.list := h; rw [h]) a off n
theorem sub_eq (a : Ar) (off n : Nat) : a.sub off n = (a.list.drop off).take n := by
  induction a using Quot.ind with
  | mk x => exact Rp.sub_has off n ⟨x.ok, rfl⟩
noncomputable def take (a : Ar) (n : Nat) : Ar := Quot.lift (fun (o : OR) (n : Nat) => Ar.mk (o.r.take n) (Rp.take_has n ⟨o.ok, rfl⟩).1)
  (by intro x y h; funext n; have h : x.r.list = y.r.list := h; apply Ar.ext; show (x.r.take n).list = (y.r.take n).list; rw [(Rp.take_has n ⟨x.ok, rfl⟩).2, (Rp.take_has n ⟨y.ok, rfl⟩).2, h]) a n
theorem list_take (a : Ar) (n : Nat) : (a.take n).list = a.list.take n := by
  induction a using Quot.ind with
  | mk x => exact (Rp.take_has n ⟨x.ok, rfl⟩).2
noncomputable def drop (a : Ar) (n : Nat) : Ar := Quot.lift (fun (o : OR) (n : Nat) => Ar.mk (o.r.drop n) (Rp.drop_has n ⟨o.ok, rfl⟩).1)
  (by intro x y h; funext n; have h : x.r.list = y.r.list := h; apply Ar.ext; show (x.r.drop n).list = (y.r.drop n).list; rw [(Rp.drop_has n ⟨x.ok, rfl⟩).2, (Rp.drop_has n ⟨y.ok, rfl⟩).2, h]) a n
theorem list_drop (a : Ar) (n : Nat) : (a.drop n).list = a.list.drop n := by
  induction a using Quot.ind with
  | mk x => exact (Rp.drop_has n ⟨x.ok, rfl⟩).2
noncomputable def join (a b : Ar) : Ar := Quot.lift (fun (x : OR) (b : Ar) => Quot.lift (fun (y : OR) (x : OR) => Ar.mk (x.r.join y.r) (Rp.join_has ⟨x.ok, rfl⟩ ⟨y.ok, rfl⟩).1)
    (by intro y z h; funext x; have h : y.r.list = z.r.list := h; apply Ar.ext; show (x.r.join y.r).list = (x.r.join z.r).list; rw [(Rp.join_has ⟨x.ok, rfl⟩ ⟨y.ok, rfl⟩).2, (Rp.join_has ⟨x.ok, rfl⟩ ⟨z.ok, rfl⟩).2, h]) b x)
  (by intro x z h; funext b; have h : x.r.list = z.r.list := h
      induction b using Quot.ind with
      | mk y => apply Ar.ext; show (x.r.join y.r).list = (z.r.join y.r).list; rw [(Rp.join_has ⟨x.ok, rfl⟩ ⟨y.ok, rfl⟩).2, (Rp.join_has ⟨z.ok, rfl⟩ ⟨y.ok, rfl⟩).2, h]) a b
theorem list_join (a b : Ar) : (a.join b).list = a.list ++ b.list := by
  induction a using Quot.ind with
  | mk x =>
    induction b using Quot.ind with
    | mk y => exact (Rp.join_has ⟨x.ok, rfl⟩ ⟨y.ok, rfl⟩).2
noncomputable def leaf (l : List AVal) : Ar := Ar.mk (.lf (lenV l) l) (lenV_len l)
/-- a row of a list -/
noncomputable def ofS (l : List AVal) : Ar := Bool.rec (motive := fun _ => List AVal → Ar) Ar.of leaf (Nat.ble (lenV l) 32) l
theorem ofS_eq (l : List AVal) : ofS l = Ar.of l := by
  show Bool.rec (motive := fun _ => List AVal → Ar) Ar.of leaf (Nat.ble (lenV l) 32) l = _
  cases Nat.ble (lenV l) 32 with
  | false => rfl
  | true => apply Ar.ext; rw [list_of]; rfl
noncomputable def layO (o : OR) (off : Nat) (vs : List AVal) : Option Ar :=
  Bool.rec (motive := fun b => Nat.ble (Nat.add off vs.length) o.r.list.length = b → Option Ar) (fun _ => none)
    (fun h => some (Ar.mk (o.r.upd off vs vs.length) (Rp.upd_has off vs ⟨o.ok, rfl⟩ (Nat.le_of_ble_eq_true h)).1.1)) (Nat.ble (Nat.add off vs.length) o.r.list.length) rfl
/-- the same, reckoned fast -/
noncomputable def layQ (o : OR) (off : Nat) (vs : List AVal) : Option Ar :=
  Bool.rec (motive := fun b => Nat.ble (Nat.add off (lenV vs)) o.r.size = b → Option Ar) (fun _ => none)
    (fun h => some (Ar.mk (o.r.upd off vs (lenV vs)) (by
      rw [lenV_len] at h ⊢
      rw [Rp.size_eq o.ok] at h
      exact (Rp.upd_has off vs ⟨o.ok, rfl⟩ (Nat.le_of_ble_eq_true h)).1.1))) (Nat.ble (Nat.add off (lenV vs)) o.r.size) rfl
theorem bool_rec {γ : Type} {b : Bool} {f : b = false → γ} {g : b = true → γ} {p : γ → Prop} (hf : ∀ h, p (f h)) (hg : ∀ h, p (g h)) : p (Bool.rec (motive := fun c => b = c → γ) f g b rfl) := by
  cases b with
  | false => exact hf rfl
  | true => exact hg rfl
theorem layQ_eq (o : OR) (off : Nat) (vs : List AVal) : layQ o off vs = (lay off vs o.r.list).map Ar.of := by
  unfold layQ
  refine bool_rec (p := fun x => x = _) ?_ ?_
  · intro h
    cases hl : lay off vs o.r.list with
    | none => rfl
    | some r =>
      obtain ⟨h1, _⟩ := lay_eq.1 hl
      rw [lenV_len, Rp.size_eq o.ok] at h
      have := Nat.ble_eq_true_of_le h1
      rw [show Nat.ble (off + vs.length) o.r.list.length = Nat.ble (Nat.add off vs.length) o.r.list.length from rfl, h] at this; cases this
  · intro h
    have h2 := h
    rw [lenV_len, Rp.size_eq o.ok] at h2
    have h3 := Nat.le_of_ble_eq_true h2
    have h4 : lay off vs o.r.list = some (o.r.list.take off ++ vs ++ o.r.list.drop (off + vs.length)) := lay_eq.2 ⟨h3, rfl⟩
    rw [h4]
    show some _ = some _
    congr 1
    apply Ar.ext
    rw [list_of]
    show (o.r.upd off vs (lenV vs)).list = _
    rw [lenV_len]
    exact (Rp.upd_has off vs ⟨o.ok, rfl⟩ h3).1.2
noncomputable def lay (a : Ar) (off : Nat) (vs : List AVal) : Option Ar := Quot.lift (fun (o : OR) (off : Nat) (vs : List AVal) => layQ o off vs)
  (by intro x y h; funext off vs; have h : x.r.list = y.r.list := h; rw [layQ_eq, layQ_eq, h]) a off vs
theorem lay_eq' (a : Ar) (off : Nat) (vs : List AVal) : a.lay off vs = (Am.lay off vs a.list).map Ar.of := by
  induction a using Quot.ind with
  | mk x => exact layQ_eq x off vs
/-- a row laid over a row -/
noncomputable def layA (a : Ar) (off : Nat) (m : Ar) : Option Ar :=
  Bool.rec (motive := fun _ => Ar → Nat → Ar → Option Ar)
    (fun a off m => Bool.rec (motive := fun _ => Ar → Nat → Ar → Option Ar) (fun _ _ _ => none) (fun a off m => some ((a.take off).join (m.join (a.drop (Nat.add off m.size))))) (Nat.ble (Nat.add off m.size) a.size) a off m)
    (fun a off m => a.lay off m.list) (Nat.ble m.size 16) a off m
theorem layA_eq (a : Ar) (off : Nat) (m : Ar) : a.layA off m = (Am.lay off m.list a.list).map Ar.of := by
  unfold layA
  cases Nat.ble m.size 16 with
  | true => exact lay_eq' _ _ _
  | false =>
    show Bool.rec (motive := fun _ => Ar → Nat → Ar → Option Ar) (fun _ _ _ => none) (fun a off m => some ((a.take off).join (m.join (a.drop (Nat.add off m.size))))) (Nat.ble (Nat.add off m.size) a.size) a off m = _
    rw [size_eq, size_eq, Rp.ble_dec]
    by_cases h : off + m.list.length ≤ a.list.length
    · rw [show decide (Nat.add off m.list.length ≤ a.list.length) = true from decide_eq_true h, Am.lay_eq.2 ⟨h, rfl⟩]
      show some _ = some _
      congr 1
      apply Ar.ext
      rw [list_of, list_join, list_join, list_take, list_drop, size_eq, List.append_assoc]; rfl
    · rw [show decide (Nat.add off m.list.length ≤ a.list.length) = false from decide_eq_false h]
      cases hl : Am.lay off m.list a.list with
      | none => rfl
      | some r => exact absurd (Am.lay_eq.1 hl).1 h
end Ar
noncomputable def Rp.dbl (zs : List AVal) (r : Rp) (fuel : Nat) (n : Nat) : Rp := Nat.rec (motive := fun _ => Nat → Rp) (fun n => Rp.ofF 100000 (repl n zs))
  (fun _ ih n => Nat.rec (motive := fun _ => (Nat → Rp) → Nat → Rp) (fun _ _ => Rp.empty) (fun _ _ ih n => (fun h => Nat.rec (motive := fun _ => Rp → Rp) (fun h => h) (fun _ _ h => Rp.join h r) (Nat.mod n 2) (Rp.join h h)) (ih (Nat.div n 2))) n ih n) fuel n
theorem repl_add (zs : List AVal) (a b : Nat) : repl (a + b) zs = repl a zs ++ repl b zs := by rw [repl_eq, repl_eq, repl_eq, ← List.flatten_append, List.replicate_append_replicate]
theorem Rp.dbl_has {zs : List AVal} {r : Rp} (hr : r.Has zs) (fuel n : Nat) : (Rp.dbl zs r fuel n).Has (repl n zs) := by
  induction fuel generalizing n with
  | zero => show (Rp.ofF 100000 (repl n zs)).Has _; exact Rp.ofF_has 100000 _
  | succ f ih =>
    cases n with
    | zero => exact Rp.empty_has
    | succ n =>
      show (Nat.rec (motive := fun _ => Rp → Rp) (fun h => h) (fun _ _ h => Rp.join h r) ((n + 1) % 2) (Rp.join (Rp.dbl zs r f ((n + 1) / 2)) (Rp.dbl zs r f ((n + 1) / 2)))).Has _
      have h2 := Rp.join_has (ih ((n + 1) / 2)) (ih ((n + 1) / 2))
      have h1 : repl 1 zs = zs := by show app zs [] = zs; rw [app_eq, List.append_nil]
      rw [← repl_add] at h2
      rcases Nat.mod_two_eq_zero_or_one (n + 1) with e | e
      · rw [e]
        have h3 : (n + 1) / 2 + (n + 1) / 2 = n + 1 := by omega
        rw [h3] at h2
        exact h2
      · rw [e]
        have h3 := Rp.join_has h2 hr
        have h4 : repl ((n + 1) / 2 + (n + 1) / 2) zs ++ zs = repl (n + 1) zs := by
          have h5 := repl_add zs ((n + 1) / 2 + (n + 1) / 2) 1
          rw [h1, show (n + 1) / 2 + (n + 1) / 2 + 1 = n + 1 by omega] at h5
          exact h5.symm
        rw [h4] at h3
        exact h3
theorem lf_has (zs : List AVal) : (Rp.lf (lenV zs) zs).Has zs := ⟨lenV_len zs, rfl⟩
noncomputable def replA (n : Nat) (zs : List AVal) : Ar := Ar.mk (Rp.dbl zs (.lf (lenV zs) zs) 64 n) (Rp.dbl_has (lf_has zs) 64 n).1
theorem replA_eq (n : Nat) (zs : List AVal) : replA n zs = Ar.of (repl n zs) := by
  apply Ar.ext; rw [Ar.list_of]; exact (Rp.dbl_has (lf_has zs) 64 n).2

/-! ## numbers -/
noncomputable def kixF (k : IntKind) : Nat := IntKind.rec (motive := fun _ => Nat) 0 1 2 3 4 5 6 7 k
noncomputable def kmaxF (k : IntKind) : Nat := IntKind.rec (motive := fun _ => Nat) 127 32767 2147483647 9223372036854775807 255 65535 4294967295 18446744073709551615 k
noncomputable def keqF (a b : IntKind) : Bool := Nat.beq (kixF a) (kixF b)
theorem keqF_eq (a b : IntKind) : keqF a b = keq a b := rfl
theorem kmaxF_eq (a : IntKind) : kmaxF a = kmax a := rfl
noncomputable def wrNF (k : IntKind) (n : Nat) : Int := Bool.rec (motive := fun _ => IntKind → Nat → Int) (fun k n => k.wrap (Int.ofNat n)) (fun _ n => Int.ofNat n) (Nat.ble n (kmaxF k)) k n
theorem wrNF_eq (k : IntKind) (n : Nat) : wrNF k n = wrN k n := by
  show Bool.rec (motive := fun _ => IntKind → Nat → Int) (fun k n => k.wrap (Int.ofNat n)) (fun _ n => Int.ofNat n) (Nat.ble n (kmaxF k)) k n = iteB (Nat.ble n (kmax k)) (Int.ofNat n) (k.wrap (Int.ofNat n))
  rw [kmaxF_eq]; cases Nat.ble n (kmax k) <;> rfl
noncomputable def wrIF (k : IntKind) (z : Int) : Int := Int.rec (motive := fun _ => IntKind → Int) (fun n k => wrNF k n) (fun n k => wrI k (Int.negSucc n)) z k
theorem wrIF_eq (k : IntKind) (z : Int) : wrIF k z = wrI k z := by
  cases z with
  | ofNat n => exact wrNF_eq k n
  | negSucc n => rfl
noncomputable def nnI (a b : Int) (f : Nat → Nat → Int) (d : Int) : Int :=
  Int.rec (motive := fun _ => Int → (Nat → Nat → Int) → Int → Int) (fun a b f d => Int.rec (motive := fun _ => Nat → (Nat → Nat → Int) → Int → Int) (fun b a f _ => f a b) (fun _ _ _ d => d) b a f d) (fun _ _ _ d => d) a b f d
theorem nnI_eq (a b : Int) (f : Nat → Nat → Int) (d : Int) : nnI a b f d = natnat a b f d := by cases a <;> cases b <;> rfl
noncomputable def nnB (a b : Int) (f : Nat → Nat → Bool) (d : Bool) : Bool :=
  Int.rec (motive := fun _ => Int → (Nat → Nat → Bool) → Bool → Bool) (fun a b f d => Int.rec (motive := fun _ => Nat → (Nat → Nat → Bool) → Bool → Bool) (fun b a f _ => f a b) (fun _ _ _ d => d) b a f d) (fun _ _ _ d => d) a b f d
theorem nnB_eq (a b : Int) (f : Nat → Nat → Bool) (d : Bool) : nnB a b f d = natnat a b f d := by cases a <;> cases b <;> rfl
noncomputable def addN (k : IntKind) (a b : Nat) : Int := wrNF k (Nat.add a b)
noncomputable def iaddF (k : IntKind) (a b : Int) : Int := nnI a b (addN k) (wrI k (a + b))
theorem iaddF_eq (k : IntKind) (a b : Int) : iaddF k a b = iadd k a b := by
  unfold iaddF iadd; rw [nnI_eq]; congr 1; funext x y; exact wrNF_eq _ _
noncomputable def subN (k : IntKind) (a b : Nat) : Int := Bool.rec (motive := fun _ => IntKind → Nat → Nat → Int) (fun k a b => wrI k (Int.ofNat a - Int.ofNat b)) (fun k a b => wrNF k (Nat.sub a b)) (Nat.ble b a) k a b
noncomputable def isubF (k : IntKind) (a b : Int) : Int := nnI a b (subN k) (wrI k (a - b))
theorem isubF_eq (k : IntKind) (a b : Int) : isubF k a b = isub k a b := by
  unfold isubF isub; rw [nnI_eq]; congr 1; funext x y
  unfold subN
  cases Nat.ble y x with
  | true => exact wrNF_eq _ _
  | false => rfl
noncomputable def mulN (k : IntKind) (a b : Nat) : Int := wrNF k (Nat.mul a b)
noncomputable def imulF (k : IntKind) (a b : Int) : Int := nnI a b (mulN k) (wrI k (a * b))
theorem imulF_eq (k : IntKind) (a b : Int) : imulF k a b = imul k a b := by
  unfold imulF imul; rw [nnI_eq]; congr 1; funext x y; exact wrNF_eq _ _
noncomputable def ieqF (a b : Int) : Bool := nnB a b Nat.beq (a == b)
theorem ieqF_eq (a b : Int) : ieqF a b = ieq a b := nnB_eq _ _ _ _
noncomputable def ltN (a b : Nat) : Bool := Nat.ble (Nat.succ a) b
noncomputable def iltF (a b : Int) : Bool := nnB a b ltN (decide (a < b))
theorem iltF_eq (a b : Int) : iltF a b = ilt a b := nnB_eq _ _ _ _
noncomputable def ileF (a b : Int) : Bool := nnB a b Nat.ble (decide (a ≤ b))
theorem ileF_eq (a b : Int) : ileF a b = ile a b := nnB_eq _ _ _ _
noncomputable def notF (b : Bool) : Bool := Bool.rec (motive := fun _ => Bool) true false b
theorem notF_eq (b : Bool) : notF b = not b := by cases b <;> rfl
noncomputable def andF (b c : Bool) : Bool := Bool.rec (motive := fun _ => Bool → Bool) (fun _ => false) (fun c => c) b c
theorem andF_eq (b c : Bool) : andF b c = and b c := by cases b <;> rfl
noncomputable def orF (b c : Bool) : Bool := Bool.rec (motive := fun _ => Bool → Bool) (fun c => c) (fun _ => true) b c
theorem orF_eq (b c : Bool) : orF b c = or b c := by cases b <;> rfl
noncomputable def strEqF (n v m u : Nat) : Bool := andF (Nat.beq n m) (Nat.beq v u)
theorem strEqF_eq (n v m u : Nat) : strEqF n v m u = strEq n v m u := andF_eq _ _

/-! ## two operands -/
noncomputable def fAddI (k : IntKind) (a : Int) (k' : IntKind) (b : Int) : Option AVal := ifV (keqF k k') (some (.int k (iaddF k a b)))
noncomputable def fAddS (n v m u : Nat) : Option AVal := ifV (Nat.ble (Nat.add n m) 1000000000) (some (.str (Nat.add n m) (Nat.add (Nat.mul v (Nat.pow 256 m)) u)))
noncomputable def fAdd (x y : AVal) : Option AVal := (AVal.rec (motive_1 := fun _ => AVal → Option AVal) (motive_2 := fun _ => Unit) (fun _ => none) (fun _ => none) (fun _ => none) (fun _ => none) (fun _ => fun _ => none) (fun _ _ => fun _ => none) (fun _ _ _ => fun _ => none) (fun _ _ _ _ _ => fun _ => none) (fun _ => none) (fun _ => none) (fun _ _ => fun _ => none) (fun n v => fun y => strV y (fAddS n v)) (fun _ => fun _ => none) (fun _ _ _ _ _ => fun _ => none) (fun _ _ => fun _ => none) (fun k a => fun y => intV y (fAddI k a)) () (fun _ _ _ _ => ()) x) y
theorem fAdd_eq : fAdd = bAdd := by
  funext x y
  cases x with
  | int k a =>
    show intV y (fAddI k a) = onInt y _
    rw [intV_eq]; congr 1; funext k' b; unfold fAddI; rw [ifV_eq, keqF_eq]; simp only [iaddF_eq, isubF_eq, imulF_eq, ieqF_eq, iltF_eq, ileF_eq, notF_eq]
  | str n v =>
    show strV y (fAddS n v) = onStr y _
    rw [strV_eq]; first | rfl | (congr 1; funext m u; unfold fAddS; simp only [ifV_eq, orF_eq, notF_eq, strEqF_eq])
  | _ => rfl
noncomputable def fSubI (k : IntKind) (a : Int) (k' : IntKind) (b : Int) : Option AVal := ifV (keqF k k') (some (.int k (isubF k a b)))
noncomputable def fSubS (n v m u : Nat) : Option AVal := none
noncomputable def fSub (x y : AVal) : Option AVal := (AVal.rec (motive_1 := fun _ => AVal → Option AVal) (motive_2 := fun _ => Unit) (fun _ => none) (fun _ => none) (fun _ => none) (fun _ => none) (fun _ => fun _ => none) (fun _ _ => fun _ => none) (fun _ _ _ => fun _ => none) (fun _ _ _ _ _ => fun _ => none) (fun _ => none) (fun _ => none) (fun _ _ => fun _ => none) (fun n v => fun y => strV y (fSubS n v)) (fun _ => fun _ => none) (fun _ _ _ _ _ => fun _ => none) (fun _ _ => fun _ => none) (fun k a => fun y => intV y (fSubI k a)) () (fun _ _ _ _ => ()) x) y
theorem fSub_eq : fSub = bSub := by
  funext x y
  cases x with
  | int k a =>
    show intV y (fSubI k a) = onInt y _
    rw [intV_eq]; congr 1; funext k' b; unfold fSubI; rw [ifV_eq, keqF_eq]; simp only [iaddF_eq, isubF_eq, imulF_eq, ieqF_eq, iltF_eq, ileF_eq, notF_eq]
  | str n v =>
    show strV y (fSubS n v) = onStr y _
    rw [strV_eq]; first | rfl | (congr 1; funext m u; unfold fSubS; simp only [ifV_eq, orF_eq, notF_eq, strEqF_eq])
  | _ => rfl
noncomputable def fMulI (k : IntKind) (a : Int) (k' : IntKind) (b : Int) : Option AVal := ifV (keqF k k') (some (.int k (imulF k a b)))
noncomputable def fMulS (n v m u : Nat) : Option AVal := none
noncomputable def fMul (x y : AVal) : Option AVal := (AVal.rec (motive_1 := fun _ => AVal → Option AVal) (motive_2 := fun _ => Unit) (fun _ => none) (fun _ => none) (fun _ => none) (fun _ => none) (fun _ => fun _ => none) (fun _ _ => fun _ => none) (fun _ _ _ => fun _ => none) (fun _ _ _ _ _ => fun _ => none) (fun _ => none) (fun _ => none) (fun _ _ => fun _ => none) (fun n v => fun y => strV y (fMulS n v)) (fun _ => fun _ => none) (fun _ _ _ _ _ => fun _ => none) (fun _ _ => fun _ => none) (fun k a => fun y => intV y (fMulI k a)) () (fun _ _ _ _ => ()) x) y
theorem fMul_eq : fMul = bMul := by
  funext x y
  cases x with
  | int k a =>
    show intV y (fMulI k a) = onInt y _
    rw [intV_eq]; congr 1; funext k' b; unfold fMulI; rw [ifV_eq, keqF_eq]; simp only [iaddF_eq, isubF_eq, imulF_eq, ieqF_eq, iltF_eq, ileF_eq, notF_eq]
  | str n v =>
    show strV y (fMulS n v) = onStr y _
    rw [strV_eq]; first | rfl | (congr 1; funext m u; unfold fMulS; simp only [ifV_eq, orF_eq, notF_eq, strEqF_eq])
  | _ => rfl
noncomputable def fLssI (k : IntKind) (a : Int) (k' : IntKind) (b : Int) : Option AVal := ifV (keqF k k') (some (.bool (iltF a b)))
noncomputable def fLssS (n v m u : Nat) : Option AVal := some (.bool (strLess n v m u))
noncomputable def fLss (x y : AVal) : Option AVal := (AVal.rec (motive_1 := fun _ => AVal → Option AVal) (motive_2 := fun _ => Unit) (fun _ => none) (fun _ => none) (fun _ => none) (fun _ => none) (fun _ => fun _ => none) (fun _ _ => fun _ => none) (fun _ _ _ => fun _ => none) (fun _ _ _ _ _ => fun _ => none) (fun _ => none) (fun _ => none) (fun _ _ => fun _ => none) (fun n v => fun y => strV y (fLssS n v)) (fun _ => fun _ => none) (fun _ _ _ _ _ => fun _ => none) (fun _ _ => fun _ => none) (fun k a => fun y => intV y (fLssI k a)) () (fun _ _ _ _ => ()) x) y
theorem fLss_eq : fLss = bLss := by
  funext x y
  cases x with
  | int k a =>
    show intV y (fLssI k a) = onInt y _
    rw [intV_eq]; congr 1; funext k' b; unfold fLssI; rw [ifV_eq, keqF_eq]; simp only [iaddF_eq, isubF_eq, imulF_eq, ieqF_eq, iltF_eq, ileF_eq, notF_eq]
  | str n v =>
    show strV y (fLssS n v) = onStr y _
    rw [strV_eq]; first | rfl | (congr 1; funext m u; unfold fLssS; simp only [ifV_eq, orF_eq, notF_eq, strEqF_eq])
  | _ => rfl
noncomputable def fLeqI (k : IntKind) (a : Int) (k' : IntKind) (b : Int) : Option AVal := ifV (keqF k k') (some (.bool (ileF a b)))
noncomputable def fLeqS (n v m u : Nat) : Option AVal := some (.bool (orF (strLess n v m u) (strEqF n v m u)))
noncomputable def fLeq (x y : AVal) : Option AVal := (AVal.rec (motive_1 := fun _ => AVal → Option AVal) (motive_2 := fun _ => Unit) (fun _ => none) (fun _ => none) (fun _ => none) (fun _ => none) (fun _ => fun _ => none) (fun _ _ => fun _ => none) (fun _ _ _ => fun _ => none) (fun _ _ _ _ _ => fun _ => none) (fun _ => none) (fun _ => none) (fun _ _ => fun _ => none) (fun n v => fun y => strV y (fLeqS n v)) (fun _ => fun _ => none) (fun _ _ _ _ _ => fun _ => none) (fun _ _ => fun _ => none) (fun k a => fun y => intV y (fLeqI k a)) () (fun _ _ _ _ => ()) x) y
theorem fLeq_eq : fLeq = bLeq := by
  funext x y
  cases x with
  | int k a =>
    show intV y (fLeqI k a) = onInt y _
    rw [intV_eq]; congr 1; funext k' b; unfold fLeqI; rw [ifV_eq, keqF_eq]; simp only [iaddF_eq, isubF_eq, imulF_eq, ieqF_eq, iltF_eq, ileF_eq, notF_eq]
  | str n v =>
    show strV y (fLeqS n v) = onStr y _
    rw [strV_eq]; first | rfl | (congr 1; funext m u; unfold fLeqS; simp only [ifV_eq, orF_eq, notF_eq, strEqF_eq])
  | _ => rfl
noncomputable def fGtrI (k : IntKind) (a : Int) (k' : IntKind) (b : Int) : Option AVal := ifV (keqF k k') (some (.bool (iltF b a)))
noncomputable def fGtrS (n v m u : Nat) : Option AVal := some (.bool (notF (orF (strLess n v m u) (strEqF n v m u))))
noncomputable def fGtr (x y : AVal) : Option AVal := (AVal.rec (motive_1 := fun _ => AVal → Option AVal) (motive_2 := fun _ => Unit) (fun _ => none) (fun _ => none) (fun _ => none) (fun _ => none) (fun _ => fun _ => none) (fun _ _ => fun _ => none) (fun _ _ _ => fun _ => none) (fun _ _ _ _ _ => fun _ => none) (fun _ => none) (fun _ => none) (fun _ _ => fun _ => none) (fun n v => fun y => strV y (fGtrS n v)) (fun _ => fun _ => none) (fun _ _ _ _ _ => fun _ => none) (fun _ _ => fun _ => none) (fun k a => fun y => intV y (fGtrI k a)) () (fun _ _ _ _ => ()) x) y
theorem fGtr_eq : fGtr = bGtr := by
  funext x y
  cases x with
  | int k a =>
    show intV y (fGtrI k a) = onInt y _
    rw [intV_eq]; congr 1; funext k' b; unfold fGtrI; rw [ifV_eq, keqF_eq]; simp only [iaddF_eq, isubF_eq, imulF_eq, ieqF_eq, iltF_eq, ileF_eq, notF_eq]
  | str n v =>
    show strV y (fGtrS n v) = onStr y _
    rw [strV_eq]; first | rfl | (congr 1; funext m u; unfold fGtrS; simp only [ifV_eq, orF_eq, notF_eq, strEqF_eq])
  | _ => rfl
noncomputable def fGeqI (k : IntKind) (a : Int) (k' : IntKind) (b : Int) : Option AVal := ifV (keqF k k') (some (.bool (ileF b a)))
noncomputable def fGeqS (n v m u : Nat) : Option AVal := some (.bool (notF (strLess n v m u)))
noncomputable def fGeq (x y : AVal) : Option AVal := (AVal.rec (motive_1 := fun _ => AVal → Option AVal) (motive_2 := fun _ => Unit) (fun _ => none) (fun _ => none) (fun _ => none) (fun _ => none) (fun _ => fun _ => none) (fun _ _ => fun _ => none) (fun _ _ _ => fun _ => none) (fun _ _ _ _ _ => fun _ => none) (fun _ => none) (fun _ => none) (fun _ _ => fun _ => none) (fun n v => fun y => strV y (fGeqS n v)) (fun _ => fun _ => none) (fun _ _ _ _ _ => fun _ => none) (fun _ _ => fun _ => none) (fun k a => fun y => intV y (fGeqI k a)) () (fun _ _ _ _ => ()) x) y
theorem fGeq_eq : fGeq = bGeq := by
  funext x y
  cases x with
  | int k a =>
    show intV y (fGeqI k a) = onInt y _
    rw [intV_eq]; congr 1; funext k' b; unfold fGeqI; rw [ifV_eq, keqF_eq]; simp only [iaddF_eq, isubF_eq, imulF_eq, ieqF_eq, iltF_eq, ileF_eq, notF_eq]
  | str n v =>
    show strV y (fGeqS n v) = onStr y _
    rw [strV_eq]; first | rfl | (congr 1; funext m u; unfold fGeqS; simp only [ifV_eq, orF_eq, notF_eq, strEqF_eq])
  | _ => rfl
noncomputable def fEqlI (k : IntKind) (a : Int) (k' : IntKind) (b : Int) : Option AVal := ifV (keqF k k') (some (.bool (ieqF a b)))
noncomputable def fEqlS (n v m u : Nat) : Option AVal := some (.bool (strEqF n v m u))
noncomputable def fEqlD (nn : Bool) (tk : TK) (x y : AVal) : Option AVal := onOpt (eqAny nn tk x y) fun t => some (.bool (t))
noncomputable def fEql (nn : Bool) (tk : TK) (x y : AVal) : Option AVal := (AVal.rec (motive_1 := fun _ => Bool → TK → AVal → AVal → Option AVal) (motive_2 := fun _ => Unit) (fEqlD) (fEqlD) (fEqlD) (fEqlD) (fun _ => fEqlD) (fun _ _ => fEqlD) (fun _ _ _ => fEqlD) (fun _ _ _ _ _ => fEqlD) (fEqlD) (fEqlD) (fun _ _ => fEqlD) (fun n v => fun _ _ _ y => strV y (fEqlS n v)) (fun _ => fEqlD) (fun _ _ _ _ _ => fEqlD) (fun _ _ => fEqlD) (fun k a => fun _ _ _ y => intV y (fEqlI k a)) () (fun _ _ _ _ => ()) x) nn tk x y
theorem fEql_eq : fEql = bEql := by
  funext nn tk x y
  cases x with
  | int k a =>
    show intV y (fEqlI k a) = onInt y _
    rw [intV_eq]; congr 1; funext k' b; unfold fEqlI; rw [ifV_eq, keqF_eq]; simp only [ieqF_eq, notF_eq]
  | str n v =>
    show strV y (fEqlS n v) = onStr y _
    rw [strV_eq]; congr 1; funext m u; unfold fEqlS; simp only [notF_eq, strEqF_eq]
  | _ => rfl
noncomputable def fNeqI (k : IntKind) (a : Int) (k' : IntKind) (b : Int) : Option AVal := ifV (keqF k k') (some (.bool (notF (ieqF a b))))
noncomputable def fNeqS (n v m u : Nat) : Option AVal := some (.bool (notF (strEqF n v m u)))
noncomputable def fNeqD (nn : Bool) (tk : TK) (x y : AVal) : Option AVal := onOpt (eqAny nn tk x y) fun t => some (.bool (not t))
noncomputable def fNeq (nn : Bool) (tk : TK) (x y : AVal) : Option AVal := (AVal.rec (motive_1 := fun _ => Bool → TK → AVal → AVal → Option AVal) (motive_2 := fun _ => Unit) (fNeqD) (fNeqD) (fNeqD) (fNeqD) (fun _ => fNeqD) (fun _ _ => fNeqD) (fun _ _ _ => fNeqD) (fun _ _ _ _ _ => fNeqD) (fNeqD) (fNeqD) (fun _ _ => fNeqD) (fun n v => fun _ _ _ y => strV y (fNeqS n v)) (fun _ => fNeqD) (fun _ _ _ _ _ => fNeqD) (fun _ _ => fNeqD) (fun k a => fun _ _ _ y => intV y (fNeqI k a)) () (fun _ _ _ _ => ()) x) nn tk x y
theorem fNeq_eq : fNeq = bNeq := by
  funext nn tk x y
  cases x with
  | int k a =>
    show intV y (fNeqI k a) = onInt y _
    rw [intV_eq]; congr 1; funext k' b; unfold fNeqI; rw [ifV_eq, keqF_eq]; simp only [ieqF_eq, notF_eq]
  | str n v =>
    show strV y (fNeqS n v) = onStr y _
    rw [strV_eq]; congr 1; funext m u; unfold fNeqS; simp only [notF_eq, strEqF_eq]
  | _ => rfl

/-! ## other operations on values -/
noncomputable def fNot (x : AVal) : Option AVal := boolV x fun b => some (.bool (notF b))
theorem fNot_eq : fNot = uNot := by funext x; unfold fNot uNot; rw [boolV_eq]; simp only [notF_eq]
noncomputable def pickF (a b : AVal) (t : Bool) : Option AVal := some (Bool.rec (motive := fun _ => AVal) b a t)
noncomputable def fPick (c a b : AVal) : Option AVal := boolV c (pickF a b)
theorem fPick_eq : fPick = oPick := by funext c a b; unfold fPick oPick; rw [boolV_eq]; rfl
noncomputable def fInt (k : IntKind) (x : AVal) : Option AVal := intV x fun _ n => some (.int k (wrIF k n))
theorem fInt_eq : fInt = oInt := by funext k x; unfold fInt oInt; rw [intV_eq]; simp only [wrIF_eq]
noncomputable def fExt (i : Nat) (x : AVal) : Option AVal := tupV x fun l => nthV l i
theorem fExt_eq : fExt = oExt := by funext i x; unfold fExt oExt; rw [tupV_eq]; simp only [nthV_eq]
noncomputable def fFad (o : Nat) (x : AVal) : Option AVal := ptrV x fun id off => some (.ptr id (Nat.add off o))
theorem fFad_eq : fFad = oFad := by funext i x; unfold fFad oFad; rw [ptrV_eq]
noncomputable def fFld1 (o : Nat) (x : AVal) : Option AVal := aggV x fun l => nthV l o
theorem fFld1_eq : fFld1 = oFld1 := by funext i x; unfold fFld1 oFld1; rw [aggV_eq]; simp only [nthV_eq]
noncomputable def someAgg (l : List AVal) : Option AVal := some (.agg l)
noncomputable def fFldN (o n : Nat) (x : AVal) : Option AVal := aggV x fun l => lisV (takeV n (dropV o l)) someAgg
theorem fFldN_eq : fFldN = oFldN := by funext o n x; unfold fFldN oFldN; rw [aggV_eq]; simp only [lisV_eq, takeV_eq, dropV_eq]; rfl
noncomputable def iaS (size id off len i : Nat) : Option AVal := ifV (Nat.ble (Nat.succ i) len) (some (.ptr id (Nat.add off (Nat.mul i size))))
noncomputable def fIaS (size : Nat) (x i : AVal) : Option AVal := slcV x none fun id off len _ _ => natV i (iaS size id off len)
theorem fIaS_eq : fIaS = oIaS := by
  funext s x i; unfold fIaS oIaS; rw [slcV_eq]; congr 1; funext id off len _ _
  rw [natV_eq]; congr 1; funext j; exact ifV_eq _ _
noncomputable def fIaA (len size : Nat) (x i : AVal) : Option AVal := ptrV x fun id off => natV i (iaS size id off len)
theorem fIaA_eq : fIaA = oIaA := by
  funext n s x i; unfold fIaA oIaA; rw [ptrV_eq]; congr 1; funext id off
  rw [natV_eq]; congr 1; funext j; exact ifV_eq _ _
noncomputable def fIx1 (len size : Nat) (x i : AVal) : Option AVal := aggV x fun l => natV i fun i => ifV (Nat.ble (Nat.succ i) len) (nthV l (Nat.mul i size))
theorem fIx1_eq : fIx1 = oIx1 := by
  funext n s x i; unfold fIx1 oIx1; rw [aggV_eq]; congr 1; funext l
  rw [natV_eq]; congr 1; funext j; rw [ifV_eq, nthV_eq]
noncomputable def fIxS (x i : AVal) : Option AVal := strV x fun n v => natV i fun i => ifV (Nat.ble (Nat.succ i) n) (some (.int .u8 (Int.ofNat (strIx n v i))))
theorem fIxS_eq : fIxS = oIxS := by
  funext x i; unfold fIxS oIxS; rw [strV_eq]; congr 1; funext n v
  rw [natV_eq]; congr 1; funext j; exact ifV_eq _ _
noncomputable def fLenS (x : AVal) : Option AVal := strV x fun n _ => some (.int .i64 (Int.ofNat n))
theorem fLenS_eq : fLenS = oLenS := by funext x; unfold fLenS oLenS; rw [strV_eq]
noncomputable def fLenV (x : AVal) : Option AVal := slcV x (some (.int .i64 (Int.ofNat 0))) fun _ _ n _ _ => some (.int .i64 (Int.ofNat n))
theorem fLenV_eq : fLenV = oLenV := by funext x; unfold fLenV oLenV; rw [slcV_eq]
noncomputable def fNilchk (x : AVal) : Option AVal := (AVal.rec (motive_1 := fun _ => AVal → Option AVal) (motive_2 := fun _ => Unit) (fun _ => none) (fun _ => none) (fun _ => none) (fun v => some v) (fun _ => fun v => some v) (fun _ _ => fun v => some v) (fun _ _ _ => fun v => some v) (fun f _ _ _ _ => fun v => Fn.rec (motive := fun _ => AVal → Option AVal) (fun _ v => some v) (fun _ _ => none) (fun _ _ v => some v) (fun _ _ _ _ v => some v) (fun _ v => some v) f v) (fun v => some v) (fun _ => none) (fun _ _ => fun v => some v) (fun _ _ => fun v => some v) (fun _ => fun v => some v) (fun _ _ _ _ _ => fun v => some v) (fun _ _ => fun v => some v) (fun _ _ => fun v => some v) () (fun _ _ _ _ => ()) x) x
theorem fNilchk_eq : fNilchk = oNilchk := by
  funext x
  cases x <;> first | rfl | (rename_i f _ _; cases f <;> rfl)
noncomputable def bldF (zs : List AVal) (pos : List (Nat × Nat)) : List AVal → Option (List AVal) :=
  List.rec (motive := fun _ => List AVal → List AVal → Option (List AVal)) (fun zs l => List.rec (motive := fun _ => List AVal → Option (List AVal)) (fun zs => some zs) (fun _ _ _ _ => none) l zs)
    (fun p _ ih zs l => List.rec (motive := fun _ => (Nat × Nat) → (List AVal → List AVal → Option (List AVal)) → List AVal → Option (List AVal)) (fun _ _ _ => none)
      (fun v l _ p ih zs => wcL v fun cs => ifL (Nat.beq (lenV cs) p.2) (lisL (layV p.1 cs zs) fun zs => ih zs l)) l p ih zs) pos zs
theorem bldF_eq (zs : List AVal) (pos : List (Nat × Nat)) (l : List AVal) : bldF zs pos l = oBuild zs pos l := by
  induction pos generalizing zs l with
  | nil => cases l <;> rfl
  | cons p pos ih =>
    cases l with
    | nil => rfl
    | cons v l =>
      show wcL v (fun cs => ifL (Nat.beq (lenV cs) p.2) (lisL (layV p.1 cs zs) fun zs => bldF zs pos l)) = withCells v fun cs => ifB (Nat.beq (lenL cs) p.2) (onOpt (lay p.1 cs zs) fun zs => oBuild zs pos l)
      rw [wcL_eq]; congr 1; funext cs
      rw [ifL_eq, lisL_eq, layV_eq, lenV_eq]; congr 2; funext zs'; exact ih _ _
noncomputable def fAgg (zs : List AVal) (pos : List (Nat × Nat)) (l : List AVal) : Option AVal := lisV (bldF zs pos l) someAgg
theorem fAgg_eq : fAgg = oAgg := by funext zs pos l; unfold fAgg oAgg; rw [lisV_eq, bldF_eq]; rfl

/-! ## reading -/
noncomputable def ld1F (H : Heap) (id off : Nat) : Option AVal := objV (H.obj id) fun o => blkV o fun a _ _ _ _ => a.nth off
theorem ld1F_eq (H : Heap) (id off : Nat) : ld1F H id off = load1 H id off := by
  unfold ld1F load1; rw [objV_eq]; congr 1; funext o; exact blkV_eq _ _ _ fun a _ _ _ _ => by rw [Ar.nth_eq, nth_eq]
noncomputable def cutF (a : Ar) (off n : Nat) : Option (List AVal) := ifL (Nat.ble n (Nat.sub a.size off)) (some (a.sub off n))
theorem cutF_eq (a : Ar) (off n : Nat) : cutF a off n = takeL n (dropL off a.list) := by
  unfold cutF
  rw [ifL_eq, Ar.size_eq, Ar.sub_eq, dropL_eq, Rp.ble_dec]
  have hl : (a.list.drop off).length = a.list.length - off := List.length_drop
  by_cases h : n ≤ a.list.length - off
  · rw [show decide (n ≤ Nat.sub a.list.length off) = true from decide_eq_true h, takeL_eq.2 ⟨by omega, rfl⟩]; rfl
  · rw [show decide (n ≤ Nat.sub a.list.length off) = false from decide_eq_false h]
    cases ht : takeL n (a.list.drop off) with
    | none => rfl
    | some r => have := (takeL_eq.1 ht).1; omega
noncomputable def ldNF (H : Heap) (id off n : Nat) : Option (List AVal) := objL (H.obj id) fun o => blkL o fun a _ _ _ _ => cutF a off n
theorem ldNF_eq (H : Heap) (id off n : Nat) : ldNF H id off n = loadN H id off n := by
  unfold ldNF loadN; rw [objL_eq]; congr 1; funext o; exact blkL_eq _ _ _ fun a _ _ _ _ => cutF_eq _ _ _
noncomputable def fLd1 (x : AVal) (H : Heap) : Option AVal := ptrV x (ld1F H)
theorem fLd1_eq : fLd1 = oLd1 := by funext x H; unfold fLd1 oLd1; rw [ptrV_eq]; congr 1; funext id off; exact ld1F_eq _ _ _
noncomputable def fLdN (n : Nat) (x : AVal) (H : Heap) : Option AVal := ptrV x fun id off => lisV (ldNF H id off n) someAgg
theorem fLdN_eq : fLdN = oLdN := by funext n x H; unfold fLdN oLdN; rw [ptrV_eq]; congr 1; funext id off; rw [lisV_eq, ldNF_eq]; rfl
noncomputable def fB2s (x : AVal) (H : Heap) : Option AVal :=
  slcV x (some (.str 0 0)) fun id off len _ _ => lisV (ldNF H id off len) fun l => onOpt (bytesOf l) fun p => some (.str p.1 p.2)
theorem fB2s_eq : fB2s = oB2s := by
  funext x H; unfold fB2s oB2s; rw [slcV_eq]; congr 1; funext id off len _ _; rw [lisV_eq, ldNF_eq]

/-! ## new memory -/
noncomputable def blkF (cs : List AVal) (elem : TypeId) : AObj := .blk (Ar.ofS cs) elem false true (some 0)
theorem blkF_eq (cs : List AVal) (elem : TypeId) : blkF cs elem = .cells cs elem false true (some 0) := by unfold blkF AObj.cells; rw [Ar.ofS_eq]
noncomputable def fNew (elem : TypeId) (zs : List AVal) (_ : List AVal) : Made := some (blkF zs elem, fun id => .ptr id 0)
theorem fNew_eq : fNew = aNew := by funext e zs l; unfold fNew aNew; rw [blkF_eq]
noncomputable def boxF (elem : TypeId) (sz : Nat) (cs : List AVal) : Option (AObj × (Nat → AVal)) := ifM (Nat.beq (lenV cs) sz) (some (blkF cs elem, fun id => .ptr id 0))
noncomputable def fBox (elem : TypeId) (sz : Nat) (x : AVal) : Made := wcM x (boxF elem sz)
theorem fBox_eq : fBox = aBox := by
  funext e sz x; unfold fBox aBox; rw [wcM_eq]; congr 1; funext cs; unfold boxF; rw [ifM_eq, lenV_eq, blkF_eq]
noncomputable def fSlice (elem : TypeId) (len : Nat) (zs : List AVal) (pos : List (Nat × Nat)) (l : List AVal) : Made :=
  lisM (bldF zs pos l) fun cs => some (blkF cs elem, fun id => .slc id 0 len len 0)
theorem fSlice_eq : fSlice = aSlice := by funext e n zs pos l; unfold fSlice aSlice; rw [lisM_eq, bldF_eq]; simp only [blkF_eq]
noncomputable def mkF (elem : TypeId) (bytes : Nat) (zs : List AVal) (l c : Nat) : Made := ifM (andF (Nat.ble l c) (andF (Nat.ble (Nat.mul bytes c) 140737488355328) (Nat.ble c 140737488355328)))
    (some (.blk (replA c zs) elem false true (some 0), fun id => .slc id 0 l c 0))
noncomputable def fMake (elem : TypeId) (bytes : Nat) (zs : List AVal) (l c : AVal) : Made := natM l fun l => natM c (mkF elem bytes zs l)
theorem fMake_eq : fMake = aMake := by
  funext e b zs l c; unfold fMake aMake; rw [natM_eq]; congr 1; funext l; rw [natM_eq]; congr 1; funext c
  unfold mkF; rw [ifM_eq, andF_eq, andF_eq, replA_eq]; rfl

/-! ## writing -/
noncomputable def freeF (fro : Option Nat) (off : Nat) : Bool := Option.rec (motive := fun _ => Nat → Bool) (fun _ => true) (fun f off => Nat.ble f off) fro off
theorem freeF_eq (fro : Option Nat) (off : Nat) : freeF fro off = free fro off := by cases fro <;> rfl
theorem arH_eq (H : Heap) (id off : Nat) (e : TypeId) (p w : Bool) (q : Option Nat) (l : Option (List AVal)) : arH (l.map Ar.of) (fun a => some (H.set id (some (.blk a e p w q)))) = onOpt l fun l => some (H.set id (some (.cells l e p w q))) := by
  cases l <;> rfl
noncomputable def stoF (H : Heap) (id off : Nat) (vs : List AVal) : Option Heap :=
  objH (H.obj id) fun o => blkH o fun a e p w q => ifH (andF w (freeF q off)) (arH (a.lay off vs) fun a => some (H.set id (some (.blk a e p w q))))
theorem stoF_eq (H : Heap) (id off : Nat) (vs : List AVal) : stoF H id off vs = storeN H id off vs := by
  unfold stoF storeN; rw [objH_eq]; congr 1; funext o
  exact blkH_eq _ _ _ fun a e p w q => by rw [ifH_eq, andF_eq, freeF_eq, Ar.lay_eq', arH_eq H id off]
noncomputable def stoA (H : Heap) (id off : Nat) (m : Ar) : Option Heap :=
  objH (H.obj id) fun o => blkH o fun a e p w q => ifH (andF w (freeF q off)) (arH (a.layA off m) fun a => some (H.set id (some (.blk a e p w q))))
theorem stoA_eq (H : Heap) (id off : Nat) (m : Ar) : stoA H id off m = storeN H id off m.list := by
  unfold stoA storeN; rw [objH_eq]; congr 1; funext o
  exact blkH_eq _ _ _ fun a e p w q => by rw [ifH_eq, andF_eq, freeF_eq, Ar.layA_eq, arH_eq H id off]
noncomputable def doneF (H : Heap) : Option (AVal × Heap) := some (.tup [], H)
noncomputable def fSt (n : Nat) (a v : AVal) (H : Heap) : Res := ptrR a fun id off => wcR v fun cs => ifR (Nat.beq (lenV cs) n) (hpR (stoF H id off cs) doneF)
theorem fSt_eq : fSt = oSt := by
  funext n a v H; unfold fSt oSt; rw [ptrR_eq]; congr 1; funext id off; rw [wcR_eq]; congr 1; funext cs; rw [ifR_eq, hpR_eq, stoF_eq, lenV_eq]; rfl
noncomputable def cutA (a : Ar) (off n : Nat) (k : Ar → Res) : Res := ifR (Nat.ble n (Nat.sub a.size off)) (k ((a.drop off).take n))
theorem cutA_eq (a : Ar) (off n : Nat) (k : Ar → Res) (g : List AVal → Res) (h : ∀ x, k x = g x.list) : cutA a off n k = onOpt (takeL n (dropL off a.list)) g := by
  unfold cutA
  rw [ifR_eq, Ar.size_eq, dropL_eq, Rp.ble_dec, h, Ar.list_take, Ar.list_drop]
  have hl : (a.list.drop off).length = a.list.length - off := List.length_drop
  by_cases hc : n ≤ a.list.length - off
  · rw [show decide (n ≤ Nat.sub a.list.length off) = true from decide_eq_true hc, takeL_eq.2 ⟨by omega, rfl⟩]; rfl
  · rw [show decide (n ≤ Nat.sub a.list.length off) = false from decide_eq_false hc]
    cases ht : takeL n (a.list.drop off) with
    | none => rfl
    | some r => have := (takeL_eq.1 ht).1; omega
noncomputable def ldA (H : Heap) (id off n : Nat) (k : Ar → Res) : Res := objR (H.obj id) fun o => blkR o fun a _ _ _ _ => cutA a off n k
theorem ldA_eq (H : Heap) (id off n : Nat) (k : Ar → Res) (g : List AVal → Res) (h : ∀ x, k x = g x.list) : ldA H id off n k = onOpt (loadN H id off n) g := by
  unfold ldA loadN
  rw [objR_eq]
  cases H.obj id with
  | none => rfl
  | some o =>
    show blkR o (fun a _ _ _ _ => cutA a off n k) = onOpt (onCells o fun l _ _ _ _ => takeL n (dropL off l)) g
    cases o with
    | blk a e p w q => exact cutA_eq a off n k g h
    | _ => rfl
noncomputable def srcF (H : Heap) (size : Nat) (y : AVal) (k : Nat → Ar → Res) : Res := (AVal.rec (motive_1 := fun _ => Heap → Nat → (Nat → Ar → Res) → Res) (motive_2 := fun _ => Unit) (fun _ _ _ => none) (fun _ _ _ => none) (fun _ _ _ => none) (fun _ _ _ => none) (fun _ => fun _ _ _ => none) (fun _ _ => fun _ _ _ => none) (fun _ _ _ => fun _ _ _ => none) (fun _ _ _ _ _ => fun _ _ _ => none) (fun _ _ k => k 0 (Ar.leaf [])) (fun _ _ _ => none) (fun _ _ => fun _ _ _ => none) (fun n v => fun _ size k => ifR (Nat.beq size 1) (k n (Ar.ofS (cellsOfStr n v)))) (fun _ => fun _ _ _ => none) (fun id off len _ _ => fun H size k => ldA H id off (Nat.mul len size) (k len)) (fun _ _ => fun _ _ _ => none) (fun _ _ => fun _ _ _ => none) () (fun _ _ _ _ => ()) y) H size k
theorem srcF_eq (H : Heap) (size : Nat) (y : AVal) (k : Nat → Ar → Res) (g : Nat → List AVal → Res) (h : ∀ n x, k n x = g n x.list) : srcF H size y k = src H size y g := by
  cases y with
  | str n v =>
    show ifR (Nat.beq size 1) (k n (Ar.ofS (cellsOfStr n v))) = ifB (Nat.beq size 1) (g n (cellsOfStr n v))
    rw [ifR_eq, h, Ar.ofS_eq, Ar.list_of]
  | slc id off len a b => exact ldA_eq H id off _ (k len) _ (h len)
  | nils => exact h 0 (Ar.leaf [])
  | _ => rfl
noncomputable def iteR (b : Bool) (x y : Res) : Res := Bool.rec (motive := fun _ => Res → Res → Res) (fun _ y => y) (fun x _ => x) b x y
theorem iteR_eq (b : Bool) (x y : Res) : iteR b x y = iteB b x y := by cases b <;> rfl
noncomputable def mkOpA (H : Heap) (elem : TypeId) (size : Nat) (fro : Option Nat) (need : Nat) (a : Ar) : Res :=
  some (.slc H.next 0 need need (Nat.succ size), H.new (.blk a elem true true fro))
theorem mkOpA_eq (H : Heap) (elem : TypeId) (size : Nat) (fro : Option Nat) (need : Nat) (a : Ar) : mkOpA H elem size fro need a = mkOpen H elem size fro need a.list := by
  unfold mkOpA mkOpen AObj.cells; rw [Ar.of_list]
noncomputable def app0 (elem : TypeId) (size bytes : Nat) (H : Heap) (n : Nat) (new : Ar) : Res := iteR (Nat.beq n 0) (some (.nils, H)) (ifR (roomy n bytes) (mkOpA H elem size (some 0) n new))
noncomputable def app2 (elem : TypeId) (size bytes : Nat) (H : Heap) (n : Nat) (new : Ar) (id off len cap e : Nat) : Res :=
  ifR (roomy (Nat.add len n) bytes) (ldA H id off (Nat.mul len size) fun old => iteR (Nat.beq e 0)
        (mkOpA H elem size (some 0) (Nat.add len n) (old.join new))
        (ifR (Nat.beq e (Nat.succ size)) (objR (H.obj id) fun o => blkR o fun _ el p w q => ifR (andF w (andF (Nat.beq el elem) (freeF q (Nat.add off (Nat.mul len size)))))
          (mkOpA (H.set id none) elem size (froSub q off) (Nat.add len n) (old.join new)))))
noncomputable def app1 (elem : TypeId) (size bytes : Nat) (H : Heap) (n : Nat) (new : Ar) (id off len cap e : Nat) : Res := iteR (Nat.ble (Nat.add len n) cap)
      (hpR (stoA H id (Nat.add off (Nat.mul len size)) new) fun H => some (.slc id off (Nat.add len n) cap e, H))
      (app2 elem size bytes H n new id off len cap e)
noncomputable def fApp (elem : TypeId) (size bytes : Nat) (x y : AVal) (H : Heap) : Res := srcF H size y fun n new => slcR x (app0 elem size bytes H n new) (app1 elem size bytes H n new)
theorem fApp_eq : fApp = oApp := by
  funext elem size bytes x y H
  unfold fApp oApp
  refine srcF_eq H size y _ _ fun n new => ?_
  rw [slcR_eq]
  congr 1
  · unfold app0; rw [iteR_eq, ifR_eq, mkOpA_eq]
  · funext id off len cap e
    unfold app1 app2
    rw [iteR_eq, hpR_eq, stoA_eq, ifR_eq]
    congr 1
    congr 1
    refine ldA_eq H id off _ _ _ fun old => ?_
    rw [iteR_eq, ifR_eq, objR_eq, mkOpA_eq, Ar.list_join, app_eq]
    congr 1
    congr 1
    congr 1; funext o
    refine blkR_eq _ _ _ fun a el p w q => ?_
    rw [ifR_eq, andF_eq, andF_eq, freeF_eq, mkOpA_eq, Ar.list_join]

noncomputable def cpy1 (size : Nat) (H : Heap) (l : Ar) (id off : Nat) (m : Nat) : Res := cutA l 0 (Nat.mul m size) fun l => hpR (stoA H id off l) fun H => some (.int .i64 (Int.ofNat m), H)
noncomputable def fCpy (size : Nat) (x y : AVal) (H : Heap) : Res :=
  srcF H size y fun n l => slcR x (some (.int .i64 (Int.ofNat 0), H)) fun id off len _ _ => cpy1 size H l id off (Bool.rec (motive := fun _ => Nat) len n (Nat.ble n len))
theorem fCpy_eq : fCpy = oCpy := by
  funext size x y H
  unfold fCpy oCpy
  refine srcF_eq H size y _ _ fun n l => ?_
  rw [slcR_eq]; congr 1; funext id off len _ _
  unfold cpy1
  rw [cutA_eq _ _ _ _ (fun l => onOpt (storeN H id off l) fun H => some (.int .i64 (Int.ofNat (iteB (Nat.ble n len) n len)), H)) (fun x => by rw [hpR_eq, stoA_eq]; rfl)]
  rfl
noncomputable def fClr (zs : List AVal) (x : AVal) (H : Heap) : Res :=
  slcR x (some (.tup [], H)) fun id off len _ _ => hpR (stoA H id off (replA len zs)) doneF
theorem fClr_eq : fClr = oClr := by
  funext zs x H
  unfold fClr oClr
  rw [slcR_eq]; congr 1; funext id off len _ _
  rw [hpR_eq, stoA_eq, replA_eq, Ar.list_of]; rfl
noncomputable def bsV (l : List AVal) : Nat → Nat → Option (Nat × Nat) := fun n v =>
  List.rec (motive := fun _ => Nat → Nat → Option (Nat × Nat)) (fun n v => some (n, v))
    (fun c _ ih n v => onInt c fun k b => ifB (keq k .u8) (Int.casesOn (motive := fun _ => Option (Nat × Nat)) b (fun b => ih (Nat.succ n) (Nat.add (Nat.mul v 256) (Nat.mod b 256))) (fun _ => none))) l n v

end Go.Am
