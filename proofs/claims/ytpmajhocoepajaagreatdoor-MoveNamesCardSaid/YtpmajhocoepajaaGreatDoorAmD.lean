/-
  Am, part D: how values and memory here stand to the model's.
-/
import Derived.Test.YtpmajhocoepajaaGreatDoorAmS
import Derived.Orders
import GoSem.Dispatch
set_option linter.unusedVariables false
namespace Go.Am

/-- where a block of Am lies: the model's block, from which cell on; is it open at its end, and then: how many cells has an element, how many has the model's block -/
structure Info where
  blk : Nat
  base : Nat
  opn : Bool
  sz : Nat
  top : Nat

abbrev Map := Nat → Option Info

def Flat : Value → Prop
  | .agg _ => False
  | .tuple _ => False
  | _ => True

mutual
inductive VRel (β : Map) : AVal → Value → Prop where
  | bad (v : Value) : VRel β .bad v
  | bool (b : Bool) : VRel β (.bool b) (.bool b)
  | int (k : IntKind) (n : Int) : VRel β (.int k n) (.int k n)
  | str {n v : Nat} {s : ByteArray} (h : StrRel n v s) : VRel β (.str n v) (.string s)
  | ptr {id off : Nat} {i : Info} (h : β id = some i) : VRel β (.ptr id off) (.pointer (some ⟨i.blk, i.base + off, none⟩))
  | nilp : VRel β .nilp (.pointer none)
  | slc {id off len cap cap' e : Nat} {i : Info} (h : β id = some i) (hl : len ≤ cap) (h1 : cap ≤ cap') (h2 : e = 0 → cap' = cap)
      (h3 : e ≠ 0 → i.opn = true ∧ e = i.sz + 1 ∧ i.base + off + cap' * i.sz ≤ i.top) :
      VRel β (.slc id off len cap e) (.slice (some ⟨i.blk, i.base + off, none⟩) len cap')
  /-- what is left of a slice that was cut at its end: nothing; there the model may keep the old address -/
  | slc0 {id off e : Nat} {i : Info} {a : Addr} (h : β id = some i) : VRel β (.slc id off 0 0 e) (.slice (some a) 0 0)
  | nils : VRel β .nils (.slice none 0 0)
  | map {id : Nat} {i : Info} (h : β id = some i) : VRel β (.map id) (.map (some i.blk))
  | nilm : VRel β .nilm (.map none)
  | fn {f : Fn} {a b : List AVal} {a' b' : Array Value} (hf : ∀ l, f ≠ .yield l) (ha : LRel β a a'.toList) (hb : LRel β b b'.toList) : VRel β (.fn f a b) (.func f a' b')
  | nilf : VRel β .nilf .nilFunc
  | ifc {t : TypeId} {v : AVal} {v' : Value} (h : VRel β v v') : VRel β (.ifc t v) (.iface t v')
  | nili : VRel β .nili .nilIface
  | agg {l : List AVal} {a : Array Value} (h : LRel β l a.toList) (hf : ∀ v ∈ a.toList, Flat v) : VRel β (.agg l) (.agg a)
  | tup {l : List AVal} {a : Array Value} (h : LRel β l a.toList) : VRel β (.tup l) (.tuple a)
inductive LRel (β : Map) : List AVal → List Value → Prop where
  | nil : LRel β [] []
  | cons {v : AVal} {v' : Value} {l : List AVal} {l' : List Value} (h : VRel β v v') (t : LRel β l l') : LRel β (v :: l) (v' :: l')
end

def Ext (β β' : Map) : Prop := ∀ id i, β id = some i → β' id = some i
theorem Ext.refl (β : Map) : Ext β β := fun _ _ h => h
theorem Ext.trans {a b c : Map} (h : Ext a b) (k : Ext b c) : Ext a c := fun _ _ e => k _ _ (h _ _ e)

mutual
theorem VRel.mono {β β' : Map} (e : Ext β β') : ∀ {v : AVal} {v' : Value}, VRel β v v' → VRel β' v v'
  | _, _, .bad v => .bad v
  | _, _, .bool b => .bool b
  | _, _, .int k n => .int k n
  | _, _, .str h => .str h
  | _, _, .ptr h => .ptr (e _ _ h)
  | _, _, .nilp => .nilp
  | _, _, .slc h hl h1 h2 h3 => .slc (e _ _ h) hl h1 h2 h3
  | _, _, .slc0 h => .slc0 (e _ _ h)
  | _, _, .nils => .nils
  | _, _, .map h => .map (e _ _ h)
  | _, _, .nilm => .nilm
  | _, _, .fn hf ha hb => .fn hf (LRel.mono e ha) (LRel.mono e hb)
  | _, _, .nilf => .nilf
  | _, _, .ifc h => .ifc (VRel.mono e h)
  | _, _, .nili => .nili
  | _, _, .agg h hf => .agg (LRel.mono e h) hf
  | _, _, .tup h => .tup (LRel.mono e h)
theorem LRel.mono {β β' : Map} (e : Ext β β') : ∀ {l : List AVal} {l' : List Value}, LRel β l l' → LRel β' l l'
  | _, _, .nil => .nil
  | _, _, .cons h t => .cons (VRel.mono e h) (LRel.mono e t)
end

theorem LRel.length {β : Map} : ∀ {l : List AVal} {l' : List Value}, LRel β l l' → l.length = l'.length
  | _, _, .nil => rfl
  | _, _, .cons _ t => congrArg Nat.succ (LRel.length t)
theorem LRel.get {β : Map} : ∀ {l : List AVal} {l' : List Value} {i : Nat} {v : AVal}, LRel β l l' → l[i]? = some v → ∃ v', l'[i]? = some v' ∧ VRel β v v'
  | _, _, 0, _, .cons h _, e => by simp at e; subst e; exact ⟨_, rfl, h⟩
  | _, _, i + 1, _, .cons _ t, e => by
    obtain ⟨v', h1, h2⟩ := LRel.get (i := i) t (by simpa using e)
    exact ⟨v', by simpa using h1, h2⟩
theorem LRel.append {β : Map} : ∀ {a b : List AVal} {a' b' : List Value}, LRel β a a' → LRel β b b' → LRel β (a ++ b) (a' ++ b')
  | _, _, _, _, .nil, k => k
  | _, _, _, _, .cons h t, k => .cons h (LRel.append t k)
theorem LRel.drop {β : Map} : ∀ {l : List AVal} {l' : List Value} (n : Nat), LRel β l l' → LRel β (l.drop n) (l'.drop n)
  | _, _, 0, h => h
  | _, _, _ + 1, .nil => .nil
  | _, _, n + 1, .cons _ t => LRel.drop n t
theorem LRel.take {β : Map} : ∀ {l : List AVal} {l' : List Value} (n : Nat), LRel β l l' → LRel β (l.take n) (l'.take n)
  | _, _, 0, _ => .nil
  | _, _, _ + 1, .nil => .nil
  | _, _, n + 1, .cons h t => .cons h (LRel.take n t)
theorem LRel.of_get {β : Map} : ∀ {l : List AVal} {l' : List Value}, l.length = l'.length → (∀ (i : Nat) (v : AVal), l[i]? = some v → ∃ v', l'[i]? = some v' ∧ VRel β v v') → LRel β l l'
  | [], [], _, _ => .nil
  | [], _ :: _, h, _ => by simp at h
  | _ :: _, [], h, _ => by simp at h
  | v :: l, v' :: l', h, k => by
    obtain ⟨u, h1, h2⟩ := k 0 v rfl
    simp at h1; subst h1
    exact .cons h2 (LRel.of_get (by simpa using h) fun i u e => by
      obtain ⟨u', h3, h4⟩ := k (i + 1) u (by simpa using e)
      exact ⟨u', by simpa using h3, h4⟩)

/-! ## memory -/
/-- which cells may not be written -/
def FroRel (q : Option Nat) (base size : Nat) (fr : Nat × Nat) : Prop :=
  fr.1 = fr.2 ∨ match q with
    | some f => fr.2 ≤ base + f
    | none => size ≤ fr.1

inductive MRel (β : Map) : List (AVal × AVal × Nat) → List MapEntry → Prop where
  | nil : MRel β [] []
  | cons {k v : AVal} {b : Nat} {k' v' : Value} {es : List (AVal × AVal × Nat)} {es' : List MapEntry} (hk : VRel β k k') (hv : VRel β v v')
      (t : MRel β es es') : MRel β ((k, v, b) :: es) (⟨k', v', b⟩ :: es')
theorem MRel.mono {β β' : Map} (e : Ext β β') : ∀ {l : List (AVal × AVal × Nat)} {l' : List MapEntry}, MRel β l l' → MRel β' l l'
  | _, _, .nil => .nil
  | _, _, .cons hk hv t => .cons (hk.mono e) (hv.mono e) (MRel.mono e t)

/-- the cells of a block -/
def CRel (β : Map) (l : List AVal) (c : Array Value) (base : Nat) : Prop :=
  ∀ (k : Nat) (v : AVal), l[k]? = some v → ∃ v', c[base + k]? = some v' ∧ VRel β v v' ∧ Flat v'
theorem CRel.mono {β β' : Map} (e : Ext β β') {l : List AVal} {c : Array Value} {base : Nat} (h : CRel β l c base) : CRel β' l c base := fun k v hv => by
  obtain ⟨v', h1, h2, h3⟩ := h k v hv
  exact ⟨v', h1, h2.mono e, h3⟩

inductive ObjRel (β : Map) : AObj → Info → Obj → Prop where
  | blk {a : Ar} {e : TypeId} {p wr : Bool} {q : Option Nat} {i : Info} {c : Array Value} {fr : Nat × Nat}
      (hp : i.opn = p) (hsz : i.base + a.list.length ≤ c.size) (hc : CRel β a.list c i.base) (ho : p = true → i.top ≤ c.size) (hf : wr = true → FroRel q i.base c.size fr) :
      ObjRel β (.blk a e p wr q) i (.cells c e fr)
  | map {es : List (AVal × AVal × Nat)} {cl : Nat} {i : Info} {ces : Array MapEntry} (h : MRel β es ces.toList) : ObjRel β (.map es cl) i (.map ces cl)
  | siter {n v p : Nat} {i : Info} {s : ByteArray} (h : StrRel n v s) (hb : i.base = 0) : ObjRel β (.siter n v p) i (.stringIter s p)
theorem ObjRel.mono {β β' : Map} (e : Ext β β') {o : AObj} {i : Info} {co : Obj} (h : ObjRel β o i co) : ObjRel β' o i co := by
  cases h with
  | blk hp hsz hc ho hf => exact .blk hp hsz (hc.mono e) ho hf
  | map h => exact .map (h.mono e)
  | siter h hb => exact .siter h hb

theorem ObjRel.cells {β : Map} {l : List AVal} {e : TypeId} {p wr : Bool} {q : Option Nat} {i : Info} {c : Array Value} {fr : Nat × Nat}
    (hp : i.opn = p) (hsz : i.base + l.length ≤ c.size) (hc : CRel β l c i.base) (ho : p = true → i.top ≤ c.size) (hf : wr = true → FroRel q i.base c.size fr) :
    ObjRel β (.cells l e p wr q) i (.cells c e fr) :=
  .blk hp (by rw [Ar.list_of]; exact hsz) (by rw [Ar.list_of]; exact hc) ho hf
theorem ObjRel.inv {β : Map} {l : List AVal} {e : TypeId} {p wr : Bool} {q : Option Nat} {i : Info} {co : Obj} (h : ObjRel β (.cells l e p wr q) i co) :
    ∃ (c : Array Value) (fr : Nat × Nat), co = .cells c e fr ∧ i.opn = p ∧ i.base + l.length ≤ c.size ∧ CRel β l c i.base ∧ (p = true → i.top ≤ c.size) ∧ (wr = true → FroRel q i.base c.size fr) := by
  unfold AObj.cells at h
  cases h with
  | blk hp hsz hc ho hf =>
    rw [Ar.list_of] at hsz hc
    exact ⟨_, _, rfl, hp, hsz, hc, ho, hf⟩

def Wr : AObj → Prop
  | .blk _ _ _ wr _ => wr = true
  | _ => True

structure HRel (β : Map) (O : Nat → Option AObj) (w : World) : Prop where
  obj : ∀ {id i o}, β id = some i → O id = some o → ∃ co, w.heap[i.blk]? = some co ∧ ObjRel β o i co
  apart : ∀ {id id' i i' o o'}, id ≠ id' → β id = some i → β id' = some i' → O id = some o → O id' = some o' → i.blk ≠ i'.blk
  lt : ∀ {id i}, β id = some i → i.blk < w.heap.size

theorem HRel.sub {β : Map} {O O' : Nat → Option AObj} {w : World} (h : HRel β O w) (s : ∀ id i o, β id = some i → O' id = some o → O id = some o) : HRel β O' w :=
  ⟨fun hb ho => h.obj hb (s _ _ _ hb ho), fun hn hb hb' ho ho' => h.apart hn hb hb' (s _ _ _ hb ho) (s _ _ _ hb' ho'), h.lt⟩

/-- of the world nothing but its memory turns -/
structure Still (w w' : World) : Prop where
  os : w'.os = w.os
  tape : w'.tape = w.tape
  output : w'.output = w.output
  size : w.heap.size ≤ w'.heap.size
theorem Still.refl (w : World) : Still w w := ⟨rfl, rfl, rfl, Nat.le_refl _⟩
theorem Still.trans {a b c : World} (h : Still a b) (k : Still b c) : Still a c := ⟨k.os.trans h.os, k.tape.trans h.tape, k.output.trans h.output, Nat.le_trans h.size k.size⟩

/-- how memory stands behind a step, but for the numbers -/
structure PW (β : Map) (O : Nat → Option AObj) (w : World) (β' : Map) (O' : Nat → Option AObj) (w' : World) : Prop where
  ext : Ext β β'
  rel : HRel β' O' w'
  still : Still w w'
  frame : ∀ b, b < w.heap.size → (∀ id i o, β id = some i → O id = some o → Wr o → i.blk ≠ b) → w'.heap[b]? = w.heap[b]?
  wext : ∀ {id i o}, β' id = some i → O' id = some o → w.heap.size ≤ i.blk ∨ ∃ id0 i0 o0, β id0 = some i0 ∧ O id0 = some o0 ∧ i0.blk = i.blk ∧ (Wr o → Wr o0)

theorem PW.refl {β : Map} {O : Nat → Option AObj} {w : World} (h : HRel β O w) : PW β O w β O w :=
  ⟨Ext.refl β, h, Still.refl w, fun _ _ _ => rfl, fun hb ho => .inr ⟨_, _, _, hb, ho, rfl, fun h => h⟩⟩
theorem PW.trans {β β1 β2 : Map} {O O1 O2 : Nat → Option AObj} {w w1 w2 : World} (h : PW β O w β1 O1 w1) (k : PW β1 O1 w1 β2 O2 w2) : PW β O w β2 O2 w2 := by
  refine ⟨h.ext.trans k.ext, k.rel, h.still.trans k.still, ?_, ?_⟩
  · intro b hb hno
    rw [k.frame b (Nat.lt_of_lt_of_le hb h.still.size) ?_, h.frame b hb hno]
    intro id i o hi ho hw e
    rcases h.wext hi ho with hge | ⟨id0, i0, o0, h1, h2, h4, h3⟩
    · omega
    · exact hno id0 i0 o0 h1 h2 (h3 hw) (by omega)
  · intro id i o hi ho
    rcases k.wext hi ho with hge | ⟨id0, i0, o0, h1, h2, h4, h3⟩
    · exact .inl (Nat.le_trans h.still.size hge)
    · rcases h.wext h1 h2 with hge | ⟨id1, i1, o1, h5, h6, h8, h7⟩
      · left; omega
      · exact .inr ⟨id1, i1, o1, h5, h6, by omega, fun w => h7 (h3 w)⟩

/-- how memory stands behind a step -/
structure Post (β : Map) (O : Nat → Option AObj) (n : Nat) (w : World) (β' : Map) (O' : Nat → Option AObj) (n' : Nat) (w' : World) : Prop extends PW β O w β' O' w' where
  new : ∀ {id i}, β' id = some i → β id = none → n ≤ id ∧ id < n'
  mono : n ≤ n'
  wf : (∀ id, n ≤ id → O id = none) → ∀ id, n' ≤ id → O' id = none

theorem Post.refl {β : Map} {O : Nat → Option AObj} {n : Nat} {w : World} (h : HRel β O w) : Post β O n w β O n w :=
  ⟨PW.refl h, fun h k => absurd (h.symm.trans k) nofun, Nat.le_refl _, fun h => h⟩

theorem Post.trans {β β1 β2 : Map} {O O1 O2 : Nat → Option AObj} {n n1 n2 : Nat} {w w1 w2 : World} (h : Post β O n w β1 O1 n1 w1) (k : Post β1 O1 n1 w1 β2 O2 n2 w2) :
    Post β O n w β2 O2 n2 w2 := by
  refine ⟨h.toPW.trans k.toPW, ?_, Nat.le_trans h.mono k.mono, fun f => k.wf (h.wf f)⟩
  intro id i h2 h0
  cases h1 : β1 id with
  | none => have := k.new h2 h1; exact ⟨Nat.le_trans h.mono this.1, this.2⟩
  | some j => have := h.new h1 h0; exact ⟨this.1, Nat.lt_of_lt_of_le this.2 k.mono⟩

/-- no number from n up to m stands for a block yet -/
def FreeB (β : Map) (n m : Nat) : Prop := ∀ id, n ≤ id → id < m → β id = none
theorem Post.free {β β' : Map} {O O' : Nat → Option AObj} {n n' hi : Nat} {w w' : World} (h : Post β O n w β' O' n' w') (f : FreeB β n hi) : FreeB β' n' hi := by
  intro id h1 h2
  cases e : β' id with
  | none => rfl
  | some i =>
    have := h.new e (f id (Nat.le_trans h.mono h1) h2)
    omega

theorem readCell {β : Map} {O : Nat → Option AObj} {w : World} (h : HRel β O w) {id : Nat} {i : Info} (hb : β id = some i) {l : List AVal} {e : TypeId} {p wr : Bool} {q : Option Nat}
    (ho : O id = some (.cells l e p wr q)) {k : Nat} {v : AVal} (hv : l[k]? = some v) : ∃ v', w.cell? ⟨i.blk, i.base + k, none⟩ = some v' ∧ VRel β v v' ∧ Flat v' := by
  obtain ⟨co, h1, h2⟩ := h.obj hb ho
  obtain ⟨c, fr, rfl, hp, hsz, hc, ho, hf⟩ := h2.inv
  · obtain ⟨v', h3, h4, h5⟩ := hc k v hv
    refine ⟨v', ?_, h4, h5⟩
    unfold World.cell?
    simp [h1, h3]

/-- one block more -/
theorem PW.alloc {β : Map} {O : Nat → Option AObj} {n : Nat} {w w' : World} (h : HRel β O w) (hn : β n = none) {o : AObj} {co : Obj} {i : Info} (hi : i.blk = w.heap.size)
    (hw : w'.heap = w.heap.push co) (hst : w'.os = w.os ∧ w'.tape = w.tape ∧ w'.output = w.output) (hr : ObjRel β o i co) {O' : Nat → Option AObj}
    (hO : ∀ id j, (if id = n then some i else β id) = some j → O' id = if id = n then some o else O id) :
    PW β O w (fun id => if id = n then some i else β id) O' w' := by
  have hext : Ext β (fun id => if id = n then some i else β id) := by
    intro id j hj
    by_cases e : id = n
    · subst e; rw [hn] at hj; cases hj
    · simp [e, hj]
  have hsz : w'.heap.size = w.heap.size + 1 := by rw [hw]; simp
  have hold : ∀ b, b < w.heap.size → w'.heap[b]? = w.heap[b]? := by
    intro b hb; rw [hw, Array.getElem?_push, if_neg (by omega)]
  refine ⟨hext, ⟨?_, ?_, ?_⟩, ⟨hst.1, hst.2.1, hst.2.2, by omega⟩, fun b hb _ => hold b hb, ?_⟩
  · intro id j x hj hx
    rw [hO _ _ hj] at hx
    by_cases e : id = n
    · subst e
      simp at hj; subst hj
      rw [if_pos rfl] at hx; cases hx
      refine ⟨co, ?_, hr.mono hext⟩
      rw [hw, hi]; simp
    · simp [e] at hj
      rw [if_neg e] at hx
      obtain ⟨c, h1, h2⟩ := h.obj hj hx
      exact ⟨c, by rw [hold _ (h.lt hj)]; exact h1, h2.mono hext⟩
  · intro id id' j j' x x' hne hj hj' hx hx'
    rw [hO _ _ hj] at hx
    rw [hO _ _ hj'] at hx'
    by_cases e : id = n
    · subst e
      simp at hj; subst hj
      have e' : id' ≠ id := fun e => hne e.symm
      simp [e'] at hj'
      have := h.lt hj'
      omega
    · simp [e] at hj
      rw [if_neg e] at hx
      by_cases e' : id' = n
      · subst e'
        simp at hj'; subst hj'
        have := h.lt hj
        omega
      · simp [e'] at hj'
        rw [if_neg e'] at hx'
        exact h.apart hne hj hj' hx hx'
  · intro id j hj
    by_cases e : id = n
    · subst e; simp at hj; subst hj; omega
    · simp [e] at hj; have := h.lt hj; omega
  · intro id j x hj hx
    rw [hO _ _ hj] at hx
    by_cases e : id = n
    · subst e; simp at hj; subst hj; left; omega
    · simp [e] at hj
      rw [if_neg e] at hx
      exact .inr ⟨id, j, x, hj, hx, rfl, fun h => h⟩

theorem Post.alloc {β : Map} {O : Nat → Option AObj} {n : Nat} {w w' : World} (h : HRel β O w) (hn : β n = none) {o : AObj} {co : Obj} {i : Info} (hi : i.blk = w.heap.size)
    (hw : w'.heap = w.heap.push co) (hst : w'.os = w.os ∧ w'.tape = w.tape ∧ w'.output = w.output) (hr : ObjRel β o i co) {O' : Nat → Option AObj}
    (hO : ∀ id, O' id = if id = n then some o else O id) :
    Post β O n w (fun id => if id = n then some i else β id) O' (n + 1) w' := by
  refine ⟨PW.alloc h hn hi hw hst hr fun id _ _ => hO id, ?_, by omega, ?_⟩
  · intro id j hj h0
    by_cases e : id = n
    · omega
    · simp [e] at hj; rw [hj] at h0; cases h0
  · intro hf id hid
    rw [hO, if_neg (by omega)]
    exact hf id (by omega)

/-- one block written -/
theorem Post.write {β : Map} {O : Nat → Option AObj} {n : Nat} {w w' : World} (h : HRel β O w) {id : Nat} {i : Info} (hb : β id = some i) {o : AObj} (ho : O id = some o) (hwr : Wr o)
    {o' : AObj} {co : Obj} (hw : ∀ b, w'.heap[b]? = if b = i.blk then some co else w.heap[b]?) (hsz : w'.heap.size = w.heap.size)
    (hst : w'.os = w.os ∧ w'.tape = w.tape ∧ w'.output = w.output) (hr : ObjRel β o' i co) (hwr' : Wr o') {O' : Nat → Option AObj} (hO : ∀ x, O' x = if x = id then some o' else O x) :
    Post β O n w β O' n w' := by
  refine ⟨⟨Ext.refl β, ⟨?_, ?_, ?_⟩, ⟨hst.1, hst.2.1, hst.2.2, by omega⟩, ?_, ?_⟩, fun h k => absurd (h.symm.trans k) nofun, Nat.le_refl _, ?_⟩
  · intro x j y hj hy
    rw [hO] at hy
    by_cases e : x = id
    · subst e
      rw [hb] at hj; cases hj
      rw [if_pos rfl] at hy; cases hy
      exact ⟨co, by rw [hw, if_pos rfl], hr⟩
    · rw [if_neg e] at hy
      obtain ⟨c, h1, h2⟩ := h.obj hj hy
      exact ⟨c, by rw [hw, if_neg (fun e2 => h.apart (Ne.symm e) hb hj ho hy e2.symm)]; exact h1, h2⟩
  · intro x x' j j' y y' hne hj hj' hy hy'
    rw [hO] at hy hy'
    by_cases e : x = id
    · subst e
      rw [hb] at hj; cases hj
      rw [if_neg (Ne.symm hne)] at hy'
      exact h.apart hne hb hj' ho hy'
    · rw [if_neg e] at hy
      by_cases e' : x' = id
      · subst e'
        exact h.apart hne hj hj' hy ho
      · rw [if_neg e'] at hy'
        exact h.apart hne hj hj' hy hy'
  · intro x j hj; have := h.lt hj; omega
  · intro b hb' hno
    rw [hw, if_neg]
    intro e; exact hno id i o hb ho hwr e.symm
  · intro x j y hj hy
    rw [hO] at hy
    by_cases e : x = id
    · subst e; rw [hb] at hj; cases hj; exact .inr ⟨x, i, o, hb, ho, rfl, fun _ => hwr⟩
    · rw [if_neg e] at hy; exact .inr ⟨x, j, y, hj, hy, rfl, fun h => h⟩
  · intro hf x hx
    rw [hO]
    split
    · rename_i e; subst e; rw [hf x hx] at ho; cases ho
    · exact hf x hx

end Go.Am
