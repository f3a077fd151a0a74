/- A part of the library Am: an abstract machine for the model, that a kernel evaluates. -/
import Derived.Test.YtpmajhocoepajaaGreatDoorAmJ
import Derived.Laws.MakeOwn
import Derived.Laws.RangeString
import Derived.Laws.IdiomStrings
set_option linter.unusedVariables false
set_option linter.unusedSimpArgs false
namespace Go.Am

/-- what an operation that makes a block does -/
structure AlAt (β : Map) (o : AObj) (k : Nat → AVal) (v' : Value) (w w' : World) (i : Info) (co : Obj) : Prop where
  blk : i.blk = w.heap.size
  heap : w'.heap = w.heap.push co
  rest : w'.os = w.os ∧ w'.tape = w.tape ∧ w'.output = w.output
  rel : ObjRel β o i co
  val : ∀ (β' : Map) (id : Nat), β' id = some i → VRel β' (k id) v'

def AlOk (P : Program) (β : Map) (o : AObj) (k : Nat → AVal) (s : Sem Value) (w : World) : Prop :=
  ∃ v' w' i co, s.run P w = .ok v' w' ∧ AlAt β o k v' w w' i co

theorem crel0 {β : Map} {l : List AVal} {c : Array Value} (h : LRel β l c.toList) (hf : ∀ x ∈ c.toList, Flat x) : CRel β l c 0 := by
  intro k v hv
  obtain ⟨v', h1, h2⟩ := h.get hv
  rw [Array.getElem?_toList] at h1
  exact ⟨v', by simpa using h1, h2, hf _ (List.mem_of_getElem? (by rw [Array.getElem?_toList]; exact h1))⟩

theorem obj0 {β : Map} {l : List AVal} {c : Array Value} (e : TypeId) (h : LRel β l c.toList) (hf : ∀ x ∈ c.toList, Flat x) (blk : Nat) :
    ObjRel β (.cells l e false true (some 0)) ⟨blk, 0, false, 0, 0⟩ (.cells c e) := by
  refine .cells rfl ?_ (crel0 h hf) nofun fun _ => .inl rfl
  have := h.length; simp at this; simp; omega

theorem new_ok {P : Program} {β : Map} {e : TypeId} {zv : AVal} {zs : List AVal} (hz : zero? P e = some (zv, zs)) {o : AObj} {k : Nat → AVal} {l : List AVal} (h : aNew e zs l = some (o, k)) (w : World) :
    AlOk P β o k (Instr.alloc e true (.tuple #[])) w := by
  cases h
  obtain ⟨z, z1, z2, z3, z4, z5⟩ := zero_ok hz
  refine ⟨.pointer (some ⟨w.heap.size, 0, none⟩), { w with heap := w.heap.push (.cells z.cells e) }, ⟨w.heap.size, 0, false, 0, 0⟩, .cells z.cells e, ?_, rfl, rfl, ⟨rfl, rfl, rfl⟩, obj0 e (z3 β) z4 _, fun β' id hb => by simpa using VRel.ptr (off := 0) hb⟩
  simp only [Instr.alloc, Sem.run_bind, z1, Result.andThen_ok]
  rfl

theorem box_ok {P : Program} {β : Map} {e : TypeId} {sz : Nat} {x : AVal} {x' : Value} (hx : VRel β x x') {o : AObj} {k : Nat → AVal} (h : aBox e sz x = some (o, k)) (w : World) :
    AlOk P β o k (Instr.box e x') w := by
  obtain ⟨l, h1, h2, h3⟩ := cells_rel hx h
  obtain ⟨_, h5⟩ := ifB_eq.1 h1
  cases h5
  exact ⟨.pointer (some ⟨w.heap.size, 0, none⟩), _, ⟨w.heap.size, 0, false, 0, 0⟩, _, rfl, rfl, rfl, ⟨rfl, rfl, rfl⟩, obj0 e h2 h3 _, fun β' id hb => by simpa using VRel.ptr (off := 0) hb⟩

/-! ## repeated cells -/
theorem rep_made (z : Array Value) : ∀ n : Nat, ((Array.range (n * z.size)).map (z[· % z.size]!)).toList = (List.replicate n z.toList).flatten
  | 0 => by simp
  | n + 1 => by
    have ih := rep_made z n
    rw [Array.toList_map, Array.toList_range] at ih ⊢
    rw [show (n + 1) * z.size = z.size + n * z.size by rw [Nat.add_mul]; omega, List.range_add, List.map_append, List.replicate_succ, List.flatten_cons]
    congr 1
    · refine List.ext_getElem (by simp) fun j h1 h2 => ?_
      simp at h1
      simp [Nat.mod_eq_of_lt h1, h1]
    · rw [← ih, List.map_map]
      refine List.map_congr_left fun j _ => ?_
      simp

theorem repl_eq (zs : List AVal) : ∀ n : Nat, repl n zs = (List.replicate n zs).flatten
  | 0 => rfl
  | n + 1 => by
    show app zs (repl n zs) = _
    rw [app_eq, repl_eq zs n]; simp [List.replicate_succ]

theorem rep_rel {β : Map} {zs : List AVal} {cs : List Value} (h : LRel β zs cs) : ∀ n : Nat, LRel β (List.replicate n zs).flatten (List.replicate n cs).flatten
  | 0 => .nil
  | n + 1 => by
    rw [List.replicate_succ, List.replicate_succ]; exact h.append (rep_rel h n)
theorem rep_flat {cs : List Value} (h : ∀ x ∈ cs, Flat x) (n : Nat) : ∀ x ∈ (List.replicate n cs).flatten, Flat x := by
  intro x hx
  obtain ⟨l, h1, h2⟩ := List.mem_flatten.1 hx
  exact h x (by rw [List.eq_of_mem_replicate h1] at h2; exact h2)


theorem make_ok {P : Program} {β : Map} {t e : TypeId} {b : Nat} {zv : AVal} {zs : List AVal} (ht : P.underlying t = some (.slice e)) (hb : bytes? P e = some b) (hz : zero? P e = some (zv, zs))
    {x y : AVal} {x' y' : Value} (hx : VRel β x x') (hy : VRel β y y') {o : AObj} {k : Nat → AVal} (h : aMake e b zs x y = some (o, k)) (w : World) : AlOk P β o k (Instr.makeSlice t x' y') w := by
  obtain ⟨ky, n, e_y, h1⟩ := onNat_eq.1 h
  subst e_y
  obtain ⟨kz, m, e_z, h2⟩ := onNat_eq.1 h1
  subst e_z
  obtain ⟨h3, h4⟩ := ifB_eq.1 h2
  cases h4
  cases hx; cases hy
  simp only [Bool.and_eq_true] at h3
  obtain ⟨h3, h4, h5⟩ := h3
  have h3 := Nat.le_of_ble_eq_true h3
  have h4 := Nat.le_of_ble_eq_true h4
  have h5 := Nat.le_of_ble_eq_true h5
  obtain ⟨z, z1, z2, z3, z4, z5⟩ := zero_ok hz
  obtain ⟨i, hi, hib⟩ : ∃ i, P.info? e = some i ∧ i.bytes = b := by
    unfold bytes? at hb
    cases q : P.info? e with
    | none => rw [q] at hb; cases hb
    | some i => rw [q] at hb; exact ⟨i, rfl, by simpa using hb⟩
  have hzz : i.zero = some z := by
    have := z1 w
    simp only [zeroValue, typeInfo, Sem.run_bind, run_program, Result.andThen_ok, hi, Sem.run_pure] at this
    cases q : i.zero with
    | none => rw [q] at this; simp at this
    | some z0 => rw [q] at this; simp at this; rw [this]
  have hsz : i.size = z.cells.size := by
    have h6 := (z3 β).length
    unfold size? at z5; rw [hi] at z5
    simp at z5 h6; omega
  have hbb : (i.bytes : Int) * (Int.ofNat m) ≤ 281474976710656 := by
    rw [hib]
    have : ((b * m : Nat) : Int) ≤ 281474976710656 := by
      have : b * m ≤ 140737488355328 := h4
      omega
    rwa [Int.natCast_mul] at this
  have hr := run_make (P := P) w t e i z ht hi hzz ky kz (Int.ofNat n) (Int.ofNat m) (by simp) (by simpa using h3) hbb (by simp; omega)
  refine ⟨_, _, ⟨w.heap.size, 0, false, 0, 0⟩, _, hr, rfl, rfl, ⟨rfl, rfl, rfl⟩, ?_, ?_⟩
  · rw [repl_eq]
    have : (madeCells z.cells ((Int.ofNat m).toNat * i.size)).toList = (List.replicate m z.cells.toList).flatten := by
      rw [hsz]; exact rep_made z.cells m
    refine obj0 e ?_ ?_ _
    · rw [this]; exact rep_rel (z3 β) m
    · rw [this]; exact rep_flat z4 m
  · intro β' id hb'
    simpa using VRel.slc (off := 0) (e := 0) hb' h3 (Nat.le_refl m) (fun _ => rfl) (fun h => absurd rfl h)

theorem bslice_ok {P : Program} {β : Map} {t e : TypeId} {len s : Nat} {zv : AVal} {zs : List AVal} (ht : P.underlying t = some (.slice e)) (hs : size? P e = some s) (hz : zero? P e = some (zv, zs))
    {ps : Array (Nat × Operand)} {pos : List (Nat × Nat)} {xs : List Opd} (hp : cParts P (fun i => some (i * s, s)) ps.toList = some (pos, xs)) (hbig : ¬ len * s > 2 ^ 24)
    {vals : List AVal} {ρ : Operand → Value} (hv : LRel β vals (ps.toList.map fun p => ρ p.2)) {o : AObj} {k : Nat → AVal} (h : aSlice e len (List.replicate len zs).flatten pos vals = some (o, k)) (w : World) :
    AlOk P β o k (Instr.buildSlice t len (ps.map fun (i, x) => (i, ρ x))) w := by
  obtain ⟨cs, h1, h2⟩ := onOpt_eq.1 h
  cases h2
  obtain ⟨z, z1, z2, z3, z4, z5⟩ := zero_ok hz
  have hsz : s = z.cells.size := by
    have h6 := (z3 β).length
    rw [hs] at z5; simp at z5 h6; omega
  obtain ⟨p1, p2, p3⟩ := cParts_ok hp
  have hrep := rep_made z.cells len
  obtain ⟨c', f1, f2, f3, f4⟩ := fill_ok (fun i => some (i * s, s)) (ps.toList.map (·.1)) pos vals _ _ cs ((Array.range (len * z.cells.size)).map (z.cells[· % z.cells.size]!)) (by simp) p2 (by simpa using p1) hv
    (by rw [hrep]; exact rep_rel (z3 β) len) (by rw [hrep]; exact rep_flat z4 len) h1
  have e1 : (ps.map fun (x : Nat × Operand) => (x.1, ρ x.2)).toList = (ps.toList.map (·.1)).zip (ps.toList.map fun p => ρ p.2) := by
    rw [Array.toList_map, List.zip_map']
  refine ⟨.slice (some ⟨w.heap.size, 0, none⟩) len len, { w with heap := w.heap.push (.cells c' e) }, ⟨w.heap.size, 0, false, 0, 0⟩, .cells c' e, ?_, rfl, rfl, ⟨rfl, rfl, rfl⟩, obj0 e f2 f3 _, ?_⟩
  · simp only [Instr.buildSlice, Sem.run_bind, run_underlying ht, Result.andThen_ok, run_sizeOf' hs, hbig, if_false]
    by_cases h0 : len * s = 0
    · have : (Array.range (len * z.cells.size)).map (z.cells[· % z.cells.size]!) = (Array.range (len * s)).map ((#[] : Array Value)[· % (#[] : Array Value).size]!) := by
        rw [← hsz, h0]; simp [Array.range_zero']
      rw [this] at f1
      rw [h0] at f1
      simp only [h0, if_true, Sem.run_bind, Sem.run_pure, Result.andThen_ok]
      rw [e1, f1]; rfl
    · simp only [h0, if_false, Sem.run_bind, z1, Result.andThen_ok, Sem.run_pure]
      rw [e1, show len * s = len * z.cells.size by rw [hsz], f1]; rfl
  · intro β' id hb'
    simpa using VRel.slc (off := 0) (e := 0) hb' (Nat.le_refl len) (Nat.le_refl len) (fun _ => rfl) (fun h => absurd rfl h)

theorem amap_ok {P : Program} {β : Map} {t : TypeId} (r : Option Value) (hr : r = none ∨ ∃ a b k n, P.underlying t = some (.map a b) ∧ r = some (.int k n)) {o : AObj} {k : Nat → AVal} {l : List AVal} (h : aMap l = some (o, k)) (w : World) :
    AlOk P β o k (Instr.makeMap t r) w := by
  cases h
  refine ⟨.map (some w.heap.size), { w with heap := w.heap.push (.map #[] 0) }, ⟨w.heap.size, 0, false, 0, 0⟩, .map #[] 0, ?_, rfl, rfl, ⟨rfl, rfl, rfl⟩, .map .nil, fun β' id hb => .map hb⟩
  rcases hr with rfl | ⟨a, b, k, n, h1, rfl⟩
  · rfl
  · simp [Instr.makeMap, run_underlying h1, asInt, asIntOf]

theorem bytes_ok {P : Program} {β : Map} {s d e : TypeId} (hs : P.underlying s = some .string) (hd : P.underlying d = some (.slice e)) (he : P.underlying e = some (.int .u8)) {x : AVal} {x' : Value} (hx : VRel β x x')
    {o : AObj} {k : Nat → AVal} (h : aBytes e x = some (o, k)) (w : World) : AlOk P β o k (convert s d x') w := by
  obtain ⟨n, v, e_, h1⟩ := onStr_eq.1 h
  subst e_
  cases h1
  cases hx with
  | @str _ _ b hb =>
    have hn : n = b.size := hb.1
    have hge := grownCap_ge w b.size 0 e
    have hsz : (bytesRow b (grownCap w b.size 0 e)).size = grownCap w b.size 0 e := by
      simp only [bytesRow, Array.size_append, Array.size_map, Array.size_replicate]
      show b.size + _ = _
      omega
    have hcs : cellsOfStr n v = b.data.toList.map fun b => AVal.int .u8 (Int.ofNat b.toNat) := by
      have := cellsOfStr_eq b.data.toList
      rw [← hb.2] at this
      rw [← this, hb.len]
    refine ⟨_, _, ⟨w.heap.size, 0, true, 1, grownCap w b.size 0 e⟩, _, run_bytes_of_string w s d e b hs hd he, rfl, rfl, ⟨rfl, rfl, rfl⟩, ?_, ?_⟩
    · refine .cells rfl ?_ ?_ (fun _ => ?_) (fun _ => .inr ?_)
      · rw [hcs, hsz]; simp; show b.size ≤ _; omega
      · rw [hcs]
        intro k v hk
        rw [List.getElem?_map] at hk
        cases hq : b.data.toList[k]? with
        | none => rw [hq] at hk; cases hk
        | some u =>
          rw [hq] at hk; cases hk
          refine ⟨.int .u8 (Int.ofNat u.toNat), ?_, .int _ _, trivial⟩
          have hlt : k < b.data.size := by
            have := (List.getElem?_eq_some_iff.1 hq).1; simpa using this
          simp only [Nat.zero_add, bytesRow]
          rw [Array.getElem?_append_left (by simpa using hlt), Array.getElem?_map, ← Array.getElem?_toList, hq]; rfl
      · rw [hsz]; exact Nat.le_refl _
      · exact Nat.le_refl _
    · intro β' id hbb
      subst hn
      refine VRel.slc (off := 0) (e := 2) (i := ⟨w.heap.size, 0, true, 1, grownCap w b.size 0 e⟩) hbb (Nat.le_refl b.size) hge nofun (fun _ => ⟨rfl, rfl, ?_⟩)
      simp

theorem iter_ok {P : Program} {β : Map} {t : TypeId} (ht : P.underlying t = some .string) {x : AVal} {x' : Value} (hx : VRel β x x') {o : AObj} {k : Nat → AVal} (h : aIter x = some (o, k)) (w : World) :
    AlOk P β o k (Instr.range t x') w := by
  obtain ⟨n, v, e_, h1⟩ := onStr_eq.1 h
  subst e_
  cases h1
  cases hx with
  | str hb => exact ⟨_, _, ⟨w.heap.size, 0, false, 0, 0⟩, _, run_range_string w t _ ht, rfl, rfl, ⟨rfl, rfl, rfl⟩, .siter hb rfl, fun β' id h => by simpa using VRel.ptr (off := 0) h⟩

end Go.Am
