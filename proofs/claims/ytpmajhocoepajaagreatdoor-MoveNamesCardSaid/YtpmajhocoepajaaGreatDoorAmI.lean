/- A part of the library Am: an abstract machine for the model, that a kernel evaluates. -/
import Derived.Test.YtpmajhocoepajaaGreatDoorAmH
set_option linter.unusedVariables false
set_option linter.unusedSimpArgs false
namespace Go.Am

/-! ## the model's cells -/
theorem cell_at {w : World} {blk : Nat} {c : Array Value} {e : TypeId} {fr : Nat × Nat} (hb : w.heap[blk]? = some (.cells c e fr)) (k : Nat) : w.cell? ⟨blk, k, none⟩ = c[k]? := by
  unfold World.cell?; simp [hb]

theorem loadFrom_ok {P : Program} {w : World} {blk : Nat} {c : Array Value} {e : TypeId} {fr : Nat × Nat} (hb : w.heap[blk]? = some (.cells c e fr)) (off : Nat) :
    ∀ (n i : Nat) (acc : Array Value), off + i + n ≤ c.size → (loadCellsFrom ⟨blk, off, none⟩ i n acc).run P w = .ok (acc ++ (c.toList.drop (off + i)).take n) w := by
  intro n
  induction n with
  | zero => intro i acc h; simp [loadCellsFrom]
  | succ n ih =>
    intro i acc h
    have hlt : off + i < c.size := by omega
    simp only [loadCellsFrom, Sem.run_bind, run_load, add_none, cell_at hb]
    rw [Array.getElem?_eq_getElem hlt]
    simp only [Result.andThen_ok]
    rw [ih (i + 1) _ (by omega)]
    congr 1
    have hd : c.toList.drop (off + i) = c[off + i] :: c.toList.drop (off + (i + 1)) := by
      rw [List.drop_eq_getElem_cons (by rw [Array.length_toList]; exact hlt)]; rfl
    rw [hd]
    simp

theorem loadCells_ok {P : Program} {w : World} {blk : Nat} {c : Array Value} {e : TypeId} {fr : Nat × Nat} (hb : w.heap[blk]? = some (.cells c e fr)) {off n : Nat} (h : off + n ≤ c.size) :
    ∃ a : Array Value, (loadCells ⟨blk, off, none⟩ n).run P w = .ok a w ∧ a.toList = (c.toList.drop off).take n := by
  refine ⟨_, loadFrom_ok hb off n 0 #[] (by omega), ?_⟩
  simp

/-- cells of Am that are read, as the model reads them -/
theorem loadN_ok {P : Program} {β : Map} {H : Heap} {w : World} (hr : HRel β H.obj w) {id off n : Nat} {i : Info} (hb : β id = some i) {r : List AVal} (h : loadN H id off n = some r) :
    ∃ a : Array Value, (loadCells ⟨i.blk, i.base + off, none⟩ n).run P w = .ok a w ∧ LRel β r a.toList ∧ (∀ v ∈ a.toList, Flat v) := by
  obtain ⟨o, ho, h⟩ := onOpt_eq.1 h
  obtain ⟨l, e, p, wr, q, rfl, hh⟩ := onCells_eq.1 h
  have h := hh
  obtain ⟨h1, rfl⟩ := takeL_eq.1 h
  rw [dropL_eq, List.length_drop] at h1
  obtain ⟨co, h2, h3⟩ := hr.obj hb ho
  obtain ⟨c, fr, rfl, hp, hsz, hc, hop, hf⟩ := h3.inv
  · skip
    rcases Nat.eq_zero_or_pos n with e0 | hn
    · subst e0
      exact ⟨#[], rfl, by simpa using LRel.nil, by simp⟩
    · obtain ⟨a, h4, h5⟩ := loadCells_ok (P := P) h2 (off := i.base + off) (n := n) (by omega)
      refine ⟨a, h4, ?_, ?_⟩
      · rw [h5, dropL_eq]
        refine LRel.of_get ?_ fun k v hv => ?_
        · simp only [List.length_take, List.length_drop, Array.length_toList]; omega
        · rw [List.getElem?_take] at hv
          split at hv
          · rename_i hk
            rw [List.getElem?_drop] at hv
            obtain ⟨v', g1, g2, _⟩ := hc _ v hv
            refine ⟨v', ?_, g2⟩
            rw [List.getElem?_take, if_pos hk, List.getElem?_drop, Array.getElem?_toList, Nat.add_assoc]; exact g1
          · cases hv
      · intro v hv
        rw [h5] at hv
        obtain ⟨k, hk, e1⟩ := List.getElem_of_mem hv
        simp only [List.length_take, List.length_drop, Array.length_toList] at hk
        have hk2 : off + k < l.length := by omega
        obtain ⟨v', g1, _, g3⟩ := hc (off + k) l[off + k] (by simp [hk2])
        rw [List.getElem_take, List.getElem_drop, Array.getElem_toList] at e1
        have : c[i.base + (off + k)]? = some v := by
          rw [← e1, Array.getElem?_eq_getElem (by omega)]; congr 1; congr 1; omega
        rw [this] at g1; cases g1; exact g3

theorem load1_ok {P : Program} {β : Map} {H : Heap} {w : World} (hr : HRel β H.obj w) {id off : Nat} {i : Info} (hb : β id = some i) {r : AVal} (h : load1 H id off = some r) :
    ∃ v, (load ⟨i.blk, i.base + off, none⟩).run P w = .ok v w ∧ VRel β r v := by
  obtain ⟨o, ho, h3⟩ := onOpt_eq.1 h
  obtain ⟨l, e, p, wr, q, e_, h4⟩ := onCells_eq.1 h3
  subst e_
  rw [nth_eq] at h4
  obtain ⟨v', h1, h2, _⟩ := readCell hr hb ho h4
  exact ⟨v', by rw [run_load, h1], h2⟩

theorem ld_ok {P : Program} {β : Map} {H : Heap} {w : World} (hr : HRel β H.obj w) {t : TypeId} {b : Bool} {n : Nat} (ha : agg? P t = some b) (hs : size? P t = some n) {x r : AVal} {x' : Value} (hx : VRel β x x')
    (h : (if b then oLdN n x H else oLd1 x H) = some r) : ∃ v, (Instr.loadAt t x').run P w = .ok v w ∧ VRel β r v := by
  cases b with
  | true =>
    obtain ⟨id, off, e_, h1⟩ := onPtr_eq.1 h
    subst e_
    obtain ⟨l, h2, h3⟩ := onOpt_eq.1 h1
    cases h3
    cases hx with
    | ptr hb =>
      obtain ⟨a, g1, g2, g3⟩ := loadN_ok (P := P) hr hb h2
      exact ⟨.agg a, by simp [Instr.loadAt, Instr.sureAddr, loadVar, run_isAgg ha, run_sizeOf' hs, g1], .agg g2 g3⟩
  | false =>
    obtain ⟨id, off, e_, h1⟩ := onPtr_eq.1 h
    subst e_
    cases hx with
    | ptr hb =>
      obtain ⟨v, g1, g2⟩ := load1_ok (P := P) hr hb h1
      exact ⟨v, by simp only [Instr.loadAt, Instr.sureAddr, loadVar, Sem.run_bind, Sem.run_pure, Result.andThen_ok, run_isAgg ha, Bool.false_eq_true, if_false]; exact g1, g2⟩

/-- cells written -/
theorem storeCells_ok {P : Program} {blk : Nat} {e : TypeId} {fr : Nat × Nat} (off : Nat) : ∀ (vs : List Value) (i : Nat) (w : World) (c : Array Value), w.heap[blk]? = some (.cells c e fr) →
    off + i + vs.length ≤ c.size → (∀ v ∈ vs, Flat v) → (∀ k, off + i ≤ k → k < off + i + vs.length → ¬ (fr.1 ≤ k ∧ k < fr.2)) →
    ∃ w' c', (storeCells ⟨blk, off, none⟩ vs i).run P w = .ok () w' ∧ (∀ b, w'.heap[b]? = if b = blk then some (.cells c' e fr) else w.heap[b]?) ∧ w'.heap.size = w.heap.size ∧
      (w'.os = w.os ∧ w'.tape = w.tape ∧ w'.output = w.output) ∧ c'.size = c.size ∧ c'.toList = c.toList.take (off + i) ++ vs ++ c.toList.drop (off + i + vs.length) := by
  intro vs
  induction vs with
  | nil =>
    intro i w c hb hsz hf hfr
    refine ⟨w, c, rfl, fun b => ?_, rfl, ⟨rfl, rfl, rfl⟩, rfl, by simp⟩
    split
    · subst_vars; exact hb
    · rfl
  | cons v vs ih =>
    intro i w c hb hsz hf hfr
    simp only [List.length_cons] at hsz hfr
    have hlt : off + i < c.size := by omega
    have hv : v.oneCell' = true := by
      have := hf v (by simp)
      cases v <;> first | rfl | exact this.elim
    have hfz : w.frozen? ⟨blk, off + i, none⟩ = false := by
      unfold World.frozen?
      simp only [hb]
      have := hfr (off + i) (by omega) (by omega)
      simp; omega
    have hset : (w.setCell ⟨blk, off + i, none⟩ v).heap[blk]? = some (.cells (c.setIfInBounds (off + i) v) e fr) := by
      unfold World.setCell
      simp only [Array.getElem?_modify, if_true, hb]; rfl
    have hother : ∀ b, b ≠ blk → (w.setCell ⟨blk, off + i, none⟩ v).heap[b]? = w.heap[b]? := by
      intro b hne
      unfold World.setCell
      simp only [Array.getElem?_modify]
      rw [if_neg (Ne.symm hne)]
    obtain ⟨w', c', g1, g2, g3, g4, g5, g6⟩ := ih (i + 1) (w.setCell ⟨blk, off + i, none⟩ v) (c.setIfInBounds (off + i) v) hset (by simp; omega) (fun x hx => hf x (by simp [hx]))
      (fun k h1 h2 => hfr k (by omega) (by omega))
    refine ⟨w', c', ?_, ?_, ?_, g4, ?_, ?_⟩
    · simp only [storeCells, Sem.run_bind, add_none, run_store _ _ _ _ _ hv, cell_at hb, Array.getElem?_eq_getElem hlt, hfz, Bool.false_eq_true, if_false, Result.andThen_ok]
      exact g1
    · intro b
      rw [g2 b]
      split
      · rfl
      · rename_i hne; exact hother b hne
    · rw [g3]; simp [World.setCell]
    · rw [g5]; simp
    · rw [g6]
      have hlt2 : off + i < c.toList.length := by rw [Array.length_toList]; exact hlt
      rw [Array.toList_setIfInBounds, List.set_eq_take_append_cons_drop, if_pos hlt2]
      have e1 : (c.toList.take (off + i) ++ v :: c.toList.drop (off + i + 1)).take (off + (i + 1)) = c.toList.take (off + i) ++ [v] := by
        rw [List.take_append, List.length_take, Nat.min_eq_left (by omega), show off + (i + 1) - (off + i) = 1 by omega]
        rw [List.take_of_length_le (by rw [List.length_take]; omega)]; simp
      have e2 : (c.toList.take (off + i) ++ v :: c.toList.drop (off + i + 1)).drop (off + (i + 1) + vs.length) = c.toList.drop (off + i + (v :: vs).length) := by
        rw [List.drop_append, List.length_take, Nat.min_eq_left (by omega), show off + (i + 1) + vs.length - (off + i) = vs.length + 1 by omega]
        rw [List.drop_of_length_le (by rw [List.length_take]; omega)]
        simp only [List.nil_append, List.drop_succ_cons, List.drop_drop, List.length_cons]
        congr 1; omega
      rw [e1, e2]; simp

theorem unfrozen {q : Option Nat} {base size off n : Nat} {fr : Nat × Nat} (h : FroRel q base size fr) (hf : free q off = true) (hn : base + off + n ≤ size) :
    ∀ k, base + off + 0 ≤ k → k < base + off + 0 + n → ¬ (fr.1 ≤ k ∧ k < fr.2) := by
  intro k h1 h2 h3
  rcases h with h | h
  · omega
  · cases q with
    | none => simp at h; omega
    | some f =>
      simp at h
      have := Nat.le_of_ble_eq_true (show Nat.ble f off = true from hf)
      omega

/-- a store of Am, as the model does it -/
theorem storeN_ok {P : Program} {β : Map} {H H' : Heap} {w : World} (hr : HRel β H.obj w) {id off : Nat} {i : Info} (hb : β id = some i) {vs : List AVal} {cs : List Value} (hv : LRel β vs cs) (hf : ∀ v ∈ cs, Flat v)
    (h : storeN H id off vs = some H') :
    ∃ w', (storeCells ⟨i.blk, i.base + off, none⟩ cs).run P w = .ok () w' ∧ Post β H.obj H.next w β H'.obj H'.next w' := by
  obtain ⟨o, ho, h⟩ := onOpt_eq.1 h
  obtain ⟨l, e, p, wr, q, rfl, hh⟩ := onCells_eq.1 h
  have h := hh
  obtain ⟨hwq, h⟩ := ifB_eq.1 h
  obtain ⟨l', hl, h⟩ := onOpt_eq.1 h
  cases h
  rw [Bool.and_eq_true] at hwq
  obtain ⟨hw, hq⟩ := hwq
  obtain ⟨hle, rfl⟩ := lay_eq.1 hl
  obtain ⟨co, h2, h3⟩ := hr.obj hb ho
  obtain ⟨c, fr, rfl, hp, hsz, hc, hop, hfr⟩ := h3.inv
  · skip
    have hlen := hv.length
    obtain ⟨w', c', g1, g2, g3, g4, g5, g6⟩ := storeCells_ok (P := P) (i.base + off) cs 0 w c h2 (by omega) hf (unfrozen (hfr hw) hq (by omega))
    refine ⟨w', g1, ?_⟩
    rw [Heap.set_next]
    refine Post.write hr hb ho hw g2 g3 g4 (.cells hp ?_ ?_ ?_ ?_) hw (fun x => Heap.obj_set _ _ _ _)
    · rw [g5]; simp only [List.length_append, List.length_take, List.length_drop]; omega
    · intro k v hk
      rw [List.append_assoc, List.getElem?_append] at hk
      have hget : c'[i.base + k]? = (c.toList.take (i.base + off) ++ cs ++ c.toList.drop (i.base + off + cs.length))[i.base + k]? := by
        rw [← Array.getElem?_toList, g6]; simp
      have htl : (c.toList.take (i.base + off)).length = i.base + off := by rw [List.length_take, Array.length_toList]; omega
      rw [hget, List.append_assoc, List.getElem?_append, htl]
      split at hk
      · rename_i h1
        rw [List.length_take] at h1
        rw [List.getElem?_take, if_pos (by omega)] at hk
        rw [if_pos (by omega), List.getElem?_take, if_pos (by omega), Array.getElem?_toList]
        exact hc k v hk
      · rename_i h1
        rw [List.length_take, Nat.min_eq_left (by omega)] at h1 hk
        rw [if_neg (by omega), List.getElem?_append]
        rw [List.getElem?_append] at hk
        split at hk
        · rename_i h2
          rw [if_pos (by omega)]
          obtain ⟨v', g7, g8⟩ := hv.get hk
          refine ⟨v', by rw [show i.base + k - (i.base + off) = k - off by omega]; exact g7, g8, hf _ (List.mem_of_getElem? g7)⟩
        · rename_i h2
          rw [if_neg (by omega)]
          rw [List.getElem?_drop] at hk ⊢
          rw [Array.getElem?_toList]
          have e1 : off + vs.length + (k - off - vs.length) = k := by omega
          rw [e1] at hk
          obtain ⟨v', g7, g8⟩ := hc k v hk
          exact ⟨v', by rw [← g7]; congr 1; omega, g8⟩
    · intro hpt; rw [g5]; exact hop hpt
    · intro hwt; rw [g5]; exact hfr hwt

end Go.Am
