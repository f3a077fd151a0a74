/- A part of the library Am: an abstract machine for the model, that a kernel evaluates. -/
import Derived.Test.YtpmajhocoepajaaGreatDoorAmM
set_option linter.unusedVariables false
set_option linter.unusedSimpArgs false
namespace Go.Am

theorem decR_eq {n v : Nat} {s : ByteArray} (h : StrRel n v s) {i : Nat} (hi : i < n) : decR n v i = Utf8.decode s i := by
  have hat : ∀ k, i + k < n → v / 256 ^ (n - (i + k + 1)) % 256 = (s.get! (i + k)).toNat := by
    intro k hk
    have h1 : i + k < s.data.toList.length := by rw [← h.len]; exact hk
    have := val_ix s.data.toList (i + k) h1
    rw [← h.2, ← h.len] at this
    have h2 : i + k < s.size := by rw [← h.1]; exact hk
    have h3 : s.get! (i + k) = s.data.toList[i + k] := by
      show s.data[i + k]! = _
      rw [getElem!_pos s.data (i + k) h2, Array.getElem_toList]
    rw [h3]; exact this
  have hs : s.size = n := h.1.symm
  have h0 := hat 0 (by omega)
  have hv : ∀ r : Nat, (decide (r < 0xD800) || (decide (0xE000 ≤ r) && decide (r ≤ 0x10FFFF))) = Utf8.valid (r : Int) := by
    intro r
    unfold Utf8.valid
    rw [Bool.eq_iff_iff]
    simp
    omega
  unfold decR Utf8.decode
  simp only [hs, h0, hv, Utf8.runeError]
  by_cases h1 : i + 1 < n
  · rw [hat 1 h1]
    by_cases h2 : i + 2 < n
    · rw [hat 2 h2]
      by_cases h3 : i + 3 < n
      · rw [hat 3 h3]
      · simp [h1, h2, h3]
    · have h3 : ¬ i + 3 < n := by omega
      simp [h1, h2, h3]
  · have h2 : ¬ i + 2 < n := by omega
    have h3 : ¬ i + 3 < n := by omega
    simp [h1, h2, h3]

theorem nxt_ok {P : Program} {β : Map} {H H' : Heap} {w : World} (hr : HRel β H.obj w) {ty : TypeId} {x v : AVal} {x' : Value} (hx : VRel β x x') (h : oNxt x H = some (v, H')) : EfOk P β H (Instr.next x' true ty) w v H' := by
  obtain ⟨id, off, e_, h1⟩ := onPtr_eq.1 h
  subst e_
  obtain ⟨h2, h3⟩ := ifB_eq.1 h1
  have e0 := Nat.eq_of_beq_eq_true h2
  subst e0
  obtain ⟨o, h4, h5⟩ := onOpt_eq.1 h3
  obtain ⟨n, va, pos, e_, h6⟩ := onSit_eq.1 h5
  subst e_
  cases hx with
  | @ptr _ _ i hb =>
    obtain ⟨co, g1, g2⟩ := hr.obj hb h4
    cases g2 with
    | @siter _ _ _ _ s hs hbase =>
      have hget : (getObj i.blk).run P w = .ok (.stringIter s pos) w := by simp [getObj, Sem.run, g1]
      have hsz : s.size = n := hs.1.symm
      cases q : Nat.ble (Nat.succ pos) n with
      | true =>
        rw [q] at h6
        cases h6
        have hlt : pos < n := Nat.le_of_ble_eq_true q
        have hset : ∀ p, (setObj i.blk (.stringIter s p)).run P w = .ok () { w with heap := w.heap.setIfInBounds i.blk (.stringIter s p) } := by intro p; simp [setObj, Sem.run, g1]
        refine ⟨.tuple #[.bool true, .int .i64 (Int.ofNat pos), .int .i32 (Int.ofNat (decR n va pos).1)], { w with heap := w.heap.setIfInBounds i.blk (.stringIter s (pos + (decR n va pos).2)) }, β, ?_, ?_,
          .tup (.cons (.bool _) (.cons (.int _ _) (.cons (.int _ _) .nil)))⟩
        · rw [decR_eq hs hlt]
          simp only [Instr.next, hbase, Sem.run_bind, hget, Result.andThen_ok, hsz, hlt, if_true, hset, Sem.run_pure]
          rfl
        · rw [Heap.set_next]
          have hl := hr.lt hb
          refine Post.write (w' := { w with heap := w.heap.setIfInBounds i.blk (.stringIter s (pos + (decR n va pos).2)) }) (o' := .siter n va (pos + (decR n va pos).2)) (co := .stringIter s (pos + (decR n va pos).2))
            hr hb h4 trivial (fun b => ?_) (by simp) ⟨rfl, rfl, rfl⟩ (.siter hs hbase) trivial (fun x => Heap.obj_set _ _ _ _)
          show (w.heap.setIfInBounds _ _)[b]? = _
          rw [Array.getElem?_setIfInBounds]
          by_cases e : i.blk = b
          · subst e; simp [hl]
          · simp [e, Ne.symm e]
      | false =>
        rw [q] at h6
        cases h6
        have hlt : ¬ pos < n := fun c => by rw [Nat.ble_eq_true_of_le (show Nat.succ pos ≤ n from c)] at q; cases q
        refine ⟨.tuple #[.bool false], w, β, ?_, Post.refl hr, .tup (.cons (.bool _) .nil)⟩
        simp only [Instr.next, hbase, Sem.run_bind, hget, Result.andThen_ok, hsz, hlt, if_false, Sem.run_pure]

end Go.Am
