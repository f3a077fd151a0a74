/- A part of the library Am: an abstract machine for the model, that a kernel evaluates. -/
import Derived.Test.YtpmajhocoepajaaGreatDoorAmO
import Derived.Lib.UnsafeStr
set_option linter.unusedVariables false
set_option linter.unusedSimpArgs false
namespace Go.Am

theorem liesAt_off {P : Program} {e : TypeId} (hc : P.cellsOf e = 1) (count off n : Nat) (hn : off + n ≤ count) : liesAt P P.depth e count off e n = true := by
  have hd : P.depth = (2 * (P.types.size + Made.depth) + 1) + 1 := rfl
  rw [hd]
  simp only [liesAt, Bool.or_eq_true]
  left
  rw [hd]
  simp [rowAt, hc, hn, sameLayout, Nat.mod_one]

theorem run_loadBytes' {P : Program} {w : World} : ∀ (l : List UInt8) (a : Addr) (acc : ByteArray), (∀ j x, l[j]? = some x → ∃ b : Nat, w.cell? (a.add j) = some (.int .u8 (Int.ofNat b)) ∧ x = UInt8.ofNat b) →
    (loadBytes a acc l.length).run P w = .ok ⟨acc.data ++ l.toArray⟩ w
  | [], a, acc, _ => by simp [loadBytes]
  | x :: l, a, acc, h => by
    obtain ⟨b, h0, hx⟩ := h 0 x rfl
    have h0 : w.cell? a = some (.int .u8 (Int.ofNat b)) := by simpa [Addr.add] using h0
    have ih := run_loadBytes' (P := P) (w := w) l (a.add 1) (acc.push x) (fun j y hy => by
      have := h (j + 1) y (by simpa using hy)
      have e : (a.add 1).add j = a.add (j + 1) := by
        unfold Addr.add
        by_cases hj : j = 0
        · subst hj; simp
        · simp [hj]; omega
      rw [e]; exact this)
    have hx : ((Int.ofNat b).toNat).toUInt8 = x := by rw [hx]; rfl
    simp only [List.length_cons, loadBytes, Sem.run_bind, run_load, h0, Result.andThen, hx]
    rw [ih]
    congr 1
    apply ByteArray.ext
    simp [ByteArray.push]

theorem run_ustr {P : Program} {w : World} (pt it ty e : TypeId) (ts : Array TypeId) (h0 : ts[0]? = some pt) (hp : P.underlying pt = some (.pointer e)) (hc : P.cellsOf e = 1) (a : Addr) (cells : Nat) (hsh : w.shape? a.block = some (e, cells)) (l : List UInt8) (h0' : l ≠ [])
    (hn : a.off + l.length ≤ cells) (h63 : l.length ≤ 9223372036854775807) (k : IntKind) (hcell : ∀ j x, l[j]? = some x → ∃ b : Nat, w.cell? (a.add j) = some (.int .u8 (Int.ofNat b)) ∧ x = UInt8.ofNat b) :
    (Builtin.unsafeString_ ts ty #[.pointer (some a), .int k l.length]).run P w = .ok (.string ⟨l.toArray⟩) (w.freeze a l.length) := by
  have hl : l.length ≠ 0 := by simpa using h0'
  have hlb := run_loadBytes' (P := P) (w := w) l a .empty hcell
  have hlies := liesAt_off (P := P) hc (cells / P.cellsOf e) a.off l.length (by rw [hc]; simpa using hn)
  have h63' : ¬ (9223372036854775807 : Int) < (l.length : Int) := by omega
  show Sem.run P (Bind.bind (asInt (.int k l.length)) _) w = _
  have hmax : IntKind.i64.max = 9223372036854775807 := rfl
  have hneg : ¬ (l.length : Int) < 0 := by omega
  simp [h0, asInt, asIntOf, hmax, h63', hneg, hl, variablesAt, hsh, elemOf, run_underlying hp, hlies, hlb]

theorem run_ustr0 {P : Program} {w : World} (pt ty : TypeId) (ts : Array TypeId) (h0 : ts[0]? = some pt) (p : Option Addr) (k : IntKind) : (Builtin.unsafeString_ ts ty #[.pointer p, .int k 0]).run P w = .ok (.string .empty) w := by
  have hmax : IntKind.i64.max = 9223372036854775807 := rfl
  cases p with
  | none =>
    show Sem.run P (Bind.bind (asInt (.int k 0)) _) w = _
    simp [h0, asInt, asIntOf, hmax]
  | some a =>
    show Sem.run P (Bind.bind (asInt (.int k 0)) _) w = _
    simp [h0, asInt, asIntOf, hmax]

/-- the bytes behind bytesF -/
theorem bytesF_list : ∀ {l : List AVal} {n v : Nat} {pre : List UInt8} {r : Nat × Nat}, n = pre.length → v = val pre → bytesF l n v = some r →
    ∃ m : List UInt8, m.length = l.length ∧ r.1 = (pre ++ m).length ∧ r.2 = val (pre ++ m) ∧ ∀ (j : Nat) (x : UInt8), m[j]? = some x → ∃ b : Nat, l[j]? = some (.int .u8 (Int.ofNat b)) ∧ x = UInt8.ofNat b
  | [], n, v, pre, r, h1, h2, h => by cases h; exact ⟨[], rfl, by simpa using h1, by simpa using h2, by simp⟩
  | c :: l, n, v, pre, r, h1, h2, h => by
    obtain ⟨k, b, e_, h3⟩ := onInt_eq.1 h
    subst e_
    obtain ⟨h4, h5⟩ := ifB_eq.1 h3
    have := keq_eq.1 h4; subst this
    cases b with
    | negSucc b => cases h5
    | ofNat b =>
      obtain ⟨m, g1, g2, g3, g4⟩ := bytesF_list (pre := pre ++ [UInt8.ofNat b]) (by simp [h1]) (by rw [val_snoc, ← h2]; simp) h5
      refine ⟨UInt8.ofNat b :: m, by simp [g1], by rw [g2]; simp, by rw [g3]; simp, ?_⟩
      intro j x hj
      cases j with
      | zero => simp at hj; exact ⟨b, by simp, hj.symm⟩
      | succ j => obtain ⟨b', q1, q2⟩ := g4 j x (by simpa using hj); exact ⟨b', by simpa using q1, q2⟩

theorem ustr_ok {P : Program} {β : Map} {H H' : Heap} {w : World} (hr : HRel β H.obj w) {pt ty e : TypeId} {ts : Array TypeId} (h0 : ts[0]? = some pt) (hp : P.underlying pt = some (.pointer e)) (hs : size? P e = some 1)
    {x y v : AVal} {x' y' : Value} (hx : VRel β x x') (hy : VRel β y y') (h : oUstr e x y H = some (v, H')) : EfOk P β H (Builtin.unsafeString_ ts ty #[x', y']) w v H' := by
  obtain ⟨k, n, e_, h1⟩ := onNat_eq.1 h
  subst e_
  cases hy
  cases q : Nat.beq n 0 with
  | true =>
    rw [q] at h1
    obtain ⟨h2, h3⟩ := ifB_eq.1 (show ifB (isPtr x) (some (AVal.str 0 0, H)) = some (v, H') from h1)
    cases h3
    have := Nat.eq_of_beq_eq_true q; subst this
    obtain ⟨p, e_⟩ : ∃ p, x' = .pointer p := by
      cases x <;> first | cases h2; done | skip
      · cases hx; exact ⟨_, rfl⟩
      · cases hx; exact ⟨_, rfl⟩
    subst e_
    exact ⟨.string .empty, w, β, run_ustr0 pt ty ts h0 p k, Post.refl hr, .str ⟨rfl, rfl⟩⟩
  | false =>
    rw [q] at h1
    obtain ⟨id, off, e_, h2⟩ := onPtr_eq.1 (show onPtr x _ = some (v, H') from h1)
    subst e_
    obtain ⟨o, ho, h3⟩ := onOpt_eq.1 h2
    obtain ⟨l, el, p, wr, fq, e_, h4⟩ := onCells_eq.1 h3
    subst e_
    obtain ⟨h5, h6⟩ := ifB_eq.1 h4
    rw [Bool.and_eq_true, Bool.and_eq_true] at h5
    obtain ⟨hw, hel, hle⟩ := h5
    have e_e := Nat.eq_of_beq_eq_true hel; subst e_e
    have hle := Nat.le_of_ble_eq_true hle
    obtain ⟨f, h7, h8⟩ := onOpt_eq.1 h6
    subst h7
    obtain ⟨bs, h9, h10⟩ := onOpt_eq.1 h8
    obtain ⟨r, h11, h12⟩ := onOpt_eq.1 h10
    cases h12
    have hn0 : n ≠ 0 := by rintro rfl; cases q
    obtain ⟨h13, e_⟩ := takeL_eq.1 h9
    rw [dropL_eq] at h13 e_
    rw [bytesOf_eq] at h11
    obtain ⟨m, g1, g2, g3, g4⟩ := bytesF_list (pre := []) rfl rfl h11
    have hbl : bs.length = n := by rw [e_, List.length_take]; omega
    have hml : m.length = n := by omega
    cases hx with
    | @ptr _ _ i hb =>
      obtain ⟨co, k1, k2⟩ := hr.obj hb ho
      obtain ⟨c, fr, rfl, hp', hsz, hc, hop, hfr⟩ := k2.inv
      · skip
        rw [List.length_drop] at h13
        have hcell : ∀ j x, m[j]? = some x → ∃ b : Nat, w.cell? ((⟨i.blk, i.base + off, none⟩ : Addr).add j) = some (.int .u8 (Int.ofNat b)) ∧ x = UInt8.ofNat b := by
          intro j x hj
          obtain ⟨b, q1, q2⟩ := g4 j x hj
          refine ⟨b, ?_, q2⟩
          rw [e_, List.getElem?_take] at q1
          split at q1
          · rw [List.getElem?_drop] at q1
            obtain ⟨v', q3, q4, _⟩ := hc _ _ q1
            cases q4
            rw [add_none, cell_at k1, ← q3]; congr 1; omega
          · cases q1
        have hcells : P.cellsOf el = 1 := by
          unfold size? at hs
          unfold Program.cellsOf
          rw [hs]; rfl
        have hrun := run_ustr (P := P) (w := w) pt pt ty el ts h0 hp hcells ⟨i.blk, i.base + off, none⟩ c.size (by simp [World.shape?, k1]) m (by intro h; subst h; simp at hml; exact hn0 hml.symm) (by show i.base + off + m.length ≤ _; omega) (by omega) k hcell
        rw [hml] at hrun
        refine ⟨_, _, β, hrun, ?_, .str ⟨?_, ?_⟩⟩
        · rw [Heap.set_next]
          have hlt := hr.lt hb
          refine Post.write (i := i) (co := .cells c el (if fr.1 == fr.2 then (i.base + off, i.base + off + n) else (min fr.1 (i.base + off), max fr.2 (i.base + off + n)))) hr hb ho hw (fun b => ?_) ?_ ?_ (.cells hp' hsz hc hop fun _ => ?_) hw (fun x => Heap.obj_set _ _ _ _)
          · unfold World.freeze
            rw [if_neg hn0]
            simp only [Array.getElem?_modify]
            by_cases e : b = i.blk
            · subst e; simp [k1]
            · simp [e, Ne.symm e]
          · unfold World.freeze; rw [if_neg hn0]; simp
          · unfold World.freeze; rw [if_neg hn0]; exact ⟨rfl, rfl, rfl⟩
          · right
            have hmax : ∃ g, iteB (Nat.ble f (Nat.add off n)) (Nat.add off n) f = g ∧ f ≤ g ∧ off + n ≤ g := by
              cases q : Nat.ble f (Nat.add off n) with
              | true => exact ⟨_, rfl, Nat.le_of_ble_eq_true q, Nat.le_refl _⟩
              | false =>
                refine ⟨_, rfl, Nat.le_refl _, ?_⟩
                rcases Nat.lt_or_ge f (off + n) with h | h
                · rw [Nat.ble_eq_true_of_le (show f ≤ Nat.add off n from Nat.le_of_lt h)] at q; cases q
                · exact h
            obtain ⟨g, e1, e2, e3⟩ := hmax
            rw [e1]
            show _ ≤ i.base + g
            split
            · show i.base + off + n ≤ _; omega
            · rename_i hne
              show max fr.2 (i.base + off + n) ≤ _
              rcases hfr hw with h | h
              · simp [h] at hne
              · have : fr.2 ≤ i.base + f := h
                omega
        · rw [g2]; simp; rfl
        · rw [g3]; simp

end Go.Am
