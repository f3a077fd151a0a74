/- A part of the library Am: an abstract machine for the model, that a kernel evaluates. -/
import Derived.Test.YtpmajhocoepajaaGreatDoorAmL
set_option linter.unusedVariables false
set_option linter.unusedSimpArgs false
namespace Go.Am

/-- what is copied or appended -/
inductive SrcIs (H : Heap) (size : Nat) : AVal → Nat → List AVal → Prop where
  | str {n v : Nat} : size = 1 → SrcIs H size (.str n v) n (cellsOfStr n v)
  | slc {id off len cap e : Nat} {l : List AVal} : loadN H id off (len * size) = some l → SrcIs H size (.slc id off len cap e) len l
  | nils : SrcIs H size .nils 0 []

theorem src_eq {H : Heap} {size : Nat} {y : AVal} {k : Nat → List AVal → Res} {r : AVal × Heap} (h : src H size y k = some r) : ∃ n l, SrcIs H size y n l ∧ k n l = some r := by
  cases y with
  | str n v =>
    obtain ⟨h1, h2⟩ := ifB_eq.1 (show ifB (Nat.beq size 1) (k n (cellsOfStr n v)) = some r from h)
    exact ⟨n, _, .str (Nat.eq_of_beq_eq_true h1), h2⟩
  | slc id off len cap e =>
    obtain ⟨l, h1, h2⟩ := onOpt_eq.1 (show onOpt (loadN H id off (Nat.mul len size)) (fun l => k len l) = some r from h)
    exact ⟨len, l, .slc h1, h2⟩
  | nils => exact ⟨0, [], .nils, h⟩
  | _ => cases h

theorem src_len {P : Program} {β : Map} {H : Heap} {size : Nat} {y : AVal} {n : Nat} {l : List AVal} (hs : SrcIs H size y n l) {y' : Value} (hy : VRel β y y') (w : World) : (Builtin.lenOf y').run P w = .ok n w := by
  cases hs with
  | str _ => cases hy with | str h => rw [h.1]; rfl
  | slc _ => cases hy <;> rfl
  | nils => cases hy; rfl

theorem src_length {H : Heap} {size : Nat} {y : AVal} {n : Nat} {l : List AVal} (hs : SrcIs H size y n l) : (∀ n v, y ≠ .str n v) → l.length = n * size := by
  intro hn
  cases hs with
  | str _ => exact absurd rfl (hn _ _)
  | slc h =>
    obtain ⟨o, _, h⟩ := onOpt_eq.1 h
    obtain ⟨_, _, _, _, _, _, h⟩ := onCells_eq.1 h
    obtain ⟨h1, rfl⟩ := takeL_eq.1 h
    rw [List.length_take]; omega
  | nils => simp

theorem loadN_take {H : Heap} {id off n m : Nat} {l : List AVal} (h : loadN H id off n = some l) (hm : m ≤ n) : loadN H id off m = some (l.take m) := by
  obtain ⟨o, h1, h2⟩ := onOpt_eq.1 h
  obtain ⟨c, e, p, wr, q, e_, h3⟩ := onCells_eq.1 h2
  subst e_
  obtain ⟨h4, e_⟩ := takeL_eq.1 h3
  subst e_
  refine onOpt_eq.2 ⟨_, h1, onCells_eq.2 ⟨_, _, _, _, _, rfl, takeL_eq.2 ⟨by omega, ?_⟩⟩⟩
  rw [List.take_take, Nat.min_eq_left hm]

theorem str_cells {n v : Nat} {s : ByteArray} (h : StrRel n v s) : cellsOfStr n v = s.data.toList.map fun b => AVal.int .u8 (Int.ofNat b.toNat) := by
  have := cellsOfStr_eq s.data.toList
  rw [← h.2] at this
  rw [← this, h.len]

theorem src_cells {P : Program} {β : Map} {H : Heap} {w : World} (hr : HRel β H.obj w) {size : Nat} {y : AVal} {n : Nat} {l : List AVal} (hs : SrcIs H size y n l) {y' : Value} (hy : VRel β y y') {m : Nat} (hm : m ≤ n) :
    ∃ cs : Array Value, (Builtin.firstCells size m y').run P w = .ok cs w ∧ LRel β (l.take (m * size)) cs.toList ∧ (∀ v ∈ cs.toList, Flat v) := by
  cases hs with
  | str h1 =>
    subst h1
    cases hy with
    | @str _ v s hb =>
      refine ⟨(s.extract 0 m).data.map fun b => Value.int .u8 b.toNat, rfl, ?_, ?_⟩
      · rw [str_cells hb, Array.toList_map, Nat.mul_one, List.map_take.symm, show (s.extract 0 m).data.toList = s.data.toList.take m by simp]
        have key : ∀ (l : List UInt8), LRel β (l.map fun b => AVal.int .u8 (Int.ofNat b.toNat)) (l.map fun b => Value.int .u8 b.toNat) := by
          intro l
          induction l with
          | nil => exact .nil
          | cons a l ih => exact .cons (.int _ _) ih
        exact key (s.data.toList.take m)
      · intro v hv
        simp only [Array.toList_map, List.mem_map] at hv
        obtain ⟨b, _, rfl⟩ := hv
        trivial
  | slc h1 =>
    have h2 := loadN_take (m := m * size) h1 (Nat.mul_le_mul_right _ hm)
    cases hy with
    | slc hb hl _ _ _ =>
      exact loadN_ok hr hb h2
    | slc0 hb =>
      have : m = 0 := by omega
      subst this
      refine ⟨#[], ?_, by simpa using LRel.nil, by simp⟩
      simp only [Builtin.firstCells, Nat.zero_mul]; rfl
  | nils =>
    cases hy
    exact ⟨#[], rfl, by simpa using LRel.nil, by simp⟩

theorem cpy_ok {P : Program} {β : Map} {H H' : Heap} {w : World} (hr : HRel β H.obj w) {t e : TypeId} (ht : P.underlying t = some (.slice e)) {ts : Array TypeId} (h0 : ts[0]? = some t) {size : Nat} (hs : size? P e = some size) {ty : TypeId}
    {x y v : AVal} {x' y' : Value} (hx : VRel β x x') (hy : VRel β y y') (h : oCpy size x y H = some (v, H')) : EfOk P β H (Builtin.copy_ ts ty #[x', y']) w v H' := by
  obtain ⟨n, l, h1, h2⟩ := src_eq h
  have hlen := src_len (P := P) h1 hy w
  rcases onSlc_eq.1 h2 with ⟨e_, h3⟩ | ⟨id, off, len, cap, k, e_, h3⟩
  · subst e_
    cases h3; cases hx
    obtain ⟨cs, g1, _, _⟩ := src_cells (P := P) hr h1 hy (Nat.zero_le _)
    refine ⟨.int .i64 (Int.ofNat 0), w, β, ?_, Post.refl hr, .int _ _⟩
    simp [Builtin.copy_, h0, run_underlying ht, hlen, run_sizeOf' hs, show Nat.min n 0 = 0 from Nat.min_zero n, g1, goInt]
  · subst e_
    obtain ⟨l', h4, h5⟩ := onOpt_eq.1 h3
    obtain ⟨H1, h6, h7⟩ := onOpt_eq.1 h5
    cases h7
    obtain ⟨h8, e_⟩ := takeL_eq.1 h4
    have hmin : iteB (Nat.ble n len) n len = min n len := by
      cases q : Nat.ble n len with
      | true => exact (Nat.min_eq_left (Nat.le_of_ble_eq_true q)).symm
      | false =>
        have : ¬ n ≤ len := fun c => by rw [Nat.ble_eq_true_of_le c] at q; cases q
        exact (Nat.min_eq_right (Nat.le_of_lt (Nat.lt_of_not_le this))).symm
    rw [hmin] at e_ h8 ⊢
    obtain ⟨cs, g1, g2, g3⟩ := src_cells (P := P) hr h1 hy (Nat.min_le_left n len)
    subst e_
    cases hx with
    | slc hb hl q1 q2 q3 =>
      obtain ⟨w', k1, k2⟩ := storeN_ok (P := P) hr hb g2 g3 h6
      refine ⟨.int .i64 (Int.ofNat (min n len)), w', β, ?_, k2, .int _ _⟩
      simp [Builtin.copy_, h0, run_underlying ht, hlen, run_sizeOf' hs, g1, k1, goInt]
    | slc0 hb =>
      have e0 : min n 0 = 0 := Nat.min_zero n
      rw [e0] at g1 g2 h6 ⊢
      have ec : cs.toList = [] := by
        have := g2.length
        rw [Nat.zero_mul] at this
        exact List.eq_nil_of_length_eq_zero this.symm
      obtain ⟨w', k1, k2⟩ := storeN_ok (P := P) hr hb g2 g3 h6
      rw [ec] at k1
      have : w' = w := by
        have := k1.symm.trans (show _ = Result.ok () w from rfl)
        exact (Result.ok.inj this).2
      subst this
      refine ⟨.int .i64 (Int.ofNat 0), w', β, ?_, k2, .int _ _⟩
      simp [Builtin.copy_, h0, run_underlying ht, hlen, run_sizeOf' hs, e0, g1, ec, storeCells, goInt]

theorem clr_ok {P : Program} {β : Map} {H H' : Heap} {w : World} (hr : HRel β H.obj w) {t e : TypeId} (ht : P.underlying t = some (.slice e)) {ts : Array TypeId} (h0 : ts[0]? = some t) {zv : AVal} {zs : List AVal} (hz : zero? P e = some (zv, zs)) {ty : TypeId}
    {x v : AVal} {x' : Value} (hx : VRel β x x') (h : oClr zs x H = some (v, H')) : EfOk P β H (Builtin.clear_ ts ty #[x']) w v H' := by
  obtain ⟨z, z1, z2, z3, z4, z5⟩ := zero_ok hz
  rcases onSlc_eq.1 h with ⟨e_, h3⟩ | ⟨id, off, len, cap, k, e_, h3⟩
  · subst e_
    cases h3; cases hx
    refine ⟨.tuple #[], w, β, ?_, Post.refl hr, .tup .nil⟩
    simp [Builtin.clear_, h0, run_underlying ht]
  · subst e_
    obtain ⟨H1, h6, h7⟩ := onOpt_eq.1 h3
    cases h7
    rw [repl_eq] at h6
    have hrep : (Builtin.zeroCells z.cells len).toList = (List.replicate len z.cells.toList).flatten := rep_made z.cells len
    have hzero : len = 0 → β id ≠ none → ∃ w', w' = w ∧ Post β H.obj H.next w β H'.obj H'.next w' := by
      intro e0 hb
      subst e0
      cases hb' : β id with
      | none => exact absurd hb' hb
      | some i =>
        obtain ⟨w', k1, k2⟩ := storeN_ok (P := P) hr hb' (cs := []) .nil (by simp) h6
        exact ⟨w', (Result.ok.inj (k1.symm.trans (show _ = Result.ok () w from rfl))).2, k2⟩
    cases hx with
    | @slc _ _ _ _ cap' _ i hb hl q1 q2 q3 =>
      rcases Nat.eq_zero_or_pos len with e0 | hp
      · obtain ⟨w', e_, k2⟩ := hzero e0 (by rw [hb]; simp)
        subst e_; subst e0
        refine ⟨.tuple #[], w', β, ?_, k2, .tup .nil⟩
        simp [Builtin.clear_, h0, run_underlying ht]
      · obtain ⟨w', k1, k2⟩ := storeN_ok (P := P) hr hb (rep_rel (z3 β) len) (rep_flat z4 len) h6
        refine ⟨.tuple #[], w', β, ?_, k2, .tup .nil⟩
        obtain ⟨m, rfl⟩ : ∃ m, len = m + 1 := ⟨len - 1, by omega⟩
        simp [Builtin.clear_, h0, run_underlying ht, z1, hrep, k1]
    | slc0 hb =>
      obtain ⟨w', e_, k2⟩ := hzero rfl (by rw [hb]; simp)
      subst e_
      refine ⟨.tuple #[], w', β, ?_, k2, .tup .nil⟩
      simp [Builtin.clear_, h0, run_underlying ht]

end Go.Am
