/- A part of the library Am: an abstract machine for the model, that a kernel evaluates. -/
import Derived.Test.YtpmajhocoepajaaGreatDoorAmF
set_option linter.unusedVariables false
set_option linter.unusedSimpArgs false
namespace Go.Am

theorem add_none (b o n : Nat) : (⟨b, o, none⟩ : Addr).add n = ⟨b, o + n, none⟩ := by
  unfold Addr.add; split
  · subst_vars; rfl
  · rfl

theorem pick_ok {P : Program} {β : Map} {c a b v : AVal} {c' a' b' : Value} (hc : VRel β c c') (ha : VRel β a a') (hb : VRel β b b') (h : oPick c a b = some v) (w : World) :
    ∃ v', (do pure (Next.value (if ← asBool c' then a' else b')) : Sem Next).run P w = .ok (.value v') w ∧ VRel β v v' := by
  obtain ⟨t, e_, h_⟩ := onBool_eq.1 h; clear h; subst e_; have h := h_; clear h_
  cases hc; cases h
  cases t
  · exact ⟨b', by simp [asBool], hb⟩
  · exact ⟨a', by simp [asBool], ha⟩

theorem un_ok {P : Program} {β : Map} {op : UnOp} {x v : AVal} {x' : Value} (hx : VRel β x x')
    (h : (match op with | .not => uNot x | .neg => uNeg x | .xor => uXor x | .plus => none) = some v) (w : World) :
    ∃ v', (Op.unary op x').run P w = .ok v' w ∧ VRel β v v' := by
  cases op
  case not =>
    obtain ⟨b, e_, h_⟩ := onBool_eq.1 h; clear h; subst e_; have h := h_; clear h_
    cases hx; cases h
    exact ⟨_, rfl, .bool _⟩
  case neg =>
    obtain ⟨k, a, e_, h_⟩ := onInt_eq.1 h; clear h; subst e_; have h := h_; clear h_
    cases hx; cases h
    rw [wrI_eq]
    exact ⟨_, rfl, .int _ _⟩
  case xor =>
    obtain ⟨k, a, e_, h_⟩ := onInt_eq.1 h; clear h; subst e_; have h := h_; clear h_
    cases hx; cases h
    rw [ixor_eq]
    refine ⟨_, ?_, .int _ _⟩
    cases hs : k.signed <;> simp [Op.unary, Op.intBits, hs, iteB]
  case plus => cases h

theorem int_ok {P : Program} {β : Map} {k : IntKind} {x v : AVal} {x' : Value} {s d : TypeId} {k0 : IntKind} (hs : P.underlying s = some (.int k0)) (hd : P.underlying d = some (.int k))
    (hx : VRel β x x') (h : oInt k x = some v) (w : World) : ∃ v', (convert s d x').run P w = .ok v' w ∧ VRel β v v' := by
  obtain ⟨k1, a, e_, h_⟩ := onInt_eq.1 h; clear h; subst e_; have h := h_; clear h_
  cases hx; cases h
  rw [wrI_eq]
  exact ⟨_, by simp [convert, run_underlying hs, run_underlying hd, Conv.intToInt], .int _ _⟩

theorem strRel_lit (l : List UInt8) (n v : Nat) (hn : n = l.length) (hv : v = val l) : StrRel n v ⟨⟨l⟩⟩ := ⟨by rw [hn]; rfl, hv⟩
theorem u8_of {n : Nat} (h : n < 256) : (UInt8.ofNat n).toNat = n := by simp [UInt8.toNat_ofNat']; omega
def encC (c : Nat) : Nat × Nat :=
  if c < 0x80 then (1, c)
  else if c < 0x800 then (2, (0xC0 + c / 64) * 256 + (0x80 + c % 64))
  else if c < 0x10000 then (3, ((0xE0 + c / 4096) * 256 + (0x80 + c / 64 % 64)) * 256 + (0x80 + c % 64))
  else (4, (((0xF0 + c / 262144) * 256 + (0x80 + c / 4096 % 64)) * 256 + (0x80 + c / 64 % 64)) * 256 + (0x80 + c % 64))
def encU (c : Nat) : List UInt8 :=
  if c < 0x80 then [UInt8.ofNat c]
  else if c < 0x800 then [UInt8.ofNat (0xC0 + c / 64), UInt8.ofNat (0x80 + c % 64)]
  else if c < 0x10000 then [UInt8.ofNat (0xE0 + c / 4096), UInt8.ofNat (0x80 + c / 64 % 64), UInt8.ofNat (0x80 + c % 64)]
  else [UInt8.ofNat (0xF0 + c / 262144), UInt8.ofNat (0x80 + c / 4096 % 64), UInt8.ofNat (0x80 + c / 64 % 64), UInt8.ofNat (0x80 + c % 64)]
theorem encU_eq (r : Int) : Utf8.encode r = ⟨⟨encU (if Utf8.valid r then r.toNat else 0xFFFD)⟩⟩ := by
  unfold Utf8.encode encU Utf8.runeError
  dsimp only
  generalize (if Utf8.valid r = true then r.toNat else 0xFFFD) = c
  by_cases h1 : c < 0x80
  · rw [if_pos h1, if_pos h1]
  · rw [if_neg h1, if_neg h1]
    by_cases h2 : c < 0x800
    · rw [if_pos h2, if_pos h2]
    · rw [if_neg h2, if_neg h2]
      by_cases h3 : c < 0x10000
      · rw [if_pos h3, if_pos h3]
      · rw [if_neg h3, if_neg h3]
theorem encC_ok (c : Nat) (hc : c ≤ 0x10FFFF) : StrRel (encC c).1 (encC c).2 ⟨⟨encU c⟩⟩ := by
  unfold encC encU
  by_cases h1 : c < 0x80
  · rw [if_pos h1, if_pos h1]
    refine strRel_lit _ _ _ rfl ?_
    simp only [val, List.foldl_cons, List.foldl_nil, u8_of (show c < 256 by omega)]; omega
  · rw [if_neg h1, if_neg h1]
    by_cases h2 : c < 0x800
    · rw [if_pos h2, if_pos h2]
      refine strRel_lit _ _ _ rfl ?_
      simp only [val, List.foldl_cons, List.foldl_nil, u8_of (show 0xC0 + c / 64 < 256 by omega), u8_of (show 0x80 + c % 64 < 256 by omega)]; omega
    · rw [if_neg h2, if_neg h2]
      by_cases h3 : c < 0x10000
      · rw [if_pos h3, if_pos h3]
        refine strRel_lit _ _ _ rfl ?_
        simp only [val, List.foldl_cons, List.foldl_nil, u8_of (show 0xE0 + c / 4096 < 256 by omega), u8_of (show 0x80 + c / 64 % 64 < 256 by omega), u8_of (show 0x80 + c % 64 < 256 by omega)]; omega
      · rw [if_neg h3, if_neg h3]
        refine strRel_lit _ _ _ rfl ?_
        simp only [val, List.foldl_cons, List.foldl_nil, u8_of (show 0xF0 + c / 262144 < 256 by omega), u8_of (show 0x80 + c / 4096 % 64 < 256 by omega), u8_of (show 0x80 + c / 64 % 64 < 256 by omega), u8_of (show 0x80 + c % 64 < 256 by omega)]; omega
theorem enc_ok (r : Int) : StrRel (encR r).1 (encR r).2 (Utf8.encode r) := by
  rw [encU_eq]
  refine encC_ok _ ?_
  split
  · rename_i h
    simp only [Utf8.valid, Bool.or_eq_true, Bool.and_eq_true, decide_eq_true_eq] at h
    omega
  · omega

theorem i2s_ok {P : Program} {β : Map} {x v : AVal} {x' : Value} {s d : TypeId} {k0 : IntKind} (hs : P.underlying s = some (.int k0)) (hd : P.underlying d = some .string)
    (hx : VRel β x x') (h : oI2s x = some v) (w : World) : ∃ v', (convert s d x').run P w = .ok v' w ∧ VRel β v v' := by
  obtain ⟨k1, a, e_, h_⟩ := onInt_eq.1 h; clear h; subst e_; have h := h_; clear h_
  cases hx; cases h
  exact ⟨_, by simp [convert, run_underlying hs, run_underlying hd, Conv.intToString], .str (enc_ok a)⟩

theorem s2s_ok {P : Program} {β : Map} {x v : AVal} {x' : Value} {s d : TypeId} (hs : P.underlying s = some .string) (hd : P.underlying d = some .string)
    (hx : VRel β x x') (h : (onStr x fun _ _ => some x) = some v) (w : World) : ∃ v', (convert s d x').run P w = .ok v' w ∧ VRel β v v' := by
  obtain ⟨n, u, e_, h_⟩ := onStr_eq.1 h; clear h; subst e_; have h := h_; clear h_
  cases h
  cases hx with
  | str hh => exact ⟨_, by simp [convert, run_underlying hs, run_underlying hd], .str hh⟩

theorem ifc_ok {P : Program} {β : Map} {t : TypeId} {d : TypeDesc} (ht : P.underlying t = some d) (hd : ∀ ms, d ≠ .interface ms) {x v : AVal} {x' : Value} (hx : VRel β x x')
    (h : oIfc t x = some v) (w : World) : ∃ v', (Instr.makeInterface t x').run P w = .ok v' w ∧ VRel β v v' := by
  cases h
  refine ⟨_, ?_, .ifc hx⟩
  unfold Instr.makeInterface
  simp only [Sem.run_bind, run_underlying ht, Result.andThen_ok]
  cases d <;> first | rfl | exact absurd rfl (hd _)

theorem fn_ok {P : Program} {β : Map} {f : Fn} {n : Nat} {l : List AVal} {a b : Array Value} (hf : ∀ l, f ≠ .yield l) (hl : LRel β l (a.toList ++ b.toList)) (hn : n = a.size) {v : AVal}
    (h : oFn f n l = some v) (w : World) : ∃ v', (Instr.makeFunc f a b).run P w = .ok v' w ∧ VRel β v v' := by
  obtain ⟨x, h1, h2⟩ := onOpt_eq.1 h
  obtain ⟨h3, rfl⟩ := takeL_eq.1 h1
  cases h2
  have e1 : (a.toList ++ b.toList).take n = a.toList := by rw [hn, ← Array.length_toList]; simp
  have e2 : (a.toList ++ b.toList).drop n = b.toList := by rw [hn, ← Array.length_toList]; simp
  refine ⟨_, rfl, .fn hf ?_ ?_⟩
  · rw [← e1]; exact hl.take n
  · rw [dropL_eq, ← e2]; exact hl.drop n

theorem ext_ok {P : Program} {β : Map} {i : Nat} {x v : AVal} {x' : Value} (hx : VRel β x x') (h : oExt i x = some v) (w : World) :
    ∃ v', (Instr.extract x' i).run P w = .ok v' w ∧ VRel β v v' := by
  obtain ⟨l, e_, h_⟩ := onTup_eq.1 h; clear h; subst e_; have h := h_; clear h_
  rw [nth_eq] at h
  cases hx with
  | tup hl =>
    obtain ⟨v', h1, h2⟩ := hl.get h
    rename_i a
    have h3 : a[i]? = some v' := by rw [← Array.getElem?_toList]; exact h1
    exact ⟨v', by simp [Instr.extract, h3], h2⟩

theorem nilchk_ok {P : Program} {β : Map} {x v : AVal} {x' : Value} (hx : VRel β x x') (h : oNilchk x = some v) {ρ : Operand → Value} {xo : Operand} (hρ : ρ xo = x') {o : Oper} (ho : o.op = .nilCheck xo) (w : World) :
    ∃ v', (execOp ρ o).run P w = .ok (.value v') w ∧ VRel β v v' := by
  unfold execOp
  simp only [ho, hρ]
  cases hx with
  | bad => cases h
  | nilp => cases h
  | nilf => cases h
  | nili => cases h
  | fn hf ha hb =>
    rename_i f a b a' b'
    cases f with
    | method n => cases h
    | _ => cases h; exact ⟨_, rfl, .fn hf ha hb⟩
  | bool b => cases h; exact ⟨_, rfl, .bool b⟩
  | int k n => cases h; exact ⟨_, rfl, .int k n⟩
  | str hh => cases h; exact ⟨_, rfl, .str hh⟩
  | ptr hh => cases h; exact ⟨_, rfl, .ptr hh⟩
  | slc h0 hl h1 h2 h3 => cases h; exact ⟨_, rfl, .slc h0 hl h1 h2 h3⟩
  | slc0 h0 => cases h; exact ⟨_, rfl, .slc0 h0⟩
  | nils => cases h; exact ⟨_, rfl, .nils⟩
  | map hh => cases h; exact ⟨_, rfl, .map hh⟩
  | nilm => cases h; exact ⟨_, rfl, .nilm⟩
  | ifc hh => cases h; exact ⟨_, rfl, .ifc hh⟩
  | agg hh hf => cases h; exact ⟨_, rfl, .agg hh hf⟩
  | tup hh => cases h; exact ⟨_, rfl, .tup hh⟩

theorem fad_ok {P : Program} {β : Map} {t : TypeId} {fs : Array Field} {i n : Nat} {f : Field} (ht : P.underlying t = some (.struct fs)) (hf : fs[i]? = some f) (hs : size? P f.type = some n) (hn : n ≠ 0)
    {x v : AVal} {x' : Value} (hx : VRel β x x') (h : oFad f.offset x = some v) (w : World) : ∃ v', (Instr.fieldAt t x' i).run P w = .ok v' w ∧ VRel β v v' := by
  obtain ⟨id, off, e_, h_⟩ := onPtr_eq.1 h; clear h; subst e_; have h := h_; clear h_
  cases h
  cases hx with
  | ptr hb =>
    refine ⟨_, ?_, .ptr (off := off + f.offset) hb⟩
    simp [Instr.fieldAt, run_underlying ht, hf, Instr.sureAddr, fieldPlace, run_sizeOf' hs, hn, add_none, Nat.add_assoc]

theorem flat_extract {a : Array Value} {i j : Nat} (h : ∀ v ∈ a.toList, Flat v) : ∀ v ∈ (a.extract i j).toList, Flat v := by
  intro v hv
  rw [Array.toList_extract, List.extract_eq_take_drop] at hv
  exact h v (List.drop_subset _ _ (List.take_subset _ _ hv))

theorem partV {P : Program} {β : Map} {t : TypeId} {l : List AVal} {cs : Array Value} {off n : Nat} {b : Bool} (ha : agg? P t = some b) (hs : size? P t = some n)
    (hl : LRel β l cs.toList) (hf : ∀ v ∈ cs.toList, Flat v) {v : AVal}
    (h : (if b then onOpt (takeL n (dropL off l)) fun r => some (.agg r) else nth l off) = some v) (w : World) :
    ∃ v', (part t cs off).run P w = .ok v' w ∧ VRel β v v' := by
  unfold part
  simp only [Sem.run_bind, run_isAgg ha, Result.andThen_ok]
  cases b with
  | true =>
    obtain ⟨r, h1, h2⟩ := onOpt_eq.1 h
    cases h2
    obtain ⟨h3, rfl⟩ := takeL_eq.1 h1
    simp only [if_true, Sem.run_bind, run_sizeOf' hs, Result.andThen_ok, Sem.run_pure]
    refine ⟨_, rfl, .agg ?_ (flat_extract hf)⟩
    rw [Array.toList_extract, List.extract_eq_take_drop, Nat.add_sub_cancel_left, dropL_eq]
    exact (hl.drop off).take n
  | false =>
    simp only [Bool.false_eq_true, if_false]
    rw [show nth l off = l[off]? from nth_eq l off] at h
    obtain ⟨v', h1, h2⟩ := hl.get h
    have h4 : cs[off]? = some v' := by rw [← Array.getElem?_toList]; exact h1
    rw [h4]
    exact ⟨v', rfl, h2⟩

theorem fld_ok {P : Program} {β : Map} {t : TypeId} {fs : Array Field} {i n : Nat} {f : Field} {b : Bool} (ht : P.underlying t = some (.struct fs)) (hf : fs[i]? = some f) (ha : agg? P f.type = some b)
    (hs : size? P f.type = some n) {x v : AVal} {x' : Value} (hx : VRel β x x') (h : (if b then oFldN f.offset n x else oFld1 f.offset x) = some v) (w : World) :
    ∃ v', (Instr.field t x' i).run P w = .ok v' w ∧ VRel β v v' := by
  obtain ⟨l, rfl, h⟩ : ∃ l, x = .agg l ∧ (if b then onOpt (takeL n (dropL f.offset l)) fun r => some (.agg r) else nth l f.offset) = some v := by
    cases b
    · obtain ⟨l, e_, h_⟩ := onAgg_eq.1 h; clear h; subst e_; have h := h_; clear h_; exact ⟨l, rfl, h⟩
    · obtain ⟨l, e_, h_⟩ := onAgg_eq.1 h; clear h; subst e_; have h := h_; clear h_; exact ⟨l, rfl, h⟩
  cases hx with
  | agg hl hfl =>
    obtain ⟨v', h1, h2⟩ := partV ha hs hl hfl h w
    exact ⟨v', by simp [Instr.field, run_underlying ht, hf, asAgg, h1], h2⟩

theorem iaS_ok {P : Program} {β : Map} {t e : TypeId} {n : Nat} (ht : P.underlying t = some (.slice e)) (hs : size? P e = some n) {x i v : AVal} {x' i' : Value} (hx : VRel β x x') (hi : VRel β i i')
    (h : oIaS n x i = some v) (w : World) : ∃ v', (Instr.indexAt t x' i').run P w = .ok v' w ∧ VRel β v v' := by
  rcases onSlc_eq.1 h with ⟨_, h⟩ | ⟨id, off, len, cap, ex, e_, h⟩
  · cases h
  subst e_
  obtain ⟨k, j, e_, h_⟩ := onNat_eq.1 h; clear h; subst e_; have h := h_; clear h_
  obtain ⟨hj, h⟩ := ifB_eq.1 h
  cases h
  have hj := Nat.le_of_ble_eq_true hj
  cases hi
  cases hx with
  | slc0 hb => omega
  | slc hb hl h1 h2 h3 =>
    refine ⟨_, ?_, .ptr (off := off + j * n) hb⟩
    have hlt : j < len := hj
    simp [Instr.indexAt, run_underlying ht, asIntOf, run_sizeOf' hs, hlt, add_none, Nat.add_assoc]

theorem iaA_ok {P : Program} {β : Map} {t e : TypeId} {m n : Nat} (ht : P.underlying t = some (.array m e)) (hs : size? P e = some n) {x i v : AVal} {x' i' : Value} (hx : VRel β x x') (hi : VRel β i i')
    (h : oIaA m n x i = some v) (w : World) : ∃ v', (Instr.indexAt t x' i').run P w = .ok v' w ∧ VRel β v v' := by
  obtain ⟨id, off, e_, h_⟩ := onPtr_eq.1 h; clear h; subst e_; have h := h_; clear h_
  obtain ⟨k, j, e_, h_⟩ := onNat_eq.1 h; clear h; subst e_; have h := h_; clear h_
  obtain ⟨hj, h⟩ := ifB_eq.1 h
  cases h
  have hj := Nat.le_of_ble_eq_true hj
  cases hi
  cases hx with
  | ptr hb =>
    refine ⟨_, ?_, .ptr (off := off + j * n) hb⟩
    have hlt : j < m := hj
    simp [Instr.indexAt, run_underlying ht, asIntOf, Instr.sureAddr, run_sizeOf' hs, hlt, add_none, Nat.add_assoc]

theorem ixA_ok {P : Program} {β : Map} {t e : TypeId} {m n : Nat} {b : Bool} (ht : P.underlying t = some (.array m e)) (ha : agg? P e = some b) (hs : size? P e = some n) {x i v : AVal} {x' i' : Value}
    (hx : VRel β x x') (hi : VRel β i i') (h : (if b then oIxN m n x i else oIx1 m n x i) = some v) (w : World) :
    ∃ v', (Instr.index t x' i').run P w = .ok v' w ∧ VRel β v v' := by
  obtain ⟨l, k, j, rfl, rfl, hj, h⟩ : ∃ l k j, x = .agg l ∧ i = .int k (.ofNat j) ∧ Nat.ble (Nat.succ j) m = true ∧
      (if b then onOpt (takeL n (dropL (j * n) l)) fun r => some (.agg r) else nth l (j * n)) = some v := by
    cases b
    · obtain ⟨l, rfl, h⟩ := onAgg_eq.1 h
      obtain ⟨k, j, e_, h_⟩ := onNat_eq.1 h; clear h; subst e_; have h := h_; clear h_
      obtain ⟨hj, h⟩ := ifB_eq.1 h
      exact ⟨l, k, j, rfl, rfl, hj, h⟩
    · obtain ⟨l, rfl, h⟩ := onAgg_eq.1 h
      obtain ⟨k, j, e_, h_⟩ := onNat_eq.1 h; clear h; subst e_; have h := h_; clear h_
      obtain ⟨hj, h⟩ := ifB_eq.1 h
      exact ⟨l, k, j, rfl, rfl, hj, h⟩
  have hj := Nat.le_of_ble_eq_true hj
  cases hi
  cases hx with
  | agg hl hfl =>
    obtain ⟨v', h1, h2⟩ := partV ha hs hl hfl h w
    have hlt : j < m := hj
    exact ⟨v', by simp [Instr.index, run_underlying ht, asIntOf, run_sizeOf' hs, hlt, h1], h2⟩

theorem ixS_ok {P : Program} {β : Map} {t : TypeId} (ht : P.underlying t = some .string) {x i v : AVal} {x' i' : Value} (hx : VRel β x x') (hi : VRel β i i') (h : oIxS x i = some v) (w : World) :
    ∃ v', (Instr.index t x' i').run P w = .ok v' w ∧ VRel β v v' := by
  obtain ⟨n, u, e_, h_⟩ := onStr_eq.1 h; clear h; subst e_; have h := h_; clear h_
  obtain ⟨k, j, e_, h_⟩ := onNat_eq.1 h; clear h; subst e_; have h := h_; clear h_
  obtain ⟨hj, h⟩ := ifB_eq.1 h
  cases h
  have hj := Nat.le_of_ble_eq_true hj
  cases hi
  cases hx with
  | str hh =>
    rename_i s
    have hn := hh.len
    have hlt : j < s.data.toList.length := by omega
    have hlt2 : j < s.size := by rw [hh.1] at hj; omega
    have e : strIx n u j = s.data.toList[j].toNat := by
      unfold strIx; rw [hh.2, hn]; exact val_ix _ _ hlt
    have e2 : s[j]? = some (s.data.toList[j]) := by
      rw [getElem?_pos s j hlt2]; rfl
    rw [e]
    refine ⟨_, ?_, .int _ _⟩
    simp [Instr.index, run_underlying ht, asIntOf, e2]

theorem lenS_ok {P : Program} {β : Map} {t : TypeId} (ht : P.underlying t = some .string) {ts : Array TypeId} (h0 : ts[0]? = some t) {r : TypeId} {x v : AVal} {x' : Value} (hx : VRel β x x') (h : oLenS x = some v) (w : World) :
    ∃ v', (Builtin.len_ ts r #[x']).run P w = .ok v' w ∧ VRel β v v' := by
  obtain ⟨n, u, e_, h_⟩ := onStr_eq.1 h; clear h; subst e_; have h := h_; clear h_
  cases h
  cases hx with
  | str hh =>
    obtain ⟨rfl, _⟩ := hh
    exact ⟨.int .i64 (Int.ofNat _), by simp [Builtin.len_, h0, run_underlying ht, goInt], .int _ _⟩

theorem lenV_ok {P : Program} {β : Map} {t e : TypeId} (ht : P.underlying t = some (.slice e)) {ts : Array TypeId} (h0 : ts[0]? = some t) {r : TypeId} {x v : AVal} {x' : Value} (hx : VRel β x x') (h : oLenV x = some v) (w : World) :
    ∃ v', (Builtin.len_ ts r #[x']).run P w = .ok v' w ∧ VRel β v v' := by
  rcases onSlc_eq.1 h with ⟨e_, h⟩ | ⟨id, off, len, cap, ex, e_, h⟩
  · subst e_; cases h; cases hx
    exact ⟨.int .i64 (Int.ofNat 0), by simp [Builtin.len_, h0, run_underlying ht, goInt], .int _ _⟩
  · subst e_; cases h
    cases hx with
    | slc0 _ => exact ⟨.int .i64 (Int.ofNat 0), by simp [Builtin.len_, h0, run_underlying ht, goInt], .int _ _⟩
    | slc _ _ _ _ _ => exact ⟨.int .i64 (Int.ofNat len), by simp [Builtin.len_, h0, run_underlying ht, goInt], .int _ _⟩

theorem max_ok {P : Program} {β : Map} {ts : Array TypeId} {r : TypeId} {x y v : AVal} {x' y' : Value} (hx : VRel β x x') (hy : VRel β y y') (h : oMax x y = some v) (w : World) :
    ∃ v', (Builtin.max_ ts r #[x', y']).run P w = .ok v' w ∧ VRel β v v' := by
  obtain ⟨k, a, e_, h_⟩ := onInt_eq.1 h; clear h; subst e_; have h := h_; clear h_
  obtain ⟨k', b, e_, h_⟩ := onInt_eq.1 h; clear h; subst e_; have h := h_; clear h_
  cases h; cases hx; cases hy
  rw [ilt_eq]
  refine ⟨_, ?_, .int _ _⟩
  by_cases hlt : a < b <;> simp [Builtin.max_, Builtin.max2, hlt, iteB]

theorem min_ok {P : Program} {β : Map} {ts : Array TypeId} {r : TypeId} {x y v : AVal} {x' y' : Value} (hx : VRel β x x') (hy : VRel β y y') (h : oMin x y = some v) (w : World) :
    ∃ v', (Builtin.min_ ts r #[x', y']).run P w = .ok v' w ∧ VRel β v v' := by
  obtain ⟨k, a, e_, h_⟩ := onInt_eq.1 h; clear h; subst e_; have h := h_; clear h_
  obtain ⟨k', b, e_, h_⟩ := onInt_eq.1 h; clear h; subst e_; have h := h_; clear h_
  cases h; cases hx; cases hy
  rw [ilt_eq]
  refine ⟨_, ?_, .int _ _⟩
  by_cases hlt : b < a <;> simp [Builtin.min_, Builtin.min2, hlt, iteB]

theorem sdata_ok {P : Program} {β : Map} {ts : Array TypeId} {r : TypeId} {x v : AVal} {x' : Value} (hx : VRel β x x') (h : oSdata x = some v) (w : World) :
    ∃ v', (Builtin.unsafeSliceData_ ts r #[x']).run P w = .ok v' w ∧ VRel β v v' := by
  rcases onSlc_eq.1 h with ⟨e_, h⟩ | ⟨id, off, len, cap, ex, e_, h⟩
  · subst e_; cases h; cases hx; exact ⟨_, rfl, .nilp⟩
  · subst e_
    obtain ⟨h1, h⟩ := ifB_eq.1 h
    cases h
    have h1 := Nat.le_of_ble_eq_true h1
    cases hx with
    | slc0 _ => omega
    | @slc _ _ _ _ cap' _ i hb _ hc _ _ =>
      refine ⟨_, ?_, .ptr (off := off) hb⟩
      have : cap' ≠ 0 := by omega
      show (if cap' ≠ 0 then (pure (Value.pointer (some _)) : Sem Value) else _).run P w = _
      rw [if_pos this]; rfl

/-! ## slices -/
theorem bnd_eq {has : Bool} {l : List AVal} {d lim : Nat} {k : Nat → List AVal → Option AVal} {v : AVal} (h : bnd has l d lim k = some v) :
    (has = false ∧ k d l = some v) ∨ (has = true ∧ ∃ kd n m, l = .int kd (.ofNat n) :: m ∧ n ≤ lim ∧ k n m = some v) := by
  cases has with
  | false => exact .inl ⟨rfl, h⟩
  | true =>
    cases l with
    | nil => cases h
    | cons a l =>
      obtain ⟨kd, n, e, h1⟩ := onNat_eq.1 (show onNat a (fun n => ifB (Nat.ble n lim) (k n l)) = some v from h)
      obtain ⟨h2, h3⟩ := ifB_eq.1 h1
      exact .inr ⟨rfl, kd, n, l, by rw [e], Nat.le_of_ble_eq_true h2, h3⟩

/-- a bound that there may be, here and there -/
def OptRel (β : Map) (has : Bool) (l : List AVal) (m : List AVal) (x : Option Value) : Prop :=
  (has = false ∧ x = none ∧ l = m) ∨ (has = true ∧ ∃ a a', x = some a' ∧ l = a :: m ∧ VRel β a a')

theorem sliceBound_ok {P : Program} {kd : IntKind} {n y : Nat} {code : BoundsCode} (h : n ≤ y) (w : World) : (Instr.sliceBound (.int kd (.ofNat n)) y code).run P w = .ok n w := by
  have : (n : Int) ≤ (y : Int) := by omega
  simp [Instr.sliceBound, asIntOf, h]

theorem OptRel.no {β : Map} {l m : List AVal} {x : Option Value} (h : OptRel β false l m x) : x = none ∧ l = m := by
  rcases h with ⟨_, h1, h2⟩ | ⟨h, _⟩
  · exact ⟨h1, h2⟩
  · cases h
theorem OptRel.yes {β : Map} {a : AVal} {l m : List AVal} {x : Option Value} (h : OptRel β true (a :: l) m x) : ∃ a', x = some a' ∧ VRel β a a' ∧ l = m := by
  rcases h with ⟨h, _⟩ | ⟨_, b, b', h1, h2, h3⟩
  · cases h
  · cases h2; exact ⟨b', h1, h3, rfl⟩

theorem bounds_ok {P : Program} {β : Map} {lo hi mx : Bool} {l0 l1 l2 l3 : List AVal} {lo' hi' mx' : Option Value} (hm : OptRel β mx l0 l1 mx') (hh : OptRel β hi l1 l2 hi') (hl : OptRel β lo l2 l3 lo')
    (hmx : mx = true → hi = true) {len cap : Nat} {k : Nat → Nat → Nat → Option AVal} {v : AVal}
    (h : bnd mx l0 cap cap (fun m l => bnd hi l len m fun h l => bnd lo l 0 h fun a _ => k m h a) = some v) :
    ∃ m h a, a ≤ h ∧ ((hi = false ∧ h = len) ∨ h ≤ m) ∧ m ≤ cap ∧ (mx = false → m = cap) ∧ k m h a = some v ∧ ∀ b w cap', cap ≤ cap' → (Instr.sliceBounds b len cap' lo' hi' mx').run P w = .ok (a, h, if mx then m else cap') w := by
  rcases bnd_eq h with ⟨rfl, g⟩ | ⟨rfl, km, m, t, e0, hmc, g⟩
  · obtain ⟨rfl, rfl⟩ := hm.no
    rcases bnd_eq g with ⟨rfl, g2⟩ | ⟨rfl, kh, b, t, e1, hb, g2⟩
    · obtain ⟨rfl, rfl⟩ := hh.no
      rcases bnd_eq g2 with ⟨rfl, g3⟩ | ⟨rfl, ka, a, t, e2, ha, g3⟩
      · obtain ⟨rfl, rfl⟩ := hl.no
        exact ⟨cap, len, 0, Nat.zero_le _, .inl ⟨rfl, rfl⟩, Nat.le_refl _, fun _ => rfl, g3, fun b w cap' hc => by simp [Instr.sliceBounds]⟩
      · subst e2
        obtain ⟨_, rfl, hr, _⟩ := hl.yes
        cases hr
        exact ⟨cap, len, a, ha, .inl ⟨rfl, rfl⟩, Nat.le_refl _, fun _ => rfl, g3, fun b w cap' hc => by simp only [Instr.sliceBounds, Sem.run_bind, Sem.run_pure, Result.andThen_ok]; rw [sliceBound_ok ha]; rfl⟩
    · subst e1
      obtain ⟨_, rfl, hr, rfl⟩ := hh.yes
      cases hr
      rcases bnd_eq g2 with ⟨rfl, g3⟩ | ⟨rfl, ka, a, t, e2, ha, g3⟩
      · obtain ⟨rfl, rfl⟩ := hl.no
        exact ⟨cap, b, 0, Nat.zero_le _, .inr hb, Nat.le_refl _, fun _ => rfl, g3, fun c w cap' hc => by simp only [Instr.sliceBounds, Sem.run_bind, Sem.run_pure, Result.andThen_ok]; rw [sliceBound_ok (show b ≤ cap' by omega)]; rfl⟩
      · subst e2
        obtain ⟨_, rfl, hr, _⟩ := hl.yes
        cases hr
        exact ⟨cap, b, a, ha, .inr hb, Nat.le_refl _, fun _ => rfl, g3, fun c w cap' hc => by
          simp only [Instr.sliceBounds, Sem.run_bind, Sem.run_pure, Result.andThen_ok]; rw [sliceBound_ok (show b ≤ cap' by omega)]; simp only [Result.andThen_ok]; rw [sliceBound_ok ha]; rfl⟩
  · subst e0
    obtain ⟨_, rfl, hr, rfl⟩ := hm.yes
    cases hr
    rcases bnd_eq g with ⟨rfl, g2⟩ | ⟨rfl, kh, b, t, e1, hb, g2⟩
    · exact absurd (hmx rfl) nofun
    · subst e1
      obtain ⟨_, rfl, hr, rfl⟩ := hh.yes
      cases hr
      rcases bnd_eq g2 with ⟨rfl, g3⟩ | ⟨rfl, ka, a, t, e2, ha, g3⟩
      · obtain ⟨rfl, rfl⟩ := hl.no
        exact ⟨m, b, 0, Nat.zero_le _, .inr hb, hmc, nofun, g3, fun c w cap' hc => by
          simp only [Instr.sliceBounds, Sem.run_bind, Sem.run_pure, Result.andThen_ok]; rw [sliceBound_ok (show m ≤ cap' by omega)]; simp only [Result.andThen_ok]; rw [sliceBound_ok hb]; rfl⟩
      · subst e2
        obtain ⟨_, rfl, hr, _⟩ := hl.yes
        cases hr
        exact ⟨m, b, a, ha, .inr hb, hmc, nofun, g3, fun c w cap' hc => by
          simp only [Instr.sliceBounds, Sem.run_bind, Sem.run_pure, Result.andThen_ok]; rw [sliceBound_ok (show m ≤ cap' by omega)]; simp only [Result.andThen_ok]; rw [sliceBound_ok hb]; simp only [Result.andThen_ok]; rw [sliceBound_ok ha]; rfl⟩

theorem slS_ok {P : Program} {β : Map} {t : TypeId} (ht : P.underlying t = some .string) {lo hi : Bool} {x : AVal} {x' : Value} {l1 l2 l3 : List AVal} {lo' hi' : Option Value}
    (hx : VRel β x x') (h1 : OptRel β hi l1 l2 hi') (h2 : OptRel β lo l2 l3 lo') {v : AVal} (h : oSlS lo hi (x :: l1) = some v) (w : World) :
    ∃ v', (Instr.slice t x' lo' hi' none).run P w = .ok v' w ∧ VRel β v v' := by
  obtain ⟨n, u, e, h9⟩ := onStr_eq.1 (show onStr x (fun n v => bnd hi l1 n n fun h l => bnd lo l 0 h fun a _ => some (.str (Nat.sub h a) (strSub n v a h))) = some v from h)
  clear h
  subst e
  cases hx with
  | str hs =>
    rename_i s
    obtain ⟨rfl, hu⟩ := hs
    obtain ⟨m, b, a, ha, hb, hm, hmc, g, hrun⟩ := bounds_ok (P := P) (mx := false) (l0 := l1) (.inl ⟨rfl, rfl, rfl⟩) h1 h2 nofun (len := s.size) (cap := s.size) (k := fun m b a => some (.str (Nat.sub b a) (strSub s.size u a b))) h9
    cases g
    have hmc := hmc rfl
    refine ⟨_, ?_, .str (StrRel.sub ⟨rfl, hu⟩ ha (by omega))⟩
    simp [Instr.slice, run_underlying ht, hrun _ _ _ (Nat.le_refl _)]

theorem slV_ok {P : Program} {β : Map} {t e : TypeId} {n : Nat} (ht : P.underlying t = some (.slice e)) (hs : size? P e = some n) {lo hi mx : Bool} {x : AVal} {x' : Value} {l0 l1 l2 l3 : List AVal}
    {lo' hi' mx' : Option Value} (hx : VRel β x x') (h0 : OptRel β mx l0 l1 mx') (h1 : OptRel β hi l1 l2 hi') (h2 : OptRel β lo l2 l3 lo') (hmx : mx = true → hi = true) {v : AVal}
    (h : oSlV n lo hi mx (x :: l0) = some v) (w : World) : ∃ v', (Instr.slice t x' lo' hi' mx').run P w = .ok v' w ∧ VRel β v v' := by
  have h : onSlc x (bnd mx l0 0 0 fun m l => bnd hi l 0 m fun h l => bnd lo l 0 h fun _ _ => some .nils)
      (fun id off len cap e => bnd mx l0 cap cap fun m l => bnd hi l len m fun h l => bnd lo l 0 h fun a _ =>
        iteB (or mx (Nat.beq e 0)) (some (.slc id (iteB (Nat.beq m a) off (Nat.add off (Nat.mul a n))) (Nat.sub h a) (Nat.sub m a) 0))
          (ifB (Nat.beq e (Nat.succ n)) (some (.slc id (Nat.add off (Nat.mul a n)) (Nat.sub h a) (Nat.sub m a) e)))) = some v := h
  rcases onSlc_eq.1 h with ⟨e_, g⟩ | ⟨id, off, len, cap, e, e_, g⟩
  · clear h; subst e_
    cases hx
    obtain ⟨m, b, a, ha, hb, hm, hmc, g2, hrun⟩ := bounds_ok (P := P) h0 h1 h2 hmx (len := 0) (cap := 0) (k := fun _ _ _ => some .nils) g
    cases g2
    obtain rfl : m = 0 := by omega
    obtain rfl : b = 0 := by omega
    obtain rfl : a = 0 := by omega
    refine ⟨_, ?_, .nils⟩
    simp [Instr.slice, run_underlying ht, hrun _ _ _ (Nat.le_refl _), run_sizeOf' hs]
  · clear h; subst e_
    obtain ⟨m, b, a, ha, hb', hm, hmc, g2, hrun⟩ := bounds_ok (P := P) h0 h1 h2 hmx (len := len) (cap := cap)
      (k := fun m h a => iteB (or mx (Nat.beq e 0)) (some (.slc id (iteB (Nat.beq m a) off (Nat.add off (Nat.mul a n))) (Nat.sub h a) (Nat.sub m a) 0))
          (ifB (Nat.beq e (Nat.succ n)) (some (.slc id (Nat.add off (Nat.mul a n)) (Nat.sub h a) (Nat.sub m a) e)))) g
    clear g
    cases hx with
    | slc0 hb =>
      obtain rfl : m = 0 := by omega
      obtain rfl : b = 0 := by omega
      obtain rfl : a = 0 := by omega
      rename_i ad
      have hrun' := hrun true w 0 (Nat.le_refl _)
      have hif : (if mx = true then 0 else 0) = 0 := by split <;> rfl
      rw [hif] at hrun'
      have e1 : (Instr.slice t (.slice (some ad) 0 0) lo' hi' mx').run P w = .ok (.slice (some ad) 0 0) w := by
        simp [Instr.slice, run_underlying ht, hrun', run_sizeOf' hs]
      cases hx : or mx (Nat.beq e 0) with
      | true => rw [hx] at g2; cases g2; exact ⟨_, e1, .slc0 hb⟩
      | false => rw [hx] at g2; obtain ⟨_, g3⟩ := ifB_eq.1 g2; cases g3; exact ⟨_, e1, .slc0 hb⟩
    | @slc _ _ _ _ cap' _ i hb hlen hc hex hop =>
      have hrun' := hrun true w cap' hc
      have hbm : b ≤ m := by
        rcases hb' with ⟨h9, rfl⟩ | h
        · cases mx with
          | false => have := hmc rfl; omega
          | true => rw [h9] at hmx; exact absurd (hmx rfl) nofun
        · exact h
      cases hx : or mx (Nat.beq e 0) with
      | true =>
        rw [hx] at g2; cases g2
        have hm' : (if mx = true then m else cap') = m := by
          cases mx with
          | true => rfl
          | false =>
            simp only [Bool.false_or] at hx
            simp only [Bool.false_eq_true, if_false]
            rw [hex (Nat.eq_of_beq_eq_true hx), hmc rfl]
        rw [hm'] at hrun'
        cases hma : Nat.beq m a with
        | true =>
          have hma := Nat.eq_of_beq_eq_true hma
          subst hma
          rw [iteB_true]
          refine ⟨_, ?_, .slc (off := off) hb (Nat.sub_le_sub_right hbm _) (Nat.le_refl _) (fun _ => rfl) nofun⟩
          simp [Instr.slice, run_underlying ht, hrun', run_sizeOf' hs]
        | false =>
          have hma := Nat.ne_of_beq_eq_false hma
          rw [iteB_false]
          refine ⟨_, ?_, .slc (off := Nat.add off (Nat.mul a n)) hb (Nat.sub_le_sub_right hbm _) (Nat.le_refl _) (fun _ => rfl) nofun⟩
          simp [Instr.slice, run_underlying ht, hrun', run_sizeOf' hs, hma, add_none, Nat.add_assoc]
      | false =>
        rw [hx] at g2
        obtain ⟨he, g3⟩ := ifB_eq.1 g2
        cases g3
        simp only [Bool.or_eq_false_iff] at hx
        obtain ⟨rfl, hx⟩ := hx
        have he0 := Nat.ne_of_beq_eq_false hx
        have he := Nat.eq_of_beq_eq_true he
        obtain ⟨ho1, ho2, ho3⟩ := hop he0
        have hn : i.sz = n := by omega
        simp only [Bool.false_eq_true, if_false] at hrun'
        have hmc := hmc rfl
        by_cases hca : cap' = a
        · have e2 : b = a := by omega
          have e3 : m = a := by omega
          have e0 : ∀ x : Nat, Nat.sub x x = 0 := Nat.sub_self
          subst hca e2 e3
          rw [e0]
          refine ⟨.slice (some ⟨i.blk, i.base + off, none⟩) 0 0, ?_, .slc0 hb⟩
          simp [Instr.slice, run_underlying ht, hrun', run_sizeOf' hs]
        · refine ⟨_, ?_, .slc (off := Nat.add off (Nat.mul a n)) (cap' := cap' - a) hb (Nat.sub_le_sub_right hbm _) ?_ (fun h => absurd h he0) (fun _ => ⟨ho1, ho2, ?_⟩)⟩
          · simp [Instr.slice, run_underlying ht, hrun', run_sizeOf' hs, hca, add_none, Nat.add_assoc]
          · show m - a ≤ cap' - a; omega
          · show i.base + (off + a * n) + (cap' - a) * i.sz ≤ i.top
            rw [hn] at ho3 ⊢
            have : a * n + (cap' - a) * n = cap' * n := by rw [← Nat.add_mul]; congr 1; omega
            omega

theorem slA_ok {P : Program} {β : Map} {t e : TypeId} {n sz : Nat} (ht : P.underlying t = some (.array n e)) (hs : size? P e = some sz) {lo hi mx : Bool} {x : AVal} {x' : Value} {l0 l1 l2 l3 : List AVal}
    {lo' hi' mx' : Option Value} (hx : VRel β x x') (h0 : OptRel β mx l0 l1 mx') (h1 : OptRel β hi l1 l2 hi') (h2 : OptRel β lo l2 l3 lo') (hmx : mx = true → hi = true) {v : AVal}
    (h : oSlA n sz lo hi mx (x :: l0) = some v) (w : World) : ∃ v', (Instr.sliceAt t x' lo' hi' mx').run P w = .ok v' w ∧ VRel β v v' := by
  obtain ⟨id, off, e_, g⟩ := onPtr_eq.1 (show onPtr x (fun id off => bnd mx l0 n n fun m l => bnd hi l n m fun h l => bnd lo l 0 h fun a _ =>
        some (.slc id (iteB (Nat.beq m a) off (Nat.add off (Nat.mul a sz))) (Nat.sub h a) (Nat.sub m a) 0)) = some v from h)
  clear h; subst e_
  obtain ⟨m, b, a, ha, hb', hm, hmc, g2, hrun⟩ := bounds_ok (P := P) h0 h1 h2 hmx (len := n) (cap := n)
      (k := fun m h a => some (.slc id (iteB (Nat.beq m a) off (Nat.add off (Nat.mul a sz))) (Nat.sub h a) (Nat.sub m a) 0)) g
  clear g
  cases g2
  cases hx with
  | ptr hb =>
    have hbm : b ≤ m := by
      rcases hb' with ⟨h9, rfl⟩ | h
      · cases mx with
        | false => have := hmc rfl; omega
        | true => rw [h9] at hmx; exact absurd (hmx rfl) nofun
      · exact h
    have hrun' := hrun false w n (Nat.le_refl _)
    have hm' : (if mx = true then m else n) = m := by
      cases mx with
      | true => rfl
      | false => have := hmc rfl; simp [this]
    rw [hm'] at hrun'
    cases hma : Nat.beq m a with
    | true =>
      have hma := Nat.eq_of_beq_eq_true hma
      subst hma
      rw [iteB_true]
      refine ⟨_, ?_, .slc (off := off) hb (Nat.sub_le_sub_right hbm _) (Nat.le_refl _) (fun _ => rfl) nofun⟩
      simp [Instr.sliceAt, run_underlying ht, Instr.sureAddr, hrun', run_sizeOf' hs]
    | false =>
      have hma := Nat.ne_of_beq_eq_false hma
      rw [iteB_false]
      refine ⟨_, ?_, .slc (off := Nat.add off (Nat.mul a sz)) hb (Nat.sub_le_sub_right hbm _) (Nat.le_refl _) (fun _ => rfl) nofun⟩
      simp [Instr.sliceAt, run_underlying ht, Instr.sureAddr, hrun', run_sizeOf' hs, hma, add_none, Nat.add_assoc]

end Go.Am
