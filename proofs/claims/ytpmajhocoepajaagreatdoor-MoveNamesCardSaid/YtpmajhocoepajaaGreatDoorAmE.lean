/-
  Am, part E: the pure operations do as the model's.
-/
import Derived.Test.YtpmajhocoepajaaGreatDoorAmD
import Derived.Laws.Sem
import Derived.Laws.Entries
import Derived.ChangeKeysEq
import Derived.Laws.StructEq
set_option linter.unusedVariables false
set_option linter.unusedSimpArgs false
namespace Go.Am

/-! ## numbers -/
theorem wrap_in {k : IntKind} {z : Int} (h1 : k.min ≤ z) (h2 : z ≤ k.max) : k.wrap z = z := by
  cases k <;> simp [IntKind.min, IntKind.max, IntKind.signed, IntKind.bits] at h1 h2 <;> simp [IntKind.wrap, IntKind.signed, IntKind.bits] <;> omega
theorem kmax_eq (k : IntKind) : (kmax k : Int) = k.max := by cases k <;> rfl
theorem kmin_le (k : IntKind) : k.min ≤ 0 := by cases k <;> decide
theorem wrN_eq (k : IntKind) (n : Nat) : wrN k n = k.wrap n := by
  unfold wrN
  by_cases h : n ≤ kmax k
  · rw [Nat.ble_eq_true_of_le h, iteB_true]
    refine (wrap_in ?_ ?_).symm
    · have := kmin_le k; show k.min ≤ (n : Int); omega
    · rw [← kmax_eq]; exact Int.ofNat_le.2 h
  · have : Nat.ble n (kmax k) = false := by rw [Bool.eq_false_iff]; intro e; exact h (Nat.le_of_ble_eq_true e)
    rw [this, iteB_false]; rfl
theorem wrI_eq (k : IntKind) (z : Int) : wrI k z = k.wrap z := by
  cases z with
  | ofNat n => exact wrN_eq k n
  | negSucc n =>
    show iteB (and k.signed (Nat.ble n (kmax k))) (Int.negSucc n) (k.wrap (Int.negSucc n)) = _
    cases h : and k.signed (Nat.ble n (kmax k)) with
    | false => rfl
    | true =>
      simp only [Bool.and_eq_true] at h
      obtain ⟨h1, h2⟩ := h
      have h3 := Nat.le_of_ble_eq_true h2
      rw [iteB_true]
      refine (wrap_in ?_ ?_).symm
      · cases k <;> simp [IntKind.signed] at h1 <;> simp [IntKind.min, IntKind.signed, IntKind.bits, kmax] at * <;> omega
      · have := kmax_eq k
        have : (0 : Int) ≤ k.max := by rw [← kmax_eq]; exact Int.natCast_nonneg _
        omega
theorem natnat_eq {γ : Type} {a b : Int} {f : Nat → Nat → γ} {d r : γ} (hf : ∀ x y : Nat, a = x → b = y → f x y = r) (hd : d = r) : natnat a b f d = r := by
  cases a with
  | ofNat x => cases b with
    | ofNat y => exact hf x y rfl rfl
    | negSucc y => exact hd
  | negSucc x => exact hd
theorem iadd_eq (k : IntKind) (a b : Int) : iadd k a b = k.wrap (a + b) :=
  natnat_eq (fun x y ha hb => by subst ha hb; rw [wrN_eq]; rfl) (wrI_eq _ _)
theorem isub_eq (k : IntKind) (a b : Int) : isub k a b = k.wrap (a - b) :=
  natnat_eq (fun x y ha hb => by
    subst ha hb
    cases h : Nat.ble y x with
    | true => rw [iteB_true, wrN_eq]; have := Nat.le_of_ble_eq_true h; congr 1; exact Int.ofNat_sub this
    | false => rw [iteB_false, wrI_eq]; rfl) (wrI_eq _ _)
theorem imul_eq (k : IntKind) (a b : Int) : imul k a b = k.wrap (a * b) :=
  natnat_eq (fun x y ha hb => by subst ha hb; rw [wrN_eq]; congr 1) (wrI_eq _ _)
theorem iquo_eq (k : IntKind) (a b : Int) : iquo k a b = k.wrap (a.tdiv b) :=
  natnat_eq (fun x y ha hb => by subst ha hb; rw [wrN_eq]; congr 1) (wrI_eq _ _)
theorem irem_eq (a b : Int) : irem a b = a.tmod b :=
  natnat_eq (fun x y ha hb => by subst ha hb; rfl) rfl
theorem kmax_lt (k : IntKind) : kmax k < 2 ^ k.bits := by cases k <;> decide
theorem small_eq {k : IntKind} {x y : Nat} (h : small k x y = true) : x < 2 ^ k.bits ∧ y < 2 ^ k.bits := by
  unfold small at h
  simp only [Bool.and_eq_true] at h
  have := Nat.le_of_ble_eq_true h.1
  have := Nat.le_of_ble_eq_true h.2
  have := kmax_lt k
  exact ⟨by omega, by omega⟩
theorem ofInt_toNat {n x : Nat} (h : x < 2 ^ n) : (BitVec.ofInt n (x : Int)).toNat = x := by
  rw [BitVec.toNat_ofInt, Int.emod_eq_of_lt (Int.natCast_nonneg _) (by exact_mod_cast h)]; rfl
theorem iand_eq (k : IntKind) (a b : Int) : iand k a b = k.wrap (BitVec.ofInt k.bits a &&& BitVec.ofInt k.bits b).toNat :=
  natnat_eq (fun x y ha hb => by
    subst ha hb
    cases h : small k x y with
    | false => rfl
    | true =>
      obtain ⟨h1, h2⟩ := small_eq h
      rw [iteB_true, wrN_eq, BitVec.toNat_and, ofInt_toNat h1, ofInt_toNat h2]; rfl) rfl
theorem ior_eq (k : IntKind) (a b : Int) : ior k a b = k.wrap (BitVec.ofInt k.bits a ||| BitVec.ofInt k.bits b).toNat :=
  natnat_eq (fun x y ha hb => by
    subst ha hb
    cases h : small k x y with
    | false => rfl
    | true =>
      obtain ⟨h1, h2⟩ := small_eq h
      rw [iteB_true, wrN_eq, BitVec.toNat_or, ofInt_toNat h1, ofInt_toNat h2]; rfl) rfl
theorem ixor_eq (k : IntKind) (a b : Int) : ixor k a b = k.wrap (BitVec.ofInt k.bits a ^^^ BitVec.ofInt k.bits b).toNat :=
  natnat_eq (fun x y ha hb => by
    subst ha hb
    cases h : small k x y with
    | false => rfl
    | true =>
      obtain ⟨h1, h2⟩ := small_eq h
      rw [iteB_true, wrN_eq, BitVec.toNat_xor, ofInt_toNat h1, ofInt_toNat h2]; rfl) rfl
theorem ishl_eq (k : IntKind) (a : Int) (n : Nat) : ishl k a n = k.wrap (a * 2 ^ (min n k.bits)) :=
  natnat_eq (fun x y ha hb => by subst ha; rw [wrN_eq]; congr 1) rfl
theorem ishr_eq (k : IntKind) (a : Int) (n : Nat) : ishr k a n = a.fdiv (2 ^ (min n k.bits)) :=
  natnat_eq (fun x y ha hb => by
    subst ha
    show ((x / 2 ^ (min n k.bits) : Nat) : Int) = _
    rw [Int.fdiv_eq_ediv_of_nonneg _ (by exact_mod_cast Nat.zero_le _)]; simp) rfl
theorem ieq_eq (a b : Int) : ieq a b = (a == b) :=
  natnat_eq (fun x y ha hb => by subst ha hb; rw [Bool.eq_iff_iff, Nat.beq_eq, beq_iff_eq]; omega) rfl
theorem ilt_eq (a b : Int) : ilt a b = decide (a < b) :=
  natnat_eq (fun x y ha hb => by subst ha hb; rw [Bool.eq_iff_iff, Nat.ble_eq, decide_eq_true_eq]; omega) rfl
theorem ile_eq (a b : Int) : ile a b = decide (a ≤ b) :=
  natnat_eq (fun x y ha hb => by subst ha hb; rw [Bool.eq_iff_iff, Nat.ble_eq, decide_eq_true_eq]; exact Int.ofNat_le.symm) rfl

theorem bin1_eq {fi : IntKind → Int → Int → Option AVal} {fs : Nat → Nat → Nat → Nat → Option AVal} {d : Option AVal} {x y r : AVal} (h : bin1 fi fs d x y = some r) :
    (∃ k a b, x = .int k a ∧ y = .int k b ∧ fi k a b = some r) ∨ (∃ n v m u, x = .str n v ∧ y = .str m u ∧ fs n v m u = some r) ∨
      (d = some r ∧ (∀ k a, x ≠ .int k a) ∧ ∀ n v, x ≠ .str n v) := by
  cases x with
  | int k a =>
    obtain ⟨k', b, hy, h1⟩ := onInt_eq.1 (show onInt y (fun k' b => ifB (keq k k') (fi k a b)) = some r from h)
    obtain ⟨hk, h2⟩ := ifB_eq.1 h1
    have := keq_eq.1 hk; subst this
    exact .inl ⟨_, _, _, rfl, hy, h2⟩
  | str n v =>
    obtain ⟨m, u, hy, h1⟩ := onStr_eq.1 (show onStr y (fun m u => fs n v m u) = some r from h)
    exact .inr (.inl ⟨_, _, _, _, rfl, hy, h1⟩)
  | _ => exact .inr (.inr ⟨h, nofun, nofun⟩)

/-! ## equality -/
theorem strB {n v m u : Nat} {a b : ByteArray} (h : StrRel n v a) (g : StrRel m u b) : (a == b) = strEq n v m u := by
  rw [strEq_eq h g, beq_toListBytes, toList_data, toList_data]
theorem strB' {n v m u : Nat} {a b : ByteArray} (h : StrRel n v a) (g : StrRel m u b) : (a.toList == b.toList) = strEq n v m u := by
  rw [strEq_eq h g, toList_data, toList_data]

theorem eqPlain_eq {k : TK} {x y : AVal} {r : Bool} (h : eqPlain k x y = some r) :
    (k = .b ∧ ∃ a b, x = .bool a ∧ y = .bool b ∧ r = (a == b)) ∨ (k = .i ∧ ∃ j a b, x = .int j a ∧ y = .int j b ∧ r = (a == b)) ∨
      (k = .s ∧ ∃ n v m u, x = .str n v ∧ y = .str m u ∧ r = strEq n v m u) := by
  unfold eqPlain at h
  split at h
  · cases h; exact .inl ⟨rfl, _, _, rfl, rfl, rfl⟩
  · obtain ⟨hk, h2⟩ := ifB_eq.1 h
    have := keq_eq.1 hk; subst this
    injection h2 with h2
    exact .inr (.inl ⟨rfl, _, _, _, rfl, rfl, by rw [← h2, ieq_eq]⟩)
  · cases h; exact .inr (.inr ⟨rfl, _, _, _, _, rfl, rfl, rfl⟩)
  · cases h

/-- what a type is, for its kind -/
def HasK (P : Program) (t : TypeId) : TK → Prop
  | .b => P.underlying t = some .bool
  | .i => ∃ k, P.underlying t = some (.int k)
  | .s => P.underlying t = some .string
  | _ => False

theorem equalIn_plain {P : Program} {β : Map} {w : World} {d : Nat} {t : TypeId} {k : TK} (ht : HasK P t k) {x y : AVal} {x' y' : Value} {r : Bool}
    (hx : VRel β x x') (hy : VRel β y y') (h : eqPlain k x y = some r) : (Op.equalIn (d + 1) t x' y').run P w = .ok r w := by
  rcases eqPlain_eq h with ⟨rfl, a, b, rfl, rfl, rfl⟩ | ⟨rfl, j, a, b, rfl, rfl, rfl⟩ | ⟨rfl, n, v, m, u, rfl, rfl, rfl⟩
  · cases hx; cases hy; exact run_equalIn_bool' w d t a b ht
  · obtain ⟨k', ht⟩ := ht
    cases hx; cases hy; exact run_equalIn_int w d t _ k' a b ht
  · cases hx with
    | str h1 => cases hy with
      | str h2 => rw [← strB' h1 h2]; exact run_equalIn_string w d t _ _ ht

theorem eqCells_nil {l m : List AVal} {r : Bool} (h : eqCells [] l m = some r) : l = [] ∧ m = [] ∧ r = true := by
  cases l with
  | nil => cases m with
    | nil => cases h; exact ⟨rfl, rfl, rfl⟩
    | cons => cases h
  | cons => cases m <;> cases h
theorem eqCells_cons {k : TK} {ks : List TK} {l m : List AVal} {r : Bool} (h : eqCells (k :: ks) l m = some r) :
    ∃ a l' b m' t u, l = a :: l' ∧ m = b :: m' ∧ eqPlain k a b = some t ∧ eqCells ks l' m' = some u ∧ r = (t && u) := by
  cases l with
  | nil => cases h
  | cons a l => cases m with
    | nil => cases h
    | cons b m =>
      obtain ⟨t, h1, h2⟩ := onOpt_eq.1 (show onOpt (eqPlain k a b) (fun t => onOpt (eqCells ks l m) fun r => some (and t r)) = some r from h)
      obtain ⟨u, h3, h4⟩ := onOpt_eq.1 h2
      cases h4
      exact ⟨a, l, b, m, t, u, rfl, rfl, h1, h3, rfl⟩
theorem eqCells_length : ∀ {ks : List TK} {l m : List AVal} {r : Bool}, eqCells ks l m = some r → l.length = ks.length ∧ m.length = ks.length
  | [], _, _, _, h => by obtain ⟨rfl, rfl, _⟩ := eqCells_nil h; exact ⟨rfl, rfl⟩
  | k :: ks, _, _, _, h => by
    obtain ⟨a, l', b, m', t, u, rfl, rfl, _, h2, _⟩ := eqCells_cons h
    obtain ⟨h3, h4⟩ := eqCells_length h2
    exact ⟨by simp [h3], by simp [h4]⟩
theorem eqCells_append : ∀ {ks ks' : List TK} {l m : List AVal} {r : Bool}, eqCells (ks ++ ks') l m = some r →
    ∃ t u, eqCells ks (l.take ks.length) (m.take ks.length) = some t ∧ eqCells ks' (l.drop ks.length) (m.drop ks.length) = some u ∧ r = (t && u)
  | [], _, _, _, r, h => ⟨true, r, by simp [eqCells], by simpa using h, by simp⟩
  | k :: ks, ks', _, _, _, h => by
    obtain ⟨a, l', b, m', t, u, rfl, rfl, h1, h2, rfl⟩ := eqCells_cons h
    obtain ⟨t', u', h3, h4, rfl⟩ := eqCells_append h2
    refine ⟨t && t', u', ?_, by simpa using h4, by simp [Bool.and_assoc]⟩
    show onOpt (eqPlain k a b) (fun t => onOpt (eqCells ks (l'.take ks.length) (m'.take ks.length)) fun r => some (and t r)) = _
    rw [h1, h3]; rfl

theorem hasK_of {P : Program} {d : Nat} {t : TypeId} {ks : List TK} (h : flatK P (d + 1) t = some ks) :
    (∃ k, ks = [k] ∧ HasK P t k) ∨ ∃ fs, P.underlying t = some (.struct fs) ∧ P.stoodInHeld t = false ∧ flatGo P (flatK P d) fs.toList 0 = some ks := by
  unfold flatK at h
  split at h
  · cases h; exact .inl ⟨_, rfl, by assumption⟩
  · cases h; exact .inl ⟨_, rfl, ⟨_, by assumption⟩⟩
  · cases h; exact .inl ⟨_, rfl, by assumption⟩
  · rename_i fs hfs
    split at h
    · cases h
    · rename_i hn
      exact .inr ⟨fs, hfs, by simpa using hn, h⟩
  · cases h

/-- a value of a type, by its cells -/
def PartRel (P : Program) (β : Map) (t : TypeId) (l : List AVal) (v : Value) : Prop :=
  (agg? P t = some true ∧ ∃ a : Array Value, v = .agg a ∧ LRel β l a.toList) ∨ (agg? P t = some false ∧ ∃ x, l = [x] ∧ VRel β x v)

theorem run_isAgg {P : Program} {t : TypeId} {b : Bool} (h : agg? P t = some b) (w : World) : (isAgg t).run P w = .ok b w := by
  unfold agg? at h
  cases hu : P.underlying t with
  | none => rw [hu] at h; cases h
  | some d =>
    rw [hu] at h
    simp only [Option.map_some, Option.some.injEq] at h
    unfold isAgg
    simp only [Sem.run_bind, run_underlying hu, Result.andThen_ok]
    cases d <;> simp_all
theorem run_sizeOf' {P : Program} {t : TypeId} {n : Nat} (h : size? P t = some n) (w : World) : (sizeOf t).run P w = .ok n w := by
  unfold size? at h
  cases hu : P.info? t with
  | none => rw [hu] at h; cases h
  | some i =>
    rw [hu] at h
    simp only [Option.map_some, Option.some.injEq] at h
    unfold sizeOf
    simp [run_typeInfo w hu, h]

theorem part_ok {P : Program} {β : Map} {t : TypeId} {l : List AVal} {cs : Array Value} {off n : Nat} {b : Bool} (ha : agg? P t = some b) (hs : size? P t = some n)
    (hl : LRel β l cs.toList) (hb : b = false → n = 1) (hn : off + n ≤ l.length) (w : World) :
    ∃ v, (part t cs off).run P w = .ok v w ∧ PartRel P β t ((l.drop off).take n) v := by
  unfold part
  simp only [Sem.run_bind, run_isAgg ha, Result.andThen_ok]
  cases b with
  | true =>
    simp only [if_true, Sem.run_bind, run_sizeOf' hs, Result.andThen_ok, Sem.run_pure]
    refine ⟨_, rfl, .inl ⟨ha, _, rfl, ?_⟩⟩
    rw [Array.toList_extract, List.extract_eq_take_drop, Nat.add_sub_cancel_left]
    exact (hl.drop off).take n
  | false =>
    have h1 := hb rfl; subst h1
    simp only [Bool.false_eq_true, if_false]
    have hlt : off < l.length := by omega
    obtain ⟨v', h2, h3⟩ := hl.get (i := off) (v := l[off]) (by simp [hlt])
    have h4 : cs[off]? = some v' := by rw [← Array.getElem?_toList]; exact h2
    rw [h4]
    refine ⟨v', rfl, .inr ⟨ha, l[off], ?_, h3⟩⟩
    rw [List.drop_eq_getElem_cons hlt]; rfl

theorem agg_of_hasK {P : Program} {t : TypeId} {k : TK} (h : HasK P t k) : agg? P t = some false := by
  unfold agg?
  cases k <;> simp [HasK] at h
  · rw [h]; rfl
  · obtain ⟨k, h⟩ := h; rw [h]; rfl
  · rw [h]; rfl

def EqOk (P : Program) (d : Nat) : Prop := ∀ t ks, flatK P d t = some ks → ∀ (β : Map) (l m : List AVal) (x y : Value) (r : Bool) (n : Nat) (w : World), d ≤ n →
  PartRel P β t l x → PartRel P β t m y → eqCells ks l m = some r → (Op.equalIn n t x y).run P w = .ok r w

theorem eqFields_ok {P : Program} {d : Nat} (ih : EqOk P d) : ∀ (fs : List Field) (off : Nat) (ks : List TK), flatGo P (flatK P d) fs off = some ks →
    ∀ (β : Map) (l m : List AVal) (xs ys : Array Value) (r : Bool) (n : Nat) (w : World), d ≤ n → LRel β l xs.toList → LRel β m ys.toList →
      eqCells ks (l.drop off) (m.drop off) = some r → (Op.eqFields n xs ys fs).run P w = .ok r w := by
  intro fs
  induction fs with
  | nil =>
    intro off ks h β l m xs ys r n w hn hl hm he
    unfold flatGo at h; cases h
    obtain ⟨_, _, rfl⟩ := eqCells_nil he
    rfl
  | cons f fs ihf =>
    intro off ks h β l m xs ys r n w hn hl hm he
    unfold flatGo at h
    split at h
    · cases h
    rename_i hname
    split at h
    · cases h
    rename_i hoff
    have hoff : f.offset = off := Decidable.not_not.1 hoff
    split at h
    · cases h
    rename_i k1 hk1
    split at h
    · cases h
    rename_i hpos
    split at h
    · cases h
    rename_i hsz
    have hsz : size? P f.type = some k1.length := Decidable.not_not.1 hsz
    split at h
    · cases h
    rename_i k2 hk2
    cases h
    simp only [Op.eqFields, ne_eq, hname, not_false_eq_true, if_true]
    -- the part's shape
    obtain ⟨b, ha, hb⟩ : ∃ b, agg? P f.type = some b ∧ (b = false → k1.length = 1) := by
      cases d with
      | zero => unfold flatK at hk1; cases hk1
      | succ d =>
        rcases hasK_of hk1 with ⟨k, rfl, hk⟩ | ⟨fs', hu, _, _⟩
        · exact ⟨false, agg_of_hasK hk, fun _ => rfl⟩
        · exact ⟨true, by unfold agg?; rw [hu]; rfl, nofun⟩
    have hlen := eqCells_length he
    simp only [List.length_drop, List.length_append] at hlen
    obtain ⟨t, u, h1, h2, rfl⟩ := eqCells_append he
    have hle : off + k1.length ≤ l.length ∧ off + k1.length ≤ m.length := by
      omega
    obtain ⟨x, hx1, hx2⟩ := part_ok ha hsz hl hb hle.1 w
    obtain ⟨y, hy1, hy2⟩ := part_ok ha hsz hm hb hle.2 w
    rw [hoff]
    simp only [Sem.run_bind, hx1, hy1, Result.andThen_ok]
    rw [ih _ _ hk1 β _ _ x y t n w hn hx2 hy2 h1]
    simp only [Result.andThen_ok]
    cases t with
    | false => rfl
    | true =>
      simp only [List.drop_drop] at h2
      simp only [Bool.not_true, Bool.false_eq_true, if_false, Bool.true_and]
      exact ihf _ _ hk2 β l m xs ys u n w hn hl hm (by simpa [Nat.add_comm] using h2)

theorem eqOk (P : Program) : ∀ d, EqOk P d := by
  intro d
  induction d with
  | zero => intro t ks h; unfold flatK at h; cases h
  | succ d ih =>
    intro t ks h β l m x y r n w hn hx hy he
    obtain ⟨n, rfl⟩ : ∃ n', n = n' + 1 := ⟨n - 1, by omega⟩
    rcases hasK_of h with ⟨k, rfl, hk⟩ | ⟨fs, hu, hst, hgo⟩
    · have ha := agg_of_hasK hk
      rcases hx with ⟨h1, _⟩ | ⟨_, a, rfl, hx⟩
      · rw [ha] at h1; cases h1
      rcases hy with ⟨h1, _⟩ | ⟨_, b, rfl, hy⟩
      · rw [ha] at h1; cases h1
      obtain ⟨a', _, b', _, t', u, e1, e2, h1, h2, rfl⟩ := eqCells_cons he
      cases e1; cases e2
      obtain ⟨_, _, rfl⟩ := eqCells_nil h2
      rw [Bool.and_true]
      exact equalIn_plain hk hx hy h1
    · have ha : agg? P t = some true := by unfold agg?; rw [hu]; rfl
      rcases hx with ⟨_, xs, rfl, hx⟩ | ⟨h1, _⟩
      · rcases hy with ⟨_, ys, rfl, hy⟩ | ⟨h1, _⟩
        · have hf : P.fieldsOf t = fs := by unfold Program.fieldsOf; rw [hu]
          rw [run_equalIn_struct w n t xs ys (by rw [hf]; exact hu) hst, hf]
          exact eqFields_ok ih _ _ _ hgo β l m xs ys r n w (by omega) hx hy (by simpa using he)
        · rw [ha] at h1; cases h1
      · rw [ha] at h1; cases h1

end Go.Am
