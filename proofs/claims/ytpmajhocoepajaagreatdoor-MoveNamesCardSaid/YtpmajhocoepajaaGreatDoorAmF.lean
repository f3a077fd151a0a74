/- A part of the library Am: an abstract machine for the model, that a kernel evaluates. -/
import Derived.Test.YtpmajhocoepajaaGreatDoorAmE
set_option linter.unusedVariables false
set_option linter.unusedSimpArgs false
namespace Go.Am

theorem run_guard_other {P : Program} {op : BinOp} (h : (op matches .eql | .neq) = false) (t : TypeId) (x y : Operand) (a b : Value) (w : World) :
    (eqGuard op t x y a b).run P w = .ok () w := by
  cases op <;> simp at h <;> simp [eqGuard]

theorem run_binOp_int {P : Program} {op : BinOp} {k : IntKind} {a b : Int} (t : TypeId) (w : World) (r : Value)
    (h : match op with
      | .add => r = .int k (k.wrap (a + b)) | .sub => r = .int k (k.wrap (a - b)) | .mul => r = .int k (k.wrap (a * b))
      | .quo => b ≠ 0 ∧ r = .int k (k.wrap (a.tdiv b)) | .rem => b ≠ 0 ∧ r = .int k (a.tmod b)
      | .and => r = .int k (k.wrap (BitVec.ofInt k.bits a &&& BitVec.ofInt k.bits b).toNat)
      | .or => r = .int k (k.wrap (BitVec.ofInt k.bits a ||| BitVec.ofInt k.bits b).toNat)
      | .xor => r = .int k (k.wrap (BitVec.ofInt k.bits a ^^^ BitVec.ofInt k.bits b).toNat)
      | .andNot => r = .int k (k.wrap (BitVec.ofInt k.bits a &&& ~~~BitVec.ofInt k.bits b).toNat)
      | .eql => r = .bool (a == b) | .neq => r = .bool (a != b) | .lss => r = .bool (decide (a < b)) | .leq => r = .bool (decide (a ≤ b))
      | .gtr => r = .bool (decide (b < a)) | .geq => r = .bool (decide (b ≤ a)) | _ => False) :
    (binOp op t (.int k a) (.int k b)).run P w = .ok r w := by
  cases op <;> simp only at h <;> first
    | exact h.elim
    | (subst h; simp [binOp, Op.intArith, Op.intBits, Op.intCmp]; done)
    | (obtain ⟨h1, rfl⟩ := h; simp [binOp, Op.intDiv, h1]; done)
    | (subst h; simp [binOp, Op.intCmp, GT.gt, GE.ge]; done)

theorem run_binOp_str {P : Program} {op : BinOp} {a b : ByteArray} (t : TypeId) (w : World) (r : Value)
    (h : match op with
      | .add => a.size + b.size ≤ 1000000000 ∧ r = .string (a ++ b)
      | .eql => r = .bool (a.toList == b.toList) | .neq => r = .bool !(a.toList == b.toList)
      | .lss => r = .bool (Op.bytesLess a.toList b.toList) | .leq => r = .bool (Op.bytesLess a.toList b.toList || a.toList == b.toList)
      | .gtr => r = .bool !(Op.bytesLess a.toList b.toList || a.toList == b.toList) | .geq => r = .bool !(Op.bytesLess a.toList b.toList) | _ => False) :
    (binOp op t (.string a) (.string b)).run P w = .ok r w := by
  cases op <;> simp only at h <;> first
    | exact h.elim
    | (obtain ⟨h1, rfl⟩ := h
       have h2 : ¬ (((a.size + b.size : Nat) : Int) > IntKind.i64.max) := by
         have : IntKind.i64.max = 9223372036854775807 := by decide
         omega
       simp only [binOp, Op.stringOp, if_neg h2, Sem.run_pure]; done)
    | (subst h; simp [binOp, Op.stringOp]; done)

theorem run_equal {P : Program} {t : TypeId} {x y : Value} {r : Bool} {w : World} (h : (Op.equalIn 10000 t x y).run P w = .ok r w)
    (hx : ∀ k n, x ≠ .int k n) (hs : ∀ s, x ≠ .string s) (hf : ∀ k b, x ≠ .float k b) (hc : ∀ k a b, x ≠ .complex k a b) :
    (binOp .eql t x y).run P w = .ok (.bool r) w ∧ (binOp .neq t x y).run P w = .ok (.bool !r) w := by
  have h' : (Op.equal t x y).run P w = .ok r w := h
  constructor <;> unfold binOp <;> cases x <;> first
      | exact absurd rfl (hx _ _)
      | exact absurd rfl (hs _)
      | exact absurd rfl (hf _ _)
      | exact absurd rfl (hc _ _ _)
      | (simp [h']; done)
      | (cases y <;> simp [h']; done)

theorem eqKind_und {P : Program} {t : TypeId} {k : TK} (h : eqKind P t = some k) :
    match k with
    | .b => P.underlying t = some .bool
    | .i => ∃ k, P.underlying t = some (.int k)
    | .s => P.underlying t = some .string
    | .p => ∃ e, P.underlying t = some (.pointer e)
    | .f => ∃ ms, P.underlying t = some (.interface ms)
    | .v => ∃ e, P.underlying t = some (.slice e)
    | .m => ∃ a b, P.underlying t = some (.map a b)
    | .n => ∃ a b c, P.underlying t = some (.func a b c)
    | .agg ks => P.eqGuardType P.depth t = false ∧ flatK P 6 t = some ks ∧ agg? P t = some true := by
  unfold eqKind at h
  split at h
  · cases h; assumption
  · cases h; exact ⟨_, by assumption⟩
  · cases h; assumption
  · cases h; exact ⟨_, by assumption⟩
  · cases h; exact ⟨_, by assumption⟩
  · cases h; exact ⟨_, by assumption⟩
  · cases h; exact ⟨_, _, by assumption⟩
  · cases h; exact ⟨_, _, _, by assumption⟩
  · rename_i fs hu
    split at h
    · cases h
    rename_i hg
    cases hk : flatK P 6 t with
    | none => rw [hk] at h; cases h
    | some ks =>
      rw [hk] at h; cases h
      exact ⟨by simpa using hg, rfl, by unfold agg?; rw [hu]; rfl⟩
  · cases h

theorem deep {P : Program} {t : TypeId} {x y : Value} {r : Bool} {w : World} (h : ∀ d, (Op.equalIn (d + 1) t x y).run P w = .ok r w) : (Op.equalIn 10000 t x y).run P w = .ok r w := h 9999

theorem eqAny_ok {P : Program} {β : Map} {t : TypeId} {k : TK} (hk : eqKind P t = some k) {op : BinOp} (hop : op = .eql ∨ op = .neq) {xo yo : Operand} {x y : AVal} {x' y' : Value} {r : Bool}
    (hx : VRel β x x') (hy : VRel β y y') (h : eqAny (isC xo || isC yo) k x y = some r) (w : World) :
    (eqGuard op t xo yo x' y').run P w = .ok () w ∧ (Op.equalIn 10000 t x' y').run P w = .ok r w ∧
      (∀ k n, x' ≠ .int k n) ∧ (∀ s, x' ≠ .string s) ∧ (∀ k b, x' ≠ .float k b) ∧ (∀ k a b, x' ≠ .complex k a b) := by
  have hu := eqKind_und hk
  have hg : ∀ a b : Value, (match a, b with | .nilIface, .nilIface => False | .agg _, .agg _ => False | _, _ => True) → (eqGuard op t xo yo a b).run P w = .ok () w := by
    intro a b hab
    rcases hop with rfl | rfl <;> cases a <;> cases b <;> simp at hab <;> simp [eqGuard]
  unfold eqAny at h
  split at h
  · cases hx; cases hy; cases h
    exact ⟨hg _ _ trivial, run_equalIn_bool' w 9999 t _ _ hu, nofun, nofun, nofun, nofun⟩
  · cases hx; cases hy; cases h
    obtain ⟨e, hu⟩ := hu
    exact ⟨hg _ _ trivial, deep fun d => by simp [Op.equalIn, run_underlying hu], nofun, nofun, nofun, nofun⟩
  · cases hx; cases hy; cases h
    obtain ⟨e, hu⟩ := hu
    exact ⟨hg _ _ trivial, deep fun d => by simp [Op.equalIn, run_underlying hu], nofun, nofun, nofun, nofun⟩
  · cases hx; cases hy; cases h
    obtain ⟨e, hu⟩ := hu
    exact ⟨hg _ _ trivial, deep fun d => by simp [Op.equalIn, run_underlying hu], nofun, nofun, nofun, nofun⟩
  · cases hx; cases hy
    obtain ⟨hnn, h⟩ := ifB_eq.1 h
    cases h
    obtain ⟨e, hu⟩ := hu
    refine ⟨?_, deep fun d => by simp [Op.equalIn, run_underlying hu], nofun, nofun, nofun, nofun⟩
    rw [Bool.or_eq_true] at hnn
    rcases hop with rfl | rfl <;> rcases hnn with hnn | hnn <;> unfold isC at hnn <;> split at hnn <;> simp at hnn <;> simp [eqGuard]
  · cases hx; cases hy; cases h
    obtain ⟨e, hu⟩ := hu
    exact ⟨hg _ _ trivial, deep fun d => by simp [Op.equalIn, run_underlying hu], nofun, nofun, nofun, nofun⟩
  · cases hx; cases hy; cases h
    obtain ⟨e, hu⟩ := hu
    exact ⟨hg _ _ trivial, deep fun d => by simp [Op.equalIn, run_underlying hu], nofun, nofun, nofun, nofun⟩
  · obtain ⟨e, hu⟩ := hu
    cases hx <;> cases hy <;> cases h <;>
      exact ⟨hg _ _ trivial, deep fun d => by simp [Op.equalIn, run_underlying hu], nofun, nofun, nofun, nofun⟩
  · obtain ⟨e, hu⟩ := hu
    cases hx <;> cases hy <;> cases h <;>
      exact ⟨hg _ _ trivial, deep fun d => by simp [Op.equalIn, run_underlying hu], nofun, nofun, nofun, nofun⟩
  · obtain ⟨e, hu⟩ := hu
    cases hx <;> cases hy <;> cases h <;>
      exact ⟨hg _ _ trivial, deep fun d => by simp [Op.equalIn, run_underlying hu], nofun, nofun, nofun, nofun⟩
  · cases hx; cases hy; cases h
    obtain ⟨e, e2, hu⟩ := hu
    exact ⟨hg _ _ trivial, deep fun d => by simp [Op.equalIn, run_underlying hu], nofun, nofun, nofun, nofun⟩
  · cases hx; cases hy; cases h
    obtain ⟨e, e2, hu⟩ := hu
    exact ⟨hg _ _ trivial, deep fun d => by simp [Op.equalIn, run_underlying hu], nofun, nofun, nofun, nofun⟩
  · cases hx; cases hy; cases h
    obtain ⟨e, e2, hu⟩ := hu
    exact ⟨hg _ _ trivial, deep fun d => by simp [Op.equalIn, run_underlying hu], nofun, nofun, nofun, nofun⟩
  · cases hx; cases hy; cases h
    obtain ⟨e, e2, e3, hu⟩ := hu
    exact ⟨hg _ _ trivial, deep fun d => by simp [Op.equalIn, run_underlying hu], nofun, nofun, nofun, nofun⟩
  · cases hx; cases hy; cases h
    obtain ⟨e, e2, e3, hu⟩ := hu
    exact ⟨hg _ _ trivial, deep fun d => by simp [Op.equalIn, run_underlying hu], nofun, nofun, nofun, nofun⟩
  · cases hx; cases hy; cases h
    obtain ⟨e, e2, e3, hu⟩ := hu
    exact ⟨hg _ _ trivial, deep fun d => by simp [Op.equalIn, run_underlying hu], nofun, nofun, nofun, nofun⟩
  · cases hx with
    | agg h1 _ => cases hy with
      | agg h2 _ =>
        obtain ⟨u1, u2, u3⟩ := hu
        refine ⟨?_, eqOk P 6 t _ u2 β _ _ _ _ r 10000 w (by omega) (.inl ⟨u3, _, rfl, h1⟩) (.inl ⟨u3, _, rfl, h2⟩) h, nofun, nofun, nofun, nofun⟩
        exact run_eqGuard_agg w op t xo yo _ _ u1
  · cases h

theorem bin_ok {P : Program} {β : Map} {t : TypeId} {op : BinOp} {nn : Bool} {k : TK} (hk : op = .eql ∨ op = .neq → eqKind P t = some k) {xo yo : Operand}
    {x y v : AVal} {x' y' : Value} (hx : VRel β x x') (hy : VRel β y y') (h : cBin op (isC xo || isC yo) k x y = some v) (w : World) :
    ∃ v', (do eqGuard op t xo yo x' y'; binOp op t x' y' : Sem Value).run P w = .ok v' w ∧ VRel β v v' := by
  have hgi : ∀ (k : IntKind) (a b : Int), (eqGuard op t xo yo (.int k a) (.int k b)).run P w = .ok () w := by
    intro k a b; cases op <;> simp [eqGuard]
  have hgs : ∀ (a b : ByteArray), (eqGuard op t xo yo (.string a) (.string b)).run P w = .ok () w := by
    intro a b; cases op <;> simp [eqGuard]
  -- two numbers, two texts: what the function gives, what the model runs to
  have ints : ∀ (k : IntKind) (a b : Int) (r : AVal), x = .int k a → y = .int k b → (∃ r', VRel β r r' ∧ (binOp op t (.int k a) (.int k b)).run P w = .ok r' w) →
      ∃ v', (do eqGuard op t xo yo x' y'; binOp op t x' y' : Sem Value).run P w = .ok v' w ∧ VRel β r v' := by
    rintro k a b r rfl rfl ⟨r', h1, h2⟩
    cases hx; cases hy
    exact ⟨r', by simp only [Sem.run_bind, hgi, Result.andThen_ok, h2], h1⟩
  have strs : ∀ (n u m q : Nat) (r : AVal), x = .str n u → y = .str m q → (∀ a b, StrRel n u a → StrRel m q b → ∃ r', VRel β r r' ∧ (binOp op t (.string a) (.string b)).run P w = .ok r' w) →
      ∃ v', (do eqGuard op t xo yo x' y'; binOp op t x' y' : Sem Value).run P w = .ok v' w ∧ VRel β r v' := by
    rintro n u m q r rfl rfl hr
    cases hx with
    | str h1 => cases hy with
      | str h2 =>
        obtain ⟨r', h3, h4⟩ := hr _ _ h1 h2
        exact ⟨r', by simp only [Sem.run_bind, hgs, Result.andThen_ok, h4], h3⟩
  cases op
  case add =>
    rcases bin1_eq h with ⟨k, a, b, e1, e2, e3⟩ | ⟨n, u, m, q, e1, e2, e3⟩ | ⟨e, _⟩
    · cases e3; exact ints k a b _ e1 e2 ⟨_, .int _ _, run_binOp_int t w _ (by rw [iadd_eq])⟩
    · obtain ⟨h1, e3⟩ := ifB_eq.1 e3
      cases e3
      refine strs n u m q _ e1 e2 fun a b ha hb => ⟨_, .str (ha.append hb), run_binOp_str t w _ ⟨?_, rfl⟩⟩
      have := Nat.le_of_ble_eq_true h1
      rw [← ha.1, ← hb.1]; exact this
    · cases e
  case sub =>
    rcases bin1_eq h with ⟨k, a, b, e1, e2, e3⟩ | ⟨n, u, m, q, e1, e2, e3⟩ | ⟨e, _⟩
    · cases e3; exact ints k a b _ e1 e2 ⟨_, .int _ _, run_binOp_int t w _ (by rw [isub_eq])⟩
    · cases e3
    · cases e
  case mul =>
    rcases bin1_eq h with ⟨k, a, b, e1, e2, e3⟩ | ⟨n, u, m, q, e1, e2, e3⟩ | ⟨e, _⟩
    · cases e3; exact ints k a b _ e1 e2 ⟨_, .int _ _, run_binOp_int t w _ (by rw [imul_eq])⟩
    · cases e3
    · cases e
  case quo =>
    rcases bin1_eq h with ⟨k, a, b, e1, e2, e3⟩ | ⟨n, u, m, q, e1, e2, e3⟩ | ⟨e, _⟩
    · cases hz : ieq b 0 with
      | true => rw [hz] at e3; cases e3
      | false =>
        rw [hz] at e3; cases e3
        have hz' : b ≠ 0 := by rw [ieq_eq] at hz; simpa using hz
        exact ints k a b _ e1 e2 ⟨_, .int _ _, run_binOp_int t w _ ⟨hz', by rw [iquo_eq]⟩⟩
    · cases e3
    · cases e
  case rem =>
    rcases bin1_eq h with ⟨k, a, b, e1, e2, e3⟩ | ⟨n, u, m, q, e1, e2, e3⟩ | ⟨e, _⟩
    · cases hz : ieq b 0 with
      | true => rw [hz] at e3; cases e3
      | false =>
        rw [hz] at e3; cases e3
        have hz' : b ≠ 0 := by rw [ieq_eq] at hz; simpa using hz
        exact ints k a b _ e1 e2 ⟨_, .int _ _, run_binOp_int t w _ ⟨hz', by rw [irem_eq]⟩⟩
    · cases e3
    · cases e
  case and =>
    rcases bin1_eq h with ⟨k, a, b, e1, e2, e3⟩ | ⟨n, u, m, q, e1, e2, e3⟩ | ⟨e, _⟩
    · cases e3; exact ints k a b _ e1 e2 ⟨_, .int _ _, run_binOp_int t w _ (by rw [iand_eq])⟩
    · cases e3
    · cases e
  case or =>
    rcases bin1_eq h with ⟨k, a, b, e1, e2, e3⟩ | ⟨n, u, m, q, e1, e2, e3⟩ | ⟨e, _⟩
    · cases e3; exact ints k a b _ e1 e2 ⟨_, .int _ _, run_binOp_int t w _ (by rw [ior_eq])⟩
    · cases e3
    · cases e
  case xor =>
    rcases bin1_eq h with ⟨k, a, b, e1, e2, e3⟩ | ⟨n, u, m, q, e1, e2, e3⟩ | ⟨e, _⟩
    · cases e3; exact ints k a b _ e1 e2 ⟨_, .int _ _, run_binOp_int t w _ (by rw [ixor_eq])⟩
    · cases e3
    · cases e
  case andNot =>
    rcases bin1_eq h with ⟨k, a, b, e1, e2, e3⟩ | ⟨n, u, m, q, e1, e2, e3⟩ | ⟨e, _⟩
    · cases e3; exact ints k a b _ e1 e2 ⟨_, .int _ _, run_binOp_int t w _ rfl⟩
    · cases e3
    · cases e
  case shl =>
    obtain ⟨k, a, rfl, h⟩ := onInt_eq.1 h
    obtain ⟨k', n, rfl, h⟩ := onNat_eq.1 h
    cases h
    cases hx; cases hy
    refine ⟨_, ?_, .int _ _⟩
    have : ¬ (Int.ofNat n < 0) := by simp
    simp only [Sem.run_bind, run_guard_other (op := .shl) rfl, Result.andThen_ok, binOp, Op.shift, if_neg this, Sem.run_pure, ishl_eq]
    rfl
  case shr =>
    obtain ⟨k, a, rfl, h⟩ := onInt_eq.1 h
    obtain ⟨k', n, rfl, h⟩ := onNat_eq.1 h
    cases h
    cases hx; cases hy
    refine ⟨_, ?_, .int _ _⟩
    have : ¬ (Int.ofNat n < 0) := by simp
    simp only [Sem.run_bind, run_guard_other (op := .shr) rfl, Result.andThen_ok, binOp, Op.shift, if_neg this, Sem.run_pure, ishr_eq]
    rfl
  case eql =>
    rcases bin1_eq h with ⟨k, a, b, e1, e2, e3⟩ | ⟨n, u, m, q, e1, e2, e3⟩ | ⟨e, _⟩
    · cases e3; exact ints k a b _ e1 e2 ⟨_, .bool _, run_binOp_int t w _ (by rw [ieq_eq])⟩
    · cases e3; exact strs n u m q _ e1 e2 fun a b ha hb => ⟨_, .bool _, run_binOp_str t w _ (by rw [strB' ha hb])⟩
    · obtain ⟨r, e1, e2⟩ := onOpt_eq.1 e
      cases e2
      obtain ⟨g1, g2, g3, g4, g5, g6⟩ := eqAny_ok (hk (.inl rfl)) (.inl rfl) hx hy e1 w
      exact ⟨_, by simp only [Sem.run_bind, g1, Result.andThen_ok]; exact (run_equal g2 g3 g4 g5 g6).1, .bool _⟩
  case neq =>
    rcases bin1_eq h with ⟨k, a, b, e1, e2, e3⟩ | ⟨n, u, m, q, e1, e2, e3⟩ | ⟨e, _⟩
    · cases e3; exact ints k a b _ e1 e2 ⟨_, .bool _, run_binOp_int t w _ (by rw [ieq_eq]; rfl)⟩
    · cases e3; exact strs n u m q _ e1 e2 fun a b ha hb => ⟨_, .bool _, run_binOp_str t w _ (by rw [strB' ha hb])⟩
    · obtain ⟨r, e1, e2⟩ := onOpt_eq.1 e
      cases e2
      obtain ⟨g1, g2, g3, g4, g5, g6⟩ := eqAny_ok (hk (.inr rfl)) (.inr rfl) hx hy e1 w
      exact ⟨_, by simp only [Sem.run_bind, g1, Result.andThen_ok]; exact (run_equal g2 g3 g4 g5 g6).2, .bool _⟩
  case lss =>
    rcases bin1_eq h with ⟨k, a, b, e1, e2, e3⟩ | ⟨n, u, m, q, e1, e2, e3⟩ | ⟨e, _⟩
    · cases e3; exact ints k a b _ e1 e2 ⟨_, .bool _, run_binOp_int t w _ (by rw [ilt_eq])⟩
    · cases e3; exact strs n u m q _ e1 e2 fun a b ha hb => ⟨_, .bool _, run_binOp_str t w _ (by rw [strLess_eq ha hb, toList_data, toList_data])⟩
    · cases e
  case leq =>
    rcases bin1_eq h with ⟨k, a, b, e1, e2, e3⟩ | ⟨n, u, m, q, e1, e2, e3⟩ | ⟨e, _⟩
    · cases e3; exact ints k a b _ e1 e2 ⟨_, .bool _, run_binOp_int t w _ (by rw [ile_eq])⟩
    · cases e3; exact strs n u m q _ e1 e2 fun a b ha hb => ⟨_, .bool _, run_binOp_str t w _ (by rw [strLess_eq ha hb, ← strB' ha hb, toList_data, toList_data])⟩
    · cases e
  case gtr =>
    rcases bin1_eq h with ⟨k, a, b, e1, e2, e3⟩ | ⟨n, u, m, q, e1, e2, e3⟩ | ⟨e, _⟩
    · cases e3; exact ints k a b _ e1 e2 ⟨_, .bool _, run_binOp_int t w _ (by rw [ilt_eq])⟩
    · cases e3; exact strs n u m q _ e1 e2 fun a b ha hb => ⟨_, .bool _, run_binOp_str t w _ (by rw [strLess_eq ha hb, ← strB' ha hb, toList_data, toList_data])⟩
    · cases e
  case geq =>
    rcases bin1_eq h with ⟨k, a, b, e1, e2, e3⟩ | ⟨n, u, m, q, e1, e2, e3⟩ | ⟨e, _⟩
    · cases e3; exact ints k a b _ e1 e2 ⟨_, .bool _, run_binOp_int t w _ (by rw [ile_eq])⟩
    · cases e3; exact strs n u m q _ e1 e2 fun a b ha hb => ⟨_, .bool _, run_binOp_str t w _ (by rw [strLess_eq ha hb, toList_data, toList_data])⟩
    · cases e

end Go.Am
