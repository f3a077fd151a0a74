/-
  Am, part S: texts as numbers.
-/
import Derived.Test.YtpmajhocoepajaaGreatDoorAmC
import GoSem.Op.String
namespace Go.Am

def val (l : List UInt8) : Nat := l.foldl (fun v c => v * 256 + c.toNat) 0

theorem foldl_val (l : List UInt8) : ∀ a, l.foldl (fun v c => v * 256 + c.toNat) a = a * 256 ^ l.length + val l := by
  induction l with
  | nil => intro a; simp [val]
  | cons c l ih =>
    intro a
    have h1 := ih (a * 256 + c.toNat)
    have h2 := ih (0 * 256 + c.toNat)
    simp only [List.foldl_cons, List.length_cons]
    rw [h1]
    unfold val
    simp only [List.foldl_cons]
    rw [h2, Nat.pow_succ, Nat.add_mul, Nat.mul_assoc a, Nat.mul_comm 256]
    simp only [Nat.zero_mul, Nat.zero_add, val]
    omega

theorem val_append (a b : List UInt8) : val (a ++ b) = val a * 256 ^ b.length + val b := by
  unfold val; rw [List.foldl_append]; exact foldl_val b _
theorem val_nil : val [] = 0 := rfl
theorem val_cons (c : UInt8) (l : List UInt8) : val (c :: l) = c.toNat * 256 ^ l.length + val l := by
  have := val_append [c] l; simp only [List.singleton_append] at this; rw [this]; simp [val]
theorem val_snoc (l : List UInt8) (c : UInt8) : val (l ++ [c]) = val l * 256 + c.toNat := by
  have := val_append l [c]; simp only [List.length_singleton, Nat.pow_one] at this; rw [this]; simp [val]

theorem val_lt (l : List UInt8) : val l < 256 ^ l.length := by
  induction l with
  | nil => simp [val]
  | cons c l ih =>
    rw [val_cons, List.length_cons, Nat.pow_succ]
    have h := c.toNat_lt
    have : c.toNat * 256 ^ l.length + 256 ^ l.length ≤ 256 * 256 ^ l.length := by
      rw [← Nat.succ_mul]; exact Nat.mul_le_mul_right _ (by omega)
    rw [Nat.mul_comm (256 ^ l.length) 256]; omega

theorem pow_pos' (n : Nat) : 0 < 256 ^ n := Nat.pow_pos (by decide)

theorem val_inj : ∀ {a b : List UInt8}, a.length = b.length → val a = val b → a = b := by
  intro a
  induction a with
  | nil => intro b h _; cases b with
    | nil => rfl
    | cons => simp at h
  | cons c a ih => intro b h hv; cases b with
    | nil => simp at h
    | cons d b =>
      have hl : a.length = b.length := by simpa using h
      rw [val_cons, val_cons, hl] at hv
      have h1 := val_lt a
      have h2 := val_lt b
      rw [hl] at h1
      have hp := pow_pos' b.length
      have hd : c.toNat = d.toNat := by
        have e1 : (c.toNat * 256 ^ b.length + val a) / 256 ^ b.length = c.toNat := by
          rw [Nat.mul_comm, Nat.mul_add_div hp, Nat.div_eq_of_lt h1]; simp
        have e2 : (d.toNat * 256 ^ b.length + val b) / 256 ^ b.length = d.toNat := by
          rw [Nat.mul_comm, Nat.mul_add_div hp, Nat.div_eq_of_lt h2]; simp
        rw [← e1, ← e2, hv]
      have hv' : val a = val b := by rw [hd] at hv; omega
      rw [ih hl hv', UInt8.toNat_inj.1 hd]

theorem strOf_foldl (l : List UInt8) : ∀ (a b : Nat), l.foldl (fun (p : Nat × Nat) c => (p.1 + 1, p.2 * 256 + c.toNat)) (a, b) = (a + l.length, l.foldl (fun v c => v * 256 + c.toNat) b) := by
  induction l with
  | nil => intro a b; simp
  | cons c l ih => intro a b; simp only [List.foldl_cons, ih, List.length_cons]; congr 1; omega

theorem strOf_eq (b : ByteArray) : strOf b = (b.size, val b.data.toList) := by
  unfold strOf; rw [strOf_foldl]
  show (0 + b.data.toList.length, _) = (b.data.size, _)
  rw [Nat.zero_add, Array.length_toList]; rfl

/-- a text here, a text there -/
def StrRel (n v : Nat) (s : ByteArray) : Prop := n = s.size ∧ v = val s.data.toList

theorem StrRel.len {n v : Nat} {s : ByteArray} (h : StrRel n v s) : n = s.data.toList.length := by rw [h.1]; exact (Array.length_toList).symm
theorem StrRel.of (s : ByteArray) : StrRel (strOf s).1 (strOf s).2 s := by rw [strOf_eq]; exact ⟨rfl, rfl⟩

theorem strEq_eq {n v m u : Nat} {a b : ByteArray} (h : StrRel n v a) (g : StrRel m u b) : strEq n v m u = (a.data.toList == b.data.toList) := by
  have hn := h.len
  have hm := g.len
  have hv := h.2
  have hu := g.2
  have key : strEq n v m u = true ↔ a.data.toList = b.data.toList := by
    unfold strEq
    show (Nat.beq n m && Nat.beq v u) = true ↔ _
    rw [Bool.and_eq_true, Nat.beq_eq, Nat.beq_eq]
    constructor
    · rintro ⟨e1, e2⟩
      exact val_inj (by omega) (by rw [← hv, ← hu, e2])
    · intro e; exact ⟨by rw [hn, hm, e], by rw [hv, hu, e]⟩
  rw [Bool.eq_iff_iff, key, beq_iff_eq]

theorem toList_data (b : ByteArray) : b.toList = b.data.toList := by
  have loop : ∀ (k : Nat) (i : Nat) (r : List UInt8), b.size - i = k → ByteArray.toList.loop b i r = r.reverse ++ b.data.toList.drop i := by
    intro k
    induction k with
    | zero =>
      intro i r h
      unfold ByteArray.toList.loop
      rw [if_neg (by omega)]
      have : b.data.toList.length ≤ i := by rw [Array.length_toList]; change b.data.size - i = 0 at h; omega
      rw [List.drop_of_length_le this]; simp
    | succ k ih =>
      intro i r h
      unfold ByteArray.toList.loop
      rw [if_pos (by omega), ih (i + 1) _ (by omega)]
      have hi : i < b.data.toList.length := by rw [Array.length_toList]; change b.data.size - i = k + 1 at h; omega
      rw [List.drop_eq_getElem_cons hi]
      simp only [List.reverse_cons, List.append_assoc, List.singleton_append]
      congr 2
      have : b.get! i = b.data[i]'(by simpa using hi) := by
        unfold ByteArray.get!
        exact getElem!_pos b.data i (by simpa using hi)
      rw [this]; simp
  unfold ByteArray.toList
  rw [loop b.size 0 [] (by omega)]; simp

theorem strLess_eq {n v m u : Nat} {a b : ByteArray} (h : StrRel n v a) (g : StrRel m u b) : strLess n v m u = Op.bytesLess a.data.toList b.data.toList := by
  have hn := h.len
  have hm := g.len
  have hv := h.2
  have hu := g.2
  generalize a.data.toList = x at *
  generalize b.data.toList = y at *
  subst hn hm hv hu
  clear h g
  have spec : ∀ (x y : List UInt8), (strLess x.length (val x) y.length (val y) = true ↔ Op.bytesLess x y = true) := by
    intro x
    induction x with
    | nil =>
      intro y
      cases y with
      | nil => simp [strLess, val, Op.bytesLess, iteB, Nat.ble]
      | cons d y =>
        simp only [Op.bytesLess, iff_true]
        unfold strLess
        have : Nat.ble (List.length ([] : List UInt8)) (d :: y).length = true := by simp [Nat.ble]
        rw [this, iteB_true, Bool.or_eq_true, Bool.and_eq_true, Nat.ble_eq, Nat.ble_eq, Nat.beq_eq]
        show Nat.succ (val [] * _) ≤ _ ∨ (val [] * _ = _ ∧ _)
        rw [val_nil, Nat.zero_mul]
        rcases Nat.eq_zero_or_pos (val (d :: y)) with e | e
        · exact .inr ⟨e.symm, by simp⟩
        · exact .inl e
    | cons c x ih =>
      intro y
      cases y with
      | nil =>
        simp only [Op.bytesLess, Bool.false_eq_true, iff_false]
        unfold strLess
        have : Nat.ble (c :: x).length (List.length ([] : List UInt8)) = false := by simp [Nat.ble]
        rw [this, iteB_false, Nat.ble_eq]
        show ¬ Nat.succ _ ≤ val [] * _
        rw [val_nil, Nat.zero_mul]; omega
      | cons d y =>
        have hx := val_lt x
        have hy := val_lt y
        have step : strLess (c :: x).length (val (c :: x)) (d :: y).length (val (d :: y)) = true ↔
            c.toNat < d.toNat ∨ (c.toNat = d.toNat ∧ strLess x.length (val x) y.length (val y) = true) := by
          unfold strLess
          by_cases hle : x.length ≤ y.length
          · have e1 : Nat.ble (c :: x).length (d :: y).length = true := by rw [Nat.ble_eq]; simpa using hle
            have e2 : Nat.ble x.length y.length = true := by rw [Nat.ble_eq]; exact hle
            have e3 : Nat.sub (d :: y).length (c :: x).length = y.length - x.length := by show (y.length + 1) - (x.length + 1) = _; omega
            rw [e1, e2, iteB_true, iteB_true, e3]
            simp only [Bool.or_eq_true, Bool.and_eq_true, Nat.ble_eq, Nat.beq_eq, val_cons, List.length_cons]
            have hpow : 256 ^ x.length * 256 ^ (y.length - x.length) = 256 ^ y.length := by rw [← Nat.pow_add]; congr 1; omega
            have ex : Nat.mul (c.toNat * 256 ^ x.length + val x) (Nat.pow 256 (y.length - x.length)) = c.toNat * 256 ^ y.length + val x * 256 ^ (y.length - x.length) := by
              show (c.toNat * 256 ^ x.length + val x) * 256 ^ (y.length - x.length) = _
              rw [Nat.add_mul, Nat.mul_assoc, hpow]
            have hx2 : val x * 256 ^ (y.length - x.length) < 256 ^ y.length := by
              rw [← hpow]; exact Nat.mul_lt_mul_of_pos_right hx (pow_pos' _)
            rw [ex]
            show (_ ≤ _ ∨ _ ∧ _) ↔ _ ∨ _ ∧ (Nat.succ (val x * 256 ^ (y.length - x.length)) ≤ _ ∨ val x * 256 ^ (y.length - x.length) = _ ∧ _)
            generalize val x * 256 ^ (y.length - x.length) = p at *
            generalize val y = q at *
            generalize 256 ^ y.length = w at *
            rcases Nat.lt_trichotomy c.toNat d.toNat with hc | hc | hc
            · have : c.toNat * w + w ≤ d.toNat * w := by rw [← Nat.succ_mul]; exact Nat.mul_le_mul_right _ hc
              constructor
              · intro _; exact .inl hc
              · intro _; left; omega
            · rw [hc]
              constructor
              · rintro (h | ⟨h1, h2⟩)
                · exact .inr ⟨rfl, .inl (by omega)⟩
                · exact .inr ⟨rfl, .inr ⟨by omega, by omega⟩⟩
              · rintro (h | ⟨_, h | ⟨h1, h2⟩⟩)
                · omega
                · left; omega
                · right; exact ⟨by omega, by omega⟩
            · have : d.toNat * w + w ≤ c.toNat * w := by rw [← Nat.succ_mul]; exact Nat.mul_le_mul_right _ hc
              constructor
              · rintro (h | ⟨h1, h2⟩) <;> omega
              · rintro (h | ⟨h, _⟩) <;> omega
          · have e1 : Nat.ble (c :: x).length (d :: y).length = false := by rw [Bool.eq_false_iff]; intro e; rw [Nat.ble_eq] at e; simp at e; omega
            have e2 : Nat.ble x.length y.length = false := by rw [Bool.eq_false_iff]; intro e; rw [Nat.ble_eq] at e; omega
            have e3 : Nat.sub (c :: x).length (d :: y).length = x.length - y.length := by show (x.length + 1) - (y.length + 1) = _; omega
            rw [e1, e2, iteB_false, iteB_false, e3]
            simp only [Nat.ble_eq, val_cons]
            have hpow : 256 ^ y.length * 256 ^ (x.length - y.length) = 256 ^ x.length := by rw [← Nat.pow_add]; congr 1; omega
            have ey : Nat.mul (d.toNat * 256 ^ y.length + val y) (Nat.pow 256 (x.length - y.length)) = d.toNat * 256 ^ x.length + val y * 256 ^ (x.length - y.length) := by
              show (d.toNat * 256 ^ y.length + val y) * 256 ^ (x.length - y.length) = _
              rw [Nat.add_mul, Nat.mul_assoc, hpow]
            have hy2 : val y * 256 ^ (x.length - y.length) < 256 ^ x.length := by
              rw [← hpow]; exact Nat.mul_lt_mul_of_pos_right hy (pow_pos' _)
            rw [ey]
            show Nat.succ _ ≤ _ ↔ _ ∨ _ ∧ Nat.succ (val x) ≤ val y * 256 ^ (x.length - y.length)
            generalize val y * 256 ^ (x.length - y.length) = p at *
            generalize val x = q at *
            generalize 256 ^ x.length = w at *
            rcases Nat.lt_trichotomy c.toNat d.toNat with hc | hc | hc
            · have : c.toNat * w + w ≤ d.toNat * w := by rw [← Nat.succ_mul]; exact Nat.mul_le_mul_right _ hc
              constructor
              · intro _; exact .inl hc
              · intro _; omega
            · rw [hc]
              constructor
              · intro h; exact .inr ⟨rfl, by omega⟩
              · rintro (h | ⟨_, h⟩) <;> omega
            · have : d.toNat * w + w ≤ c.toNat * w := by rw [← Nat.succ_mul]; exact Nat.mul_le_mul_right _ hc
              constructor
              · intro h; omega
              · rintro (h | ⟨h, _⟩) <;> omega
        rw [step, ih y]
        simp only [Op.bytesLess, Bool.or_eq_true, Bool.and_eq_true, decide_eq_true_eq, beq_iff_eq, UInt8.lt_iff_toNat_lt, UInt8.toNat_inj]
  exact Bool.eq_iff_iff.2 (spec x y)

theorem StrRel.append {n v m u : Nat} {a b : ByteArray} (h : StrRel n v a) (g : StrRel m u b) : StrRel (Nat.add n m) (Nat.add (Nat.mul v (Nat.pow 256 m)) u) (a ++ b) := by
  refine ⟨?_, ?_⟩
  · rw [h.1, g.1]; exact (ByteArray.size_append).symm
  · rw [ByteArray.data_append, Array.toList_append, val_append, ← h.2, ← g.2, ← g.len]; rfl

theorem val_ix (l : List UInt8) (i : Nat) (h : i < l.length) : Nat.mod (Nat.div (val l) (Nat.pow 256 (Nat.sub l.length (Nat.succ i)))) 256 = l[i].toNat := by
  have e : l = l.take i ++ [l[i]] ++ l.drop (i + 1) := by simp
  have hd : (l.drop (i + 1)).length = l.length - (i + 1) := by simp
  have hv : val l = (val (l.take i) * 256 + l[i].toNat) * 256 ^ (l.length - (i + 1)) + val (l.drop (i + 1)) := by
    conv => lhs; rw [e]
    rw [val_append, val_snoc, hd]
  have hlt := val_lt (l.drop (i + 1))
  rw [hd] at hlt
  show val l / 256 ^ (l.length - (i + 1)) % 256 = _
  rw [hv, Nat.mul_comm _ (256 ^ _), Nat.mul_add_div (pow_pos' _), Nat.div_eq_of_lt hlt]
  have := l[i].toNat_lt
  omega

theorem val_sub (l : List UInt8) (a h : Nat) (hah : a ≤ h) (hh : h ≤ l.length) :
    Nat.mod (Nat.div (val l) (Nat.pow 256 (Nat.sub l.length h))) (Nat.pow 256 (Nat.sub h a)) = val ((l.take h).drop a) := by
  have e : l = l.take a ++ (l.take h).drop a ++ l.drop h := by
    have : l.take a = (l.take h).take a := by rw [List.take_take, Nat.min_eq_left hah]
    rw [this, List.take_append_drop, List.take_append_drop]
  have hd : (l.drop h).length = l.length - h := by simp
  have hm : ((l.take h).drop a).length = h - a := by simp; omega
  have hv : val l = (val (l.take a) * 256 ^ (h - a) + val ((l.take h).drop a)) * 256 ^ (l.length - h) + val (l.drop h) := by
    conv => lhs; rw [e]
    rw [val_append, val_append, hd, hm]
  have hlt := val_lt (l.drop h)
  rw [hd] at hlt
  have hlt2 := val_lt ((l.take h).drop a)
  rw [hm] at hlt2
  show val l / 256 ^ (l.length - h) % 256 ^ (h - a) = _
  rw [hv, Nat.mul_comm _ (256 ^ (l.length - h)), Nat.mul_add_div (pow_pos' _), Nat.div_eq_of_lt hlt, Nat.add_zero, Nat.mul_comm, Nat.mul_add_mod, Nat.mod_eq_of_lt hlt2]

theorem StrRel.sub {n v : Nat} {s : ByteArray} (h : StrRel n v s) {a b : Nat} (h1 : a ≤ b) (h2 : b ≤ n) : StrRel (Nat.sub b a) (strSub n v a b) (s.extract a b) := by
  have hn := h.len
  refine ⟨?_, ?_⟩
  · have := h.1; simp only [ByteArray.size_extract]; show b - a = _; omega
  · unfold strSub
    rw [h.2, hn, val_sub _ _ _ h1 (by omega)]
    congr 1
    rw [ByteArray.data_extract, Array.toList_extract, List.extract_eq_take_drop, List.drop_take]

theorem cellsOfStr_eq (l : List UInt8) : cellsOfStr l.length (val l) = l.map fun b => AVal.int .u8 (Int.ofNat b.toNat) := by
  have key : ∀ (k : Nat) (l : List UInt8), l.length = k → ∀ acc : List AVal,
      Nat.rec (motive := fun _ => Nat → List AVal → List AVal) (fun _ acc => acc) (fun _ ih v acc => ih (Nat.div v 256) (.int .u8 (Int.ofNat (Nat.mod v 256)) :: acc)) k (val l) acc =
        (l.map fun b => AVal.int .u8 (Int.ofNat b.toNat)) ++ acc := by
    intro k
    induction k with
    | zero => intro l h acc; cases l with
      | nil => rfl
      | cons => simp at h
    | succ k ih =>
      intro l h acc
      have hne : l ≠ [] := by intro e; subst e; simp at h
      obtain ⟨m, c, rfl⟩ : ∃ m c, l = m ++ [c] := ⟨l.dropLast, l.getLast hne, (List.dropLast_concat_getLast hne).symm⟩
      have hm : m.length = k := by simp at h; omega
      have hc := c.toNat_lt
      have e1 : Nat.div (val (m ++ [c])) 256 = val m := by rw [val_snoc]; show (val m * 256 + c.toNat) / 256 = _; omega
      have e2 : Nat.mod (val (m ++ [c])) 256 = c.toNat := by rw [val_snoc]; show (val m * 256 + c.toNat) % 256 = _; omega
      show (Nat.rec (motive := fun _ => Nat → List AVal → List AVal) (fun _ acc => acc) (fun _ ih v acc => ih (Nat.div v 256) (.int .u8 (Int.ofNat (Nat.mod v 256)) :: acc)) k) (Nat.div (val (m ++ [c])) 256) (.int .u8 (Int.ofNat (Nat.mod (val (m ++ [c])) 256)) :: acc) = _
      rw [e1, e2, ih m hm]
      simp
  have := key l.length l rfl []
  simpa [cellsOfStr] using this

end Go.Am
