/- A part of the library Am: an abstract machine for the model, that a kernel evaluates. -/
import Derived.Test.YtpmajhocoepajaaGreatDoorAmAC
set_option linter.unusedVariables false
set_option linter.unusedSimpArgs false
/-
  Am, the fast level: the code as functions that the kernel evaluates.
-/
namespace Go.Am

structure Ch (α : Type) where
  mk ::
  s0 : α
  s1 : α
  s2 : α
  s3 : α
  s4 : α
  s5 : α
  s6 : α
  s7 : α
  s8 : α
  s9 : α
  s10 : α
  s11 : α
  s12 : α
  s13 : α
  s14 : α
  s15 : α

theorem lt16 {i : Nat} (h : i < 16) : i = 0 ∨ i = 1 ∨ i = 2 ∨ i = 3 ∨ i = 4 ∨ i = 5 ∨ i = 6 ∨ i = 7 ∨ i = 8 ∨ i = 9 ∨ i = 10 ∨ i = 11 ∨ i = 12 ∨ i = 13 ∨ i = 14 ∨ i = 15 := by omega

namespace Ch
variable {α : Type}
noncomputable def p0 (c : Ch α) (v : α) : Ch α := Ch.casesOn (motive := fun _ => Ch α) c fun s0 s1 s2 s3 s4 s5 s6 s7 s8 s9 s10 s11 s12 s13 s14 s15 => Ch.mk v s1 s2 s3 s4 s5 s6 s7 s8 s9 s10 s11 s12 s13 s14 s15
noncomputable def p1 (c : Ch α) (v : α) : Ch α := Ch.casesOn (motive := fun _ => Ch α) c fun s0 s1 s2 s3 s4 s5 s6 s7 s8 s9 s10 s11 s12 s13 s14 s15 => Ch.mk s0 v s2 s3 s4 s5 s6 s7 s8 s9 s10 s11 s12 s13 s14 s15
noncomputable def p2 (c : Ch α) (v : α) : Ch α := Ch.casesOn (motive := fun _ => Ch α) c fun s0 s1 s2 s3 s4 s5 s6 s7 s8 s9 s10 s11 s12 s13 s14 s15 => Ch.mk s0 s1 v s3 s4 s5 s6 s7 s8 s9 s10 s11 s12 s13 s14 s15
noncomputable def p3 (c : Ch α) (v : α) : Ch α := Ch.casesOn (motive := fun _ => Ch α) c fun s0 s1 s2 s3 s4 s5 s6 s7 s8 s9 s10 s11 s12 s13 s14 s15 => Ch.mk s0 s1 s2 v s4 s5 s6 s7 s8 s9 s10 s11 s12 s13 s14 s15
noncomputable def p4 (c : Ch α) (v : α) : Ch α := Ch.casesOn (motive := fun _ => Ch α) c fun s0 s1 s2 s3 s4 s5 s6 s7 s8 s9 s10 s11 s12 s13 s14 s15 => Ch.mk s0 s1 s2 s3 v s5 s6 s7 s8 s9 s10 s11 s12 s13 s14 s15
noncomputable def p5 (c : Ch α) (v : α) : Ch α := Ch.casesOn (motive := fun _ => Ch α) c fun s0 s1 s2 s3 s4 s5 s6 s7 s8 s9 s10 s11 s12 s13 s14 s15 => Ch.mk s0 s1 s2 s3 s4 v s6 s7 s8 s9 s10 s11 s12 s13 s14 s15
noncomputable def p6 (c : Ch α) (v : α) : Ch α := Ch.casesOn (motive := fun _ => Ch α) c fun s0 s1 s2 s3 s4 s5 s6 s7 s8 s9 s10 s11 s12 s13 s14 s15 => Ch.mk s0 s1 s2 s3 s4 s5 v s7 s8 s9 s10 s11 s12 s13 s14 s15
noncomputable def p7 (c : Ch α) (v : α) : Ch α := Ch.casesOn (motive := fun _ => Ch α) c fun s0 s1 s2 s3 s4 s5 s6 s7 s8 s9 s10 s11 s12 s13 s14 s15 => Ch.mk s0 s1 s2 s3 s4 s5 s6 v s8 s9 s10 s11 s12 s13 s14 s15
noncomputable def p8 (c : Ch α) (v : α) : Ch α := Ch.casesOn (motive := fun _ => Ch α) c fun s0 s1 s2 s3 s4 s5 s6 s7 s8 s9 s10 s11 s12 s13 s14 s15 => Ch.mk s0 s1 s2 s3 s4 s5 s6 s7 v s9 s10 s11 s12 s13 s14 s15
noncomputable def p9 (c : Ch α) (v : α) : Ch α := Ch.casesOn (motive := fun _ => Ch α) c fun s0 s1 s2 s3 s4 s5 s6 s7 s8 s9 s10 s11 s12 s13 s14 s15 => Ch.mk s0 s1 s2 s3 s4 s5 s6 s7 s8 v s10 s11 s12 s13 s14 s15
noncomputable def p10 (c : Ch α) (v : α) : Ch α := Ch.casesOn (motive := fun _ => Ch α) c fun s0 s1 s2 s3 s4 s5 s6 s7 s8 s9 s10 s11 s12 s13 s14 s15 => Ch.mk s0 s1 s2 s3 s4 s5 s6 s7 s8 s9 v s11 s12 s13 s14 s15
noncomputable def p11 (c : Ch α) (v : α) : Ch α := Ch.casesOn (motive := fun _ => Ch α) c fun s0 s1 s2 s3 s4 s5 s6 s7 s8 s9 s10 s11 s12 s13 s14 s15 => Ch.mk s0 s1 s2 s3 s4 s5 s6 s7 s8 s9 s10 v s12 s13 s14 s15
noncomputable def p12 (c : Ch α) (v : α) : Ch α := Ch.casesOn (motive := fun _ => Ch α) c fun s0 s1 s2 s3 s4 s5 s6 s7 s8 s9 s10 s11 s12 s13 s14 s15 => Ch.mk s0 s1 s2 s3 s4 s5 s6 s7 s8 s9 s10 s11 v s13 s14 s15
noncomputable def p13 (c : Ch α) (v : α) : Ch α := Ch.casesOn (motive := fun _ => Ch α) c fun s0 s1 s2 s3 s4 s5 s6 s7 s8 s9 s10 s11 s12 s13 s14 s15 => Ch.mk s0 s1 s2 s3 s4 s5 s6 s7 s8 s9 s10 s11 s12 v s14 s15
noncomputable def p14 (c : Ch α) (v : α) : Ch α := Ch.casesOn (motive := fun _ => Ch α) c fun s0 s1 s2 s3 s4 s5 s6 s7 s8 s9 s10 s11 s12 s13 s14 s15 => Ch.mk s0 s1 s2 s3 s4 s5 s6 s7 s8 s9 s10 s11 s12 s13 v s15
noncomputable def p15 (c : Ch α) (v : α) : Ch α := Ch.casesOn (motive := fun _ => Ch α) c fun s0 s1 s2 s3 s4 s5 s6 s7 s8 s9 s10 s11 s12 s13 s14 s15 => Ch.mk s0 s1 s2 s3 s4 s5 s6 s7 s8 s9 s10 s11 s12 s13 s14 v
noncomputable def get (c : Ch α) : Nat → α
  | 0 => c.s0
  | 1 => c.s1
  | 2 => c.s2
  | 3 => c.s3
  | 4 => c.s4
  | 5 => c.s5
  | 6 => c.s6
  | 7 => c.s7
  | 8 => c.s8
  | 9 => c.s9
  | 10 => c.s10
  | 11 => c.s11
  | 12 => c.s12
  | 13 => c.s13
  | 14 => c.s14
  | _ => c.s15
noncomputable def put (c : Ch α) (v : α) : Nat → Ch α
  | 0 => c.p0 v
  | 1 => c.p1 v
  | 2 => c.p2 v
  | 3 => c.p3 v
  | 4 => c.p4 v
  | 5 => c.p5 v
  | 6 => c.p6 v
  | 7 => c.p7 v
  | 8 => c.p8 v
  | 9 => c.p9 v
  | 10 => c.p10 v
  | 11 => c.p11 v
  | 12 => c.p12 v
  | 13 => c.p13 v
  | 14 => c.p14 v
  | _ => c.p15 v
theorem get_put (c : Ch α) (v : α) (i j : Nat) (hi : i < 16) (hj : j < 16) : (c.put v i).get j = if j = i then v else c.get j := by
  cases c
  rcases lt16 hi with rfl|rfl|rfl|rfl|rfl|rfl|rfl|rfl|rfl|rfl|rfl|rfl|rfl|rfl|rfl|rfl <;> rcases lt16 hj with rfl|rfl|rfl|rfl|rfl|rfl|rfl|rfl|rfl|rfl|rfl|rfl|rfl|rfl|rfl|rfl <;> rfl
end Ch

/-- the tmps of a call: at most 256 -/
abbrev FEnv := Ch (Ch AVal)
noncomputable def FEnv.get (E : FEnv) (i : Nat) : AVal := (Ch.get E (i / 16)).get (i % 16)
noncomputable def FEnv.put (E : FEnv) (i : Nat) (v : AVal) : FEnv := Ch.put E ((Ch.get E (i / 16)).put v (i % 16)) (i / 16)
/-- the same as a function -/
noncomputable def FEnv.fn (E : FEnv) : Env := fun i => if i < 256 then E.get i else .bad
theorem FEnv.fn_put (E : FEnv) (i : Nat) (v : AVal) (hi : i < 256) : (E.put i v).fn = Am.put E.fn (some i) v := by
  funext j
  show (if j < 256 then _ else _) = if j = i then v else if j < 256 then _ else _
  by_cases hj : j < 256
  · rw [if_pos hj, if_pos hj]
    unfold FEnv.put FEnv.get
    rw [Ch.get_put _ _ _ _ (by omega) (by omega)]
    by_cases h1 : j / 16 = i / 16
    · rw [if_pos h1, Ch.get_put _ _ _ _ (by omega) (by omega)]
      by_cases h2 : j % 16 = i % 16
      · rw [if_pos h2, if_pos (by omega)]
      · rw [if_neg h2, if_neg (by omega), h1]
    · rw [if_neg h1, if_neg (by omega)]
  · rw [if_neg hj, if_neg hj, if_neg (by omega)]
noncomputable def FEnv.dst (E : FEnv) (d : Option Nat) (v : AVal) : FEnv := match d with
  | none => E
  | some i => E.put i v
theorem FEnv.fn_dst (E : FEnv) (d : Option Nat) (v : AVal) (hd : ∀ i, d = some i → i < 256) : (E.dst d v).fn = Am.put E.fn d v := by
  cases d with
  | none => rfl
  | some i => exact FEnv.fn_put E i v (hd i rfl)
noncomputable def fev (E : FEnv) : Opd → AVal
  | .t i => E.get i
  | .c v => v
theorem fev_eq (E : FEnv) (x : Opd) (h : ∀ i, x = .t i → i < 256) : fev E x = x.ev E.fn := by
  cases x with
  | c v => rfl
  | t i => show _ = if i < 256 then _ else _; rw [if_pos (h i rfl)]; rfl

noncomputable def nthD (l : List AVal) (i : Nat) : AVal := Option.rec (motive := fun _ => AVal) .bad (fun v => v) (nth l i)
noncomputable def bad16 : Ch AVal := ⟨.bad, .bad, .bad, .bad, .bad, .bad, .bad, .bad, .bad, .bad, .bad, .bad, .bad, .bad, .bad, .bad⟩
noncomputable def args16 (l : List AVal) : Ch AVal := ⟨nthD l 0, nthD l 1, nthD l 2, nthD l 3, nthD l 4, nthD l 5, nthD l 6, nthD l 7, nthD l 8, nthD l 9, nthD l 10, nthD l 11, nthD l 12, nthD l 13, nthD l 14, nthD l 15⟩
noncomputable def fenvOf (l : List AVal) : FEnv := ⟨args16 l, bad16, bad16, bad16, bad16, bad16, bad16, bad16, bad16, bad16, bad16, bad16, bad16, bad16, bad16, bad16⟩
theorem nthD_eq (l : List AVal) (i : Nat) : nthD l i = (l[i]?).getD .bad := by
  unfold nthD; rw [nth_eq]; cases l[i]? <;> rfl
theorem args16_get (l : List AVal) (i : Nat) (h : i < 16) : (args16 l).get i = (l[i]?).getD .bad := by
  rw [← nthD_eq]
  rcases lt16 h with rfl|rfl|rfl|rfl|rfl|rfl|rfl|rfl|rfl|rfl|rfl|rfl|rfl|rfl|rfl|rfl <;> rfl
theorem bad16_get (i : Nat) (h : i < 16) : bad16.get i = .bad := by
  rcases lt16 h with rfl|rfl|rfl|rfl|rfl|rfl|rfl|rfl|rfl|rfl|rfl|rfl|rfl|rfl|rfl|rfl <;> rfl
theorem fenvOf_get (l : List AVal) (i : Nat) (h : i < 16) : (fenvOf l).s0 = args16 l := rfl
theorem fenvOf_fn (l : List AVal) (h : l.length ≤ 16) : (fenvOf l).fn = envOf l := by
  funext i
  unfold FEnv.fn envOf
  by_cases hi : i < 256
  · rw [if_pos hi]
    unfold FEnv.get
    have h2 : ∀ k, k < 16 → Ch.get (fenvOf l) k = if k = 0 then args16 l else bad16 := by
      intro k hk
      rcases lt16 hk with rfl|rfl|rfl|rfl|rfl|rfl|rfl|rfl|rfl|rfl|rfl|rfl|rfl|rfl|rfl|rfl <;> rfl
    rw [h2 _ (by omega)]
    by_cases h0 : i / 16 = 0
    · rw [if_pos h0, show i % 16 = i by omega, args16_get _ _ (by omega)]
    · rw [if_neg h0, bad16_get _ (by omega), List.getElem?_eq_none (by omega)]; rfl
  · rw [if_neg hi, List.getElem?_eq_none (by omega)]; rfl

end Go.Am
