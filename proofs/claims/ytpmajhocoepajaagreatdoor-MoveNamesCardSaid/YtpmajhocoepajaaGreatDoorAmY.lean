/- A part of the library Am: an abstract machine for the model, that a kernel evaluates. -/
import Derived.Test.YtpmajhocoepajaaGreatDoorAmX
set_option linter.unusedVariables false
set_option linter.unusedSimpArgs false
namespace Go.Am
section
variable {P : Program} {nt : Nat} {ops : Array Oper} {N : Nat} {ix : Nat → Nat} {op : Nat → Oper} {so : Nat → SOper} {s : Nat → SOp × List Opd} {A : Nat → Nat → Prop}
variable {Es : Nat → Env} {Hs : Nat → Heap} {vs : Nat → AVal}

/-- the block that an operation makes -/
noncomputable def alAt (so : SOper) (E : Env) : Option AObj := match so.op, gd so.guard E with
  | .al f, some true => (f (so.args.map (Opd.ev E))).map (·.1)
  | _, _ => none

/-- memory behind position c, and the blocks that are made later -/
noncomputable def Wh (so : Nat → SOper) (Es : Nat → Env) (Hs : Nat → Heap) (c : Nat) : Nat → Nat → Option AObj
  | 0 => (Hs c).obj
  | k + 1 => fun id => match alAt (so (c + k)) (Es (c + k)) with
    | some o => if id = (Hs (c + k)).next then some o else Wh so Es Hs c k id
    | none => Wh so Es Hs c k id

/-- an operation that writes, and runs -/
def Eff (so : Nat → SOper) (s : Nat → SOp × List Opd) (Es : Nat → Env) (p : Nat) : Prop := (s p).1.kind = .ef ∧ gd (so p).guard (Es p) = some true

def Wf (H : Heap) : Prop := ∀ id, H.next ≤ id → H.obj id = none

theorem kind_cases (hT : RT P N so Es Hs vs) (hR : RP P nt ops N ix op so s A) {p : Nat} (hp : p < N) (hne : ¬ Eff so s Es p) :
    (alAt (so p) (Es p) = none ∧ Hs (p + 1) = Hs p) ∨ (∃ o, alAt (so p) (Es p) = some o ∧ Hs (p + 1) = (Hs p).new o) := by
  have hop := (hR.oper hp).2.1
  rcases hT.step hp with ⟨h1, _, h2⟩ | ⟨h1, h2, _⟩
  · left
    refine ⟨?_, h2⟩
    unfold alAt
    rw [h1]
    split
    · rename_i e; cases e
    · rfl
  · have hk : (s p).1.kind ≠ .ef := fun e => hne ⟨e, h1⟩
    rw [hop] at h2
    unfold alAt
    rw [h1, hop]
    generalize Hs (p + 1) = H1 at h2 ⊢
    generalize vs p = v at h2
    cases h2 with
    | pu e _ => left; rw [e]; exact ⟨rfl, rfl⟩
    | rd e _ => left; rw [e]; exact ⟨rfl, rfl⟩
    | @al f o k e h3 =>
      right
      refine ⟨o, ?_, rfl⟩
      rw [e]
      dsimp only
      rw [h3]; rfl
    | ef e _ _ => rw [e] at hk; exact absurd rfl hk
    | call e _ =>
      exfalso
      cases hs : (s p).1 with
      | call _ => rw [hs] at hk; exact hk rfl
      | callv => rw [hs] at hk; exact hk rfl
      | _ => rw [hs] at e; cases e

theorem alAt_next (hT : RT P N so Es Hs vs) (hR : RP P nt ops N ix op so s A) {p : Nat} (hp : p < N) {o : AObj} (h : alAt (so p) (Es p) = some o) : (Hs (p + 1)).next = (Hs p).next + 1 := by
  by_cases hne : Eff so s Es p
  · have hop := (hR.oper hp).2.1
    unfold alAt at h
    rw [hop] at h
    have hk := hne.1
    split at h
    · rename_i e _; rw [e] at hk; cases hk
    · cases h
  · rcases kind_cases hT hR hp hne with ⟨h1, _⟩ | ⟨o', _, h2⟩
    · rw [h1] at h; cases h
    · rw [h2, Heap.new_next]

theorem Wh_eq (hT : RT P N so Es Hs vs) (hR : RP P nt ops N ix op so s A) {c : Nat} : ∀ {k : Nat}, c + k ≤ N → (∀ r, c ≤ r → r < c + k → ¬ Eff so s Es r) → ∀ id, Wh so Es Hs c k id = (Hs (c + k)).obj id
  | 0, _, _, _ => rfl
  | k + 1, h, hn, id => by
    have ih := Wh_eq hT hR (k := k) (by omega) (fun r h1 h2 => hn r h1 (by omega)) id
    show (match alAt (so (c + k)) (Es (c + k)) with
      | some o => if id = (Hs (c + k)).next then some o else Wh so Es Hs c k id
      | none => Wh so Es Hs c k id) = (Hs (c + k + 1)).obj id
    rcases kind_cases hT hR (p := c + k) (by omega) (hn _ (by omega) (by omega)) with ⟨h1, h2⟩ | ⟨o, h1, h2⟩
    · rw [h1, h2]; exact ih
    · rw [h1, h2, Heap.obj_new]
      dsimp only
      rw [ih]

theorem Wh_low (hT : RT P N so Es Hs vs) {c k : Nat} {id : Nat} : ∀ {j : Nat}, c + k + j ≤ N → id < (Hs (c + k)).next → Wh so Es Hs c (k + j) id = Wh so Es Hs c k id
  | 0, _, _ => rfl
  | j + 1, h, hid => by
    have ih := Wh_low hT (j := j) (by omega) hid
    have hle := hT.next (p := c + k) (k := j) (by omega)
    show (match alAt (so (c + (k + j))) (Es (c + (k + j))) with
      | some o => if id = (Hs (c + (k + j))).next then some o else Wh so Es Hs c (k + j) id
      | none => Wh so Es Hs c (k + j) id) = _
    rw [← Nat.add_assoc]
    split
    · rw [if_neg (by omega), ih]
    · exact ih

theorem Wh_high (hT : RT P N so Es Hs vs) (hR : RP P nt ops N ix op so s A) {c : Nat} (hwf : Wf (Hs c)) : ∀ {k : Nat}, c + k ≤ N → ∀ id, (Hs (c + k)).next ≤ id → Wh so Es Hs c k id = none
  | 0, _, id, h => hwf id h
  | k + 1, h, id, hid => by
    have hle : (Hs (c + k)).next ≤ (Hs (c + k + 1)).next := hT.next (p := c + k) (k := 1) (by omega)
    have hid : (Hs (c + k + 1)).next ≤ id := hid
    have ih := Wh_high hT hR hwf (k := k) (by omega) id (by omega)
    show (match alAt (so (c + k)) (Es (c + k)) with
      | some o => if id = (Hs (c + k)).next then some o else Wh so Es Hs c k id
      | none => Wh so Es Hs c k id) = none
    split
    · rename_i o ho
      have := alAt_next hT hR (by omega) ho
      rw [if_neg (by omega), ih]
    · exact ih

theorem Wh_two (hT : RT P N so Es Hs vs) (hR : RP P nt ops N ix op so s A) {c k : Nat} (hwf : Wf (Hs c)) (hwf2 : Wf (Hs (c + k))) {id : Nat} (hid : (Hs (c + k)).next ≤ id) :
    ∀ {j : Nat}, c + k + j ≤ N → Wh so Es Hs c (k + j) id = Wh so Es Hs (c + k) j id
  | 0, h => by rw [Nat.add_zero, Wh_high hT hR hwf (by omega) id hid]; exact (hwf2 id hid).symm
  | j + 1, h => by
    have ih := Wh_two hT hR hwf hwf2 hid (j := j) (by omega)
    show (match alAt (so (c + (k + j))) (Es (c + (k + j))) with
      | some o => if id = (Hs (c + (k + j))).next then some o else Wh so Es Hs c (k + j) id
      | none => Wh so Es Hs c (k + j) id) = (match alAt (so (c + k + j)) (Es (c + k + j)) with
      | some o => if id = (Hs (c + k + j)).next then some o else Wh so Es Hs (c + k) j id
      | none => Wh so Es Hs (c + k) j id)
    rw [← Nat.add_assoc, ih]

/-- a step in a part of memory, seen in the whole -/
theorem PW.widen {β β' : Map} {O O' V V' : Nat → Option AObj} {n n' : Nat} {w w' : World} (hp : Post β O n w β' O' n' w') (hwf : ∀ id, n ≤ id → O id = none) (hf : FreeB β n n') (hV : HRel β V w)
    (h1 : ∀ id, id < n → V id = O id) (h2 : ∀ id, id < n' → V' id = O' id) (h3 : ∀ id, n' ≤ id → V' id = V id) : PW β V w β' V' w' := by
  have hwf' := hp.wf hwf
  have inO : ∀ {id o}, O id = some o → id < n := by
    intro id o h
    rcases Nat.lt_or_ge id n with h' | h'
    · exact h'
    · rw [hwf id h'] at h; cases h
  have old : ∀ {id i}, n' ≤ id → β' id = some i → β id = some i := by
    intro id i hid h
    cases hb : β id with
    | none => have := (hp.new h hb).2; omega
    | some j => rw [hp.ext _ _ hb] at h; exact h
  -- a block that Am knew later is where it was
  have keep : ∀ {id i o}, n' ≤ id → β id = some i → V id = some o → w'.heap[i.blk]? = w.heap[i.blk]? := by
    intro id i o hid hb hv
    refine hp.frame _ (hV.lt hb) ?_
    intro id0 i0 o0 hb0 ho0 _
    have hlt := inO ho0
    have := hp.mono
    exact hV.apart (by omega) hb0 hb (by rw [h1 _ hlt]; exact ho0) hv
  refine ⟨hp.ext, ⟨?_, ?_, ?_⟩, hp.still, ?_, ?_⟩
  · intro id i o hb ho
    rcases Nat.lt_or_ge id n' with hlt | hge
    · rw [h2 _ hlt] at ho; exact hp.rel.obj hb ho
    · rw [h3 _ hge] at ho
      have hb0 := old hge hb
      obtain ⟨co, g1, g2⟩ := hV.obj hb0 ho
      exact ⟨co, by rw [keep hge hb0 ho]; exact g1, g2.mono hp.ext⟩
  · have mix : ∀ {id id' i i' o o'}, id < n' → n' ≤ id' → β' id = some i → β' id' = some i' → V' id = some o → V' id' = some o' → i.blk ≠ i'.blk := by
      intro id id' i i' o o' hlt hge hb hb' ho ho'
      rw [h2 _ hlt] at ho
      rw [h3 _ hge] at ho'
      have hb0 := old hge hb'
      rcases hp.wext hb ho with hsz | ⟨id0, i0, o0, q1, q2, q3, _⟩
      · have := hV.lt hb0; omega
      · have hl0 := inO q2
        have := hp.mono
        have := hV.apart (id := id0) (id' := id') (by omega) q1 hb0 (by rw [h1 _ hl0]; exact q2) ho'
        omega
    intro id id' i i' o o' hne hb hb' ho ho'
    rcases Nat.lt_or_ge id n' with hlt | hge <;> rcases Nat.lt_or_ge id' n' with hlt' | hge'
    · rw [h2 _ hlt] at ho; rw [h2 _ hlt'] at ho'; exact hp.rel.apart hne hb hb' ho ho'
    · exact mix hlt hge' hb hb' ho ho'
    · exact (mix hlt' hge hb' hb ho' ho).symm
    · rw [h3 _ hge] at ho; rw [h3 _ hge'] at ho'
      exact hV.apart hne (old hge hb) (old hge' hb') ho ho'
  · intro id i hb; exact hp.rel.lt hb
  · intro b hb hno
    refine hp.frame b hb fun id i o hbi hoi hw => hno id i o hbi (by rw [h1 _ (inO hoi)]; exact hoi) hw
  · intro id i o hb ho
    rcases Nat.lt_or_ge id n' with hlt | hge
    · rw [h2 _ hlt] at ho
      rcases hp.wext hb ho with hsz | ⟨id0, i0, o0, q1, q2, q3, q4⟩
      · exact .inl hsz
      · exact .inr ⟨id0, i0, o0, q1, by rw [h1 _ (inO q2)]; exact q2, q3, q4⟩
    · rw [h3 _ hge] at ho
      exact .inr ⟨id, i, o, old hge hb, ho, rfl, fun h => h⟩

end
end Go.Am
