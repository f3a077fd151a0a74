/- A part of the library Am: an abstract machine for the model, that a kernel evaluates. -/
import Derived.Test.YtpmajhocoepajaaGreatDoorAmZ
set_option linter.unusedVariables false
set_option linter.unusedSimpArgs false
namespace Go.Am

theorem count_set : ∀ {l : List Bool} {i : Nat}, l[i]? = some false → (l.set i true).count false + 1 = l.count false
  | [], i, h => by simp at h
  | b :: l, 0, h => by simp at h; subst h; simp
  | b :: l, i + 1, h => by
    have ih := count_set (l := l) (i := i) (by simpa using h)
    simp only [List.set_cons_succ, List.count_cons]
    omega

section
variable {P : Program} {nt : Nat} {ops : Array Oper} {N : Nat} {ix : Nat → Nat} {op : Nat → Oper} {so : Nat → SOper} {s : Nat → SOp × List Opd} {A : Nat → Nat → Prop}
variable {Es : Nat → Env} {Hs : Nat → Heap} {vs : Nat → AVal}
variable {β0 : Map} {w0 : World} {a0 : Act}

theorem mem_ready' {j : Nat} {listed : Array Bool} : j ∈ Region.ready .any ops listed ↔ j < ops.size ∧ listed.getD j true = false ∧ ∃ o, ops[j]? = some o ∧ ∀ e ∈ o.after.toList, Region.binds .any e = true → listed.getD e.on false = true := by
  unfold Region.ready
  rw [List.mem_filter, List.mem_range]
  constructor
  · rintro ⟨h1, h2⟩
    rw [Bool.and_eq_true] at h2
    refine ⟨h1, by simpa using h2.1, ops[j], by simp [h1], ?_⟩
    intro e he hb
    have h3 := h2.2
    rw [Array.getElem?_eq_getElem h1] at h3
    simp only [Option.map_some, Option.getD_some] at h3
    rw [← Array.all_toList, List.all_eq_true] at h3
    have := h3 e he
    rw [hb] at this
    simpa using this
  · rintro ⟨h1, h2, o, h3, h4⟩
    refine ⟨h1, ?_⟩
    rw [Bool.and_eq_true]
    refine ⟨by rw [h2]; rfl, ?_⟩
    rw [h3]
    simp only [Option.map_some, Option.getD_some]
    rw [← Array.all_toList, List.all_eq_true]
    intro e he
    cases hb : Region.binds .any e with
    | false => rfl
    | true => simpa using h4 e he hb

theorem ready_anc (hR : RP P nt ops N ix op so s A) {listed : Array Bool} (hcl : ∀ {p q}, p < N → Dn ix listed p → A p q → Dn ix listed q) {p : Nat} (hp : p < N) (hr : ix p ∈ Region.ready .any ops listed) :
    ¬ Dn ix listed p ∧ ∀ q, A p q → Dn ix listed q := by
  obtain ⟨h1, h2, o, h3, h4⟩ := mem_ready'.1 hr
  rw [hR.ix_op hp] at h3; cases h3
  constructor
  · unfold Dn
    rw [Array.getD_eq_getD_getElem?] at h2 ⊢
    cases q : listed[ix p]? with
    | none => rw [q] at h2; simp at h2
    | some b => rw [q] at h2; simp at h2; subst h2; simp
  · intro q ha
    obtain ⟨e, g1, g2, r, g3, g4, g5⟩ := hR.Adir hp ha
    have hd : Dn ix listed r := by unfold Dn; rw [g4]; exact h4 e g1 g2
    rcases g5 with rfl | g5
    · exact hd
    · exact hcl (Nat.lt_trans g3 hp) hd g5

theorem all_done (hR : RP P nt ops N ix op so s A) {listed : Array Bool} (hsz : listed.size = ops.size) (hr : Region.ready .any ops listed = []) : ∀ (p : Nat), p < N → Dn ix listed p := by
  intro p
  induction p using Nat.strongRecOn with
  | _ p ih =>
    intro hp
    by_cases hd : Dn ix listed p
    · exact hd
    · exfalso
      have hlt : ix p < ops.size := (Array.getElem?_eq_some_iff.1 (hR.ix_op hp)).1
      have : ix p ∈ Region.ready .any ops listed := by
        refine mem_ready'.2 ⟨hlt, ?_, op p, hR.ix_op hp, ?_⟩
        · unfold Dn at hd
          rw [Array.getD_eq_getD_getElem?] at hd ⊢
          have : ∃ b, listed[ix p]? = some b := ⟨listed[ix p], by simp [hsz, hlt]⟩
          obtain ⟨b, hb⟩ := this
          rw [hb] at hd ⊢
          cases b <;> simp at hd ⊢
        · intro e he hb
          obtain ⟨r, h1, h2⟩ := hR.dirA hp he hb
          have hlt := hR.lt hp h1
          have := ih r hlt (Nat.lt_trans hlt hp)
          unfold Dn at this
          rw [h2] at this; exact this
      rw [hr] at this; cases this

theorem any_ok (hT : RT P N so Es Hs vs) (hR : RP P nt ops N ix op so s A) {Q : Exit → Act → World → Prop}
    (hQ : ∀ listed β a w c, Inv P nt ops N ix op so s A Es Hs β0 w0 a0 listed β a w c → (∀ p, p < N → Dn ix listed p) → Q .normal a w) :
    ∀ (fuel : Nat) (listed : Array Bool) (β : Map) (a : Act) (w : World) (c : Nat), Inv P nt ops N ix op so s A Es Hs β0 w0 a0 listed β a w c → listed.toList.count false ≤ fuel → wpAny P .any ops Q fuel listed a w := by
  intro fuel
  induction fuel with
  | zero =>
    intro listed β a w c h hf
    have hr : Region.ready .any ops listed = [] := by
      refine List.eq_nil_iff_forall_not_mem.2 fun i hi => ?_
      obtain ⟨h1, h2, _⟩ := mem_ready'.1 hi
      have hm : false ∈ listed.toList := by
        rw [Array.getD_eq_getD_getElem?] at h2
        cases q : listed[i]? with
        | none => rw [q] at h2; simp at h2
        | some b =>
          rw [q] at h2; simp at h2; subst h2
          rw [← Array.getElem?_toList] at q
          exact List.mem_of_getElem? q
      have := List.count_pos_iff.2 hm
      omega
    exact ⟨hr, hQ _ _ _ _ _ h (all_done hR h.lsz hr)⟩
  | succ fuel ih =>
    intro listed β a w c h hf
    refine ⟨fun hr => hQ _ _ _ _ _ h (all_done hR h.lsz hr), ?_⟩
    intro i hi
    obtain ⟨h1, h2, _⟩ := mem_ready'.1 hi
    obtain ⟨p, hp, e⟩ := hR.surj h1
    subst e
    obtain ⟨h3, h4⟩ := ready_anc hR h.cl hp hi
    refine h.step hT hR hp h3 h4 ?_
    intro β' a' w' c' h'
    refine ih _ _ _ _ _ h' ?_
    rw [Array.toList_setIfInBounds]
    have hg : listed.toList[ix p]? = some false := by
      rw [Array.getElem?_toList]
      rw [Array.getD_eq_getD_getElem?] at h2
      cases q : listed[ix p]? with
      | none => rw [q] at h2; simp at h2
      | some b => rw [q] at h2; simp at h2; subst h2; rfl
    have := count_set hg
    omega

theorem Post.drew {β : Map} {O : Nat → Option AObj} {n : Nat} {w w' : World} (h : HRel β O w) (hh : w'.heap = w.heap) (hst : w'.os = w.os ∧ w'.tape = w.tape ∧ w'.output = w.output) : Post β O n w β O n w' := by
  refine ⟨⟨Ext.refl β, ⟨fun hb ho => by rw [hh]; exact h.obj hb ho, h.apart, fun hb => by rw [hh]; exact h.lt hb⟩, ⟨hst.1, hst.2.1, hst.2.2, by rw [hh]; exact Nat.le_refl _⟩, fun b _ _ => by rw [hh], fun hb ho => .inr ⟨_, _, _, hb, ho, rfl, fun h => h⟩⟩,
    fun h k => absurd (h.symm.trans k) nofun, Nat.le_refl _, fun h => h⟩

theorem drawRegion_rp (hT : RT P N so Es Hs vs) (hR : RP P nt ops N ix op so s A) (hm : P.follows .mixedOrders = true) {Q : Exit → Act → World → Prop} {id hi : Nat} {β : Map} {a : Act} {w : World}
    (hok : Ok P β (Hs 0) (Es 0) nt hi a w) (hle : (Hs N).next ≤ hi) (hQ : ∀ a' w', Left P β (Hs 0) nt hi a w (Es N) (Hs N) a' w' → Q .normal a' w') : (Code.region id ops true).wp P Q a w := by
  refine wp_region_any hm ?_
  have hdrew : Post β (Hs 0).obj (Hs 0).next w β (Hs 0).obj (Hs 0).next { w with drawn := w.drawn + 1 } := Post.drew hok.rel rfl ⟨rfl, rfl, rfl⟩
  have h0N := hT.next' (Nat.zero_le N) (Nat.le_refl N)
  have hin : ∀ id i, β id = some i → Wh so Es Hs 0 (N - 0) id = (Hs 0).obj id := by
    intro id i hb
    rcases Nat.lt_or_ge id (Hs 0).next with hlt | hge
    · have := Wh_low hT (c := 0) (k := 0) (j := N) (id := id) (by omega) hlt
      rw [Nat.zero_add] at this
      exact this
    · have h1 : (Hs N).next ≤ id := by
        rcases Nat.lt_or_ge id hi with h | h
        · have := hok.free id hge h; rw [this] at hb; cases hb
        · omega
      have := Wh_high hT hR hok.wf (c := 0) (k := N) (by omega) id (by rw [Nat.zero_add]; exact h1)
      rw [Nat.sub_zero, this, hok.wf id hge]
  have hD0 : ∀ p, ¬ Dn ix (Array.replicate ops.size false) p := by
    intro p h
    unfold Dn at h
    rw [Array.getD_eq_getD_getElem?, Array.getElem?_replicate] at h
    split at h <;> simp at h
  have hE0 : Ecur N op Es (Dn ix (Array.replicate ops.size false)) = Es 0 := by
    funext t
    unfold Ecur
    rw [if_neg]
    rintro ⟨p, _, h, _⟩
    exact hD0 p h
  have hd0 : ∀ {id i}, β id = some i → id < (Hs 0).next ∨ (Hs N).next ≤ id := by
    intro id i hb
    rcases Nat.lt_or_ge id (Hs 0).next with h | h
    · exact .inl h
    · right
      rcases Nat.lt_or_ge id hi with h1 | h1
      · have := hok.free id h h1; rw [this] at hb; cases hb
      · omega
  have hpw0 : PW β (Hs 0).obj w β (Wh so Es Hs 0 (N - 0)) { w with drawn := w.drawn + 1 } := hdrew.toPW.congr fun id i o hb ho => by rw [← hin id i hb]; exact ho
  refine any_ok (β0 := β) (w0 := w) (a0 := a) hT hR ?_ ops.size _ β a _ 0 ⟨by simp, Nat.zero_le _, fun _ h => absurd h (hD0 _), fun _ _ => ⟨fun h => absurd h (hD0 _), fun h => absurd h (Nat.not_lt_zero _)⟩, .inl rfl, hok.wf, hpw0.rel, hok.glob, by rw [hE0]; exact hok.env, hok.size, hd0, fun h => .inl h, hpw0, rfl⟩ (by simp [List.count_replicate])
  intro listed β' a' w' c h hall
  have hno : ∀ r, c ≤ r → r < N → ¬ Eff so s Es r := by
    intro r h1 h2 he
    have := (h.cut h2 he).1 (hall r h2)
    omega
  have hN := h.part hT hR (Nat.le_refl N) h.cN hno
  have hdom : ∀ {id i}, β' id = some i → β id = none → (Hs 0).next ≤ id ∧ id < (Hs N).next := by
    intro id i hb hn
    rcases h.dom hb with h3 | ⟨q, h3, h4, h5, h6⟩
    · rw [h3] at hn; cases hn
    · have := hT.next' (p := q + 1) (q := N) (by omega) (Nat.le_refl N)
      have := hT.next' (Nat.zero_le q) (by omega)
      omega
  refine hQ a' w' ⟨β', ⟨hN.2.2, h.glob, ?_, h.size, ?_, hN.2.1⟩, ⟨h.pw.congr ?_, hdom, h0N, fun _ => hN.2.1⟩, h.defers⟩
  · have : Ecur N op Es (Dn ix listed) = Es N := by
      funext t
      unfold Ecur
      by_cases hx : ∃ p, p < N ∧ Dn ix listed p ∧ (op p).dst = some t
      · rw [if_pos hx]
      · rw [if_neg hx]
        exact (hT.unwrote hR (Nat.le_refl N) fun r hr e => hx ⟨r, hr, hall r hr, e⟩).symm
    rw [← this]; exact h.env
  · intro x h1 h2
    cases hb : β' x with
    | none => rfl
    | some i =>
      exfalso
      cases hb0 : β x with
      | none => have := hdom hb hb0; omega
      | some j => have := hok.free x (by omega) h2; rw [this] at hb0; cases hb0
  · intro id i o hb ho
    have hid : id < (Hs N).next := by
      rcases Nat.lt_or_ge id (Hs N).next with h' | h'
      · exact h'
      · rw [hN.2.1 id h'] at ho; cases ho
    rw [hN.1 id hid]; exact ho

end
end Go.Am
