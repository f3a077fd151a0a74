/- A part of the library Am: an abstract machine for the model, that a kernel evaluates. -/
import Derived.Test.YtpmajhocoepajaaGreatDoorAmN
set_option linter.unusedVariables false
set_option linter.unusedSimpArgs false
namespace Go.Am

section
variable {P : Program} {w : World} {t u ty e : TypeId} {ts : Array TypeId} {i : TypeInfo} {du : TypeDesc} {y' : Value} {n : Nat}
theorem run_room (h0 : ts[0]? = some t) (h1 : ts[1]? = some u) (ht : P.underlying t = some (.slice e)) (hu : P.underlying u = some du) (hd : ∀ k, du ≠ .int k) (hi : P.info? e = some i)
    (hlen : (Builtin.lenOf y').run P w = .ok n w) {a : Addr} {sLen sCap : Nat} (hg : sLen + n ≤ sCap) {news : Array Value} (hf : (Builtin.firstCells i.size n y').run P w = .ok news w) {w' : World}
    (hst : (storeCells (a.add (sLen * i.size)) news.toList).run P w = .ok () w') :
    (Builtin.append_ ts ty #[.slice (some a) sLen sCap, y']).run P w = .ok (.slice (some a) (sLen + n) sCap) w' := by
  have hm : (match du with | .int _ => true | _ => false) = false := by
    cases du <;> first | rfl | exact absurd rfl (hd _)
  simp [Builtin.append_, h0, h1, run_underlying ht, run_underlying hu, sizeOf, typeInfo, hi, hlen, hg, hf, hst, hm]

theorem run_room_nil (h0 : ts[0]? = some t) (h1 : ts[1]? = some u) (ht : P.underlying t = some (.slice e)) (hu : P.underlying u = some du) (hd : ∀ k, du ≠ .int k) (hi : P.info? e = some i)
    (hlen : (Builtin.lenOf y').run P w = .ok 0 w) {news : Array Value} (hf : (Builtin.firstCells i.size 0 y').run P w = .ok news w) :
    (Builtin.append_ ts ty #[.slice none 0 0, y']).run P w = .ok (.slice none 0 0) w := by
  have hm : (match du with | .int _ => true | _ => false) = false := by
    cases du <;> first | rfl | exact absurd rfl (hd _)
  simp [Builtin.append_, h0, h1, run_underlying ht, run_underlying hu, sizeOf, typeInfo, hi, hlen, hf, hm]

theorem run_grow (h0 : ts[0]? = some t) (h1 : ts[1]? = some u) (ht : P.underlying t = some (.slice e)) (hu : P.underlying u = some du) (hd : ∀ k, du ≠ .int k) (hi : P.info? e = some i) {z : Value} (hz : i.zero = some z)
    (hlen : (Builtin.lenOf y').run P w = .ok n w) {base : Option Addr} {sLen sCap : Nat} (hg : sCap < sLen + n) {olds news : Array Value} (hf : (Builtin.firstCells i.size n y').run P w.drew = .ok news w.drew)
    (hfo : (Builtin.firstCells i.size sLen (.slice base sLen sCap)).run P w.drew = .ok olds w.drew) (h63 : ((sLen + n : Nat) : Int) ≤ 9223372036854775807) (hfit : Builtin.nextslicecap (sLen + n) sCap * i.bytes ≤ 281474976710656) :
    (Builtin.append_ ts ty #[.slice base sLen sCap, y']).run P w = .ok (.slice (some ⟨w.heap.size, 0, none⟩) (sLen + n) (grownCap w (sLen + n) sCap e))
        (w.drew.alloc (.cells (olds ++ news ++ Builtin.zeroCells z.cells (grownCap w (sLen + n) sCap e - (sLen + n))) e)) := by
  have hm : (match du with | .int _ => true | _ => false) = false := by
    cases du <;> first | rfl | exact absurd rfl (hd _)
  have hn : ¬ (sLen + n ≤ sCap) := by omega
  have h63' : ¬ (9223372036854775807 < ((sLen : Int) + (n : Int))) := by omega
  have h48' : ¬ (281474976710656 < Builtin.nextslicecap (sLen + n) sCap * i.bytes) := by omega
  simp [Builtin.append_, h0, h1, run_underlying ht, run_underlying hu, sizeOf, typeInfo, zeroValue, hi, hz, hlen, hn, hm, h63', h48', Question.forced, hf, hfo, newRow, grownCap]
end

/-- a block that Am forgets -/
theorem Post.kill {β : Map} {H : Heap} {w : World} (hr : HRel β H.obj w) (id : Nat) : Post β H.obj H.next w β (H.set id none).obj (H.set id none).next w := by
  rw [Heap.set_next]
  have sub : ∀ j i o, β j = some i → (H.set id none).obj j = some o → H.obj j = some o := by
    intro j i o _ h
    rw [Heap.obj_set] at h
    split at h
    · cases h
    · exact h
  refine ⟨⟨Ext.refl β, hr.sub sub, Still.refl w, fun _ _ _ => rfl, fun hb ho => .inr ⟨_, _, _, hb, sub _ _ _ hb ho, rfl, fun h => h⟩⟩, fun h k => absurd (h.symm.trans k) nofun, Nat.le_refl _, ?_⟩
  intro hf x hx
  rw [Heap.obj_set]
  split
  · rfl
  · exact hf x hx

/-- what grows has all its cells in a new block -/
theorem grown {β : Map} {H : Heap} {w : World} (hr : HRel β H.obj w) (hn : β H.next = none) {e : TypeId} {size need cap : Nat} {q : Option Nat} {l : List AVal} {cs rest : Array Value} (hl : LRel β l cs.toList) (hf : ∀ v ∈ cs.toList, Flat v)
    (hcs : l.length = need * size) (hcap : need ≤ cap) (hrest : rest.size = (cap - need) * size) {v : AVal} {H' : Heap} (h : mkOpen H e size q need l = some (v, H')) {w' : World} (hw' : w' = w.drew.alloc (.cells (cs ++ rest) e)) :
    ∃ β', Post β H.obj H.next w β' H'.obj H'.next w' ∧ VRel β' v (.slice (some ⟨w.heap.size, 0, none⟩) need cap) := by
  cases h
  subst hw'
  have hsz : (cs ++ rest).size = cap * size := by
    have := hl.length
    simp at this
    rw [Array.size_append, hrest, ← this, hcs, ← Nat.add_mul]; congr 1; omega
  have hO : ObjRel β (.cells l e true true q) ⟨w.heap.size, 0, true, size, cap * size⟩ (.cells (cs ++ rest) e) := by
    refine .cells rfl ?_ ?_ (fun _ => by rw [hsz]; exact Nat.le_refl _) fun _ => .inl rfl
    · rw [hsz, hcs, Nat.zero_add]; exact Nat.mul_le_mul_right _ hcap
    · intro k v hv
      obtain ⟨v', g1, g2⟩ := hl.get hv
      rw [Array.getElem?_toList] at g1
      refine ⟨v', ?_, g2, hf v' (List.mem_of_getElem? (by rw [Array.getElem?_toList]; exact g1))⟩
      rw [Nat.zero_add, Array.getElem?_append_left (Array.getElem?_eq_some_iff.1 g1).1]; exact g1
  rw [Heap.new_next]
  refine ⟨_, Post.alloc (w' := w.drew.alloc (.cells (cs ++ rest) e)) (i := ⟨w.heap.size, 0, true, size, cap * size⟩) hr hn rfl rfl ⟨rfl, rfl, rfl⟩ hO (fun id => Heap.obj_new _ _ _), ?_⟩
  refine .slc (off := 0) (i := ⟨w.heap.size, 0, true, size, cap * size⟩) (by simp) (Nat.le_refl need) hcap nofun fun _ => ⟨rfl, rfl, ?_⟩
  simp


/-- what grows in place: the same block, another number -/
theorem regrown {P : Program} {β : Map} {H : Heap} {w : World} (hr : HRel β H.obj w) (hn : β H.next = none) {id off len cap' size need : Nat} {i : Info} (hb : β id = some i) {lo : List AVal} {e : TypeId} {p wr : Bool} {q : Option Nat}
    (ho : H.obj id = some (.cells lo e p wr q)) (hw : wr = true) (hfree : free q (off + len * size) = true) (hopn : i.opn = true) (hsz : i.sz = size) (htop : i.base + off + cap' * size ≤ i.top) (hneed : len ≤ need) (hcap : need ≤ cap')
    {old new : List AVal} (hold : loadN H id off (len * size) = some old) {cs : List Value} (hnew : LRel β new cs) (hf : ∀ v ∈ cs, Flat v) (hlen : len * size + new.length = need * size)
    {v : AVal} {H' : Heap} (h : mkOpen (H.set id none) e size (froSub q off) need (old ++ new) = some (v, H')) :
    ∃ w' β', (storeCells (Addr.add ⟨i.blk, i.base + off, none⟩ (len * size)) cs).run P w = .ok () w' ∧ Post β H.obj H.next w β' H'.obj H'.next w' ∧ VRel β' v (.slice (some ⟨i.blk, i.base + off, none⟩) need cap') := by
  cases h
  rw [Heap.set_next, Heap.new_next, Heap.set_next]
  obtain ⟨co, g1, g2⟩ := hr.obj hb ho
  obtain ⟨c, fr, rfl, hp, hsize, hc, hop, hfro⟩ := g2.inv
  · skip
    subst hw
    have hcs := hnew.length
    have htop2 := hop (by rw [← hp]; exact hopn)
    have hmul : need * size ≤ cap' * size := Nat.mul_le_mul_right _ hcap
    obtain ⟨w', c', k1, k2, k3, k4, k5, k6⟩ := storeCells_ok (P := P) (i.base + (off + len * size)) cs 0 w c g1 (by omega) hf (unfrozen (hfro rfl) hfree (by omega))
    obtain ⟨o, h2, h3⟩ := onOpt_eq.1 hold
    rw [ho] at h2; cases h2
    obtain ⟨_, _, _, _, _, e_, h4⟩ := onCells_eq.1 h3
    obtain ⟨rfl, rfl, rfl, rfl, rfl⟩ := AObj.cells_inj e_
    clear e_
    obtain ⟨h5, e_⟩ := takeL_eq.1 h4
    rw [dropL_eq] at h5 e_
    subst e_
    have hlo : (List.take (len * size) (List.drop off lo)).length = len * size := by rw [List.length_take]; omega
    rw [List.length_drop] at h5
    have hO : ∀ β', Ext β β' → ObjRel β' (.cells (List.take (len * size) (List.drop off lo) ++ new) e true true (froSub q off)) ⟨i.blk, i.base + off, true, size, i.top⟩ (.cells c' e fr) := by
      intro β' hext
      refine .cells rfl ?_ ?_ (fun _ => by rw [k5]; exact htop2) fun _ => ?_
      · rw [k5, List.length_append, hlo]; show i.base + off + _ ≤ _; omega
      · intro k v hk
        have hget : c'[i.base + off + k]? = (c.toList.take (i.base + (off + len * size)) ++ cs ++ c.toList.drop (i.base + (off + len * size) + cs.length))[i.base + off + k]? := by
          rw [← Array.getElem?_toList, k6]; simp
        have htl : (c.toList.take (i.base + (off + len * size))).length = i.base + (off + len * size) := by rw [List.length_take, Array.length_toList]; omega
        show ∃ v', c'[i.base + off + k]? = some v' ∧ _
        rw [hget, List.append_assoc, List.getElem?_append, htl]
        rw [List.getElem?_append, hlo] at hk
        split at hk
        · rename_i hlt
          rw [if_pos (by omega), List.getElem?_take, if_pos (by omega), Array.getElem?_toList]
          rw [List.getElem?_take, if_pos hlt, List.getElem?_drop] at hk
          obtain ⟨v', q1, q2, q3⟩ := hc _ v hk
          exact ⟨v', by rw [← q1]; congr 1; omega, q2.mono hext, q3⟩
        · rename_i hge
          rw [if_neg (by omega), List.getElem?_append]
          have hlt := (List.getElem?_eq_some_iff.1 hk).1
          rw [if_pos (by omega)]
          obtain ⟨v', q1, q2⟩ := hnew.get hk
          exact ⟨v', by rw [← q1]; congr 1; omega, q2.mono hext, hf _ (List.mem_of_getElem? q1)⟩
      · rw [k5]
        rcases hfro rfl with h | h
        · exact .inl h
        · refine .inr ?_
          cases q with
          | none => exact h
          | some f => show fr.2 ≤ i.base + off + (f - off); have : fr.2 ≤ i.base + f := h; omega
    have hext : Ext β (fun j => if j = H.next then some ⟨i.blk, i.base + off, true, size, i.top⟩ else β j) := by
      intro j x hj
      by_cases e : j = H.next
      · subst e; rw [hn] at hj; cases hj
      · simp [e, hj]
    have hobj : ∀ j, ((H.set id none).new (.cells (List.take (len * size) (List.drop off lo) ++ new) e true true (froSub q off))).obj j =
        if j = H.next then some (.cells (List.take (len * size) (List.drop off lo) ++ new) e true true (froSub q off)) else if j = id then none else H.obj j := by
      intro j; rw [Heap.obj_new, Heap.set_next, Heap.obj_set]
    have hid : id ≠ H.next := fun e => by rw [e, hn] at hb; cases hb
    have hother : ∀ b, b ≠ i.blk → w'.heap[b]? = w.heap[b]? := fun b hb => by rw [k2, if_neg hb]
    refine ⟨w', _, ?_, ⟨⟨hext, ⟨?_, ?_, ?_⟩, ⟨k4.1, k4.2.1, k4.2.2, by omega⟩, ?_, ?_⟩, ?_, by omega, ?_⟩, ?_⟩
    · rw [add_none, Nat.add_assoc]; exact k1
    · intro j x y hj hy
      rw [hobj] at hy
      by_cases e : j = H.next
      · simp [e] at hj hy
        subst hj; subst hy
        exact ⟨_, by rw [k2, if_pos rfl], hO _ hext⟩
      · simp [e] at hj hy
        obtain ⟨e2, hy⟩ := hy
        obtain ⟨c2, q1, q2⟩ := hr.obj hj hy
        refine ⟨c2, ?_, q2.mono hext⟩
        rw [hother _ (hr.apart (Ne.symm e2) hb hj ho hy).symm]; exact q1
    · intro j j' x x' y y' hne hj hj' hy hy'
      rw [hobj] at hy hy'
      by_cases e : j = H.next
      · have e' : j' ≠ H.next := fun q => hne (e.trans q.symm)
        simp [e] at hj hy
        simp [e'] at hj' hy'
        subst hj
        show i.blk ≠ x'.blk
        exact hr.apart (Ne.symm hy'.1) hb hj' ho hy'.2
      · simp [e] at hj hy
        by_cases e' : j' = H.next
        · simp [e'] at hj' hy'
          subst hj'
          show x.blk ≠ i.blk
          exact hr.apart hy.1 hj hb hy.2 ho
        · simp [e'] at hj' hy'
          exact hr.apart hne hj hj' hy.2 hy'.2
    · intro j x hj
      rw [k3]
      by_cases e : j = H.next
      · simp [e] at hj; subst hj; show i.blk < _; exact hr.lt hb
      · simp [e] at hj; exact hr.lt hj
    · intro b hlt hno
      exact hother b fun e => hno id i _ hb ho rfl e.symm
    · intro j x y hj hy
      rw [hobj] at hy
      by_cases e : j = H.next
      · simp [e] at hj; subst hj
        exact .inr ⟨id, i, _, hb, ho, rfl, fun _ => rfl⟩
      · simp [e] at hj hy
        exact .inr ⟨j, x, y, hj, hy.2, rfl, fun h => h⟩
    · intro j x hj h0
      by_cases e : j = H.next
      · omega
      · simp [e] at hj; rw [hj] at h0; cases h0
    · intro hf x hx
      rw [hobj, if_neg (by omega)]
      split
      · rfl
      · exact hf x (by omega)
    · refine .slc (off := 0) (i := ⟨i.blk, i.base + off, true, size, i.top⟩) (by simp) (Nat.le_refl need) hcap nofun fun _ => ⟨rfl, rfl, ?_⟩
      exact htop


theorem roomy_ok {need old bytes : Nat} (hb : bytes ≠ 0) (h : roomy need bytes = true) (hlt : old < need) :
    ((need : Nat) : Int) ≤ 9223372036854775807 ∧ Builtin.nextslicecap need old * bytes ≤ 281474976710656 := by
  have h := Nat.le_of_ble_eq_true (show Nat.ble ((4 * need + 4000) * bytes) 140737488355328 = true from h)
  have h1 : need * 1 ≤ need * bytes := Nat.mul_le_mul_left _ (by omega)
  have h2 : need * bytes ≤ (4 * need + 4000) * bytes := Nat.mul_le_mul_right _ (by omega)
  exact ⟨by omega, growslice_fits hlt (by omega)⟩

theorem loadN_length {H : Heap} {id off n : Nat} {l : List AVal} (h : loadN H id off n = some l) : l.length = n := by
  obtain ⟨o, _, h⟩ := onOpt_eq.1 h
  obtain ⟨_, _, _, _, _, _, h⟩ := onCells_eq.1 h
  obtain ⟨h1, rfl⟩ := takeL_eq.1 h
  rw [List.length_take]; omega

theorem src_len_eq {H : Heap} {size : Nat} {y : AVal} {n : Nat} {l : List AVal} {β : Map} {y' : Value} (hs : SrcIs H size y n l) (hy : VRel β y y') : l.length = n * size := by
  cases hs with
  | str h =>
    cases hy with
    | str hb => rw [str_cells hb, List.length_map, ← hb.len, h, Nat.mul_one]
  | slc h => exact loadN_length h
  | nils => simp

theorem drew_rel {β : Map} {O : Nat → Option AObj} {w : World} (h : HRel β O w) : HRel β O w.drew := ⟨h.obj, h.apart, h.lt⟩

theorem mkOpen_next {H : Heap} {e : TypeId} {s : Nat} {q : Option Nat} {n : Nat} {cs : List AVal} {v : AVal} {H' : Heap} (h : mkOpen H e s q n cs = some (v, H')) : H'.next = H.next + 1 := by
  cases h; exact Heap.new_next _ _

theorem app_ok {P : Program} {β : Map} {H H' : Heap} {w : World} (hr : HRel β H.obj w) (hfr : FreeB β H.next H'.next) {t u ty e : TypeId} {ts : Array TypeId} {du : TypeDesc} (h0 : ts[0]? = some t) (h1 : ts[1]? = some u)
    (ht : P.underlying t = some (.slice e)) (hu : P.underlying u = some du) (hd : ∀ k, du ≠ .int k) {size bytes : Nat} (hs : size? P e = some size) (hb : bytes? P e = some bytes) (hb0 : bytes ≠ 0) {zv : AVal} {zs : List AVal} (hz : zero? P e = some (zv, zs))
    {x y v : AVal} {x' y' : Value} (hx : VRel β x x') (hy : VRel β y y') (h : oApp e size bytes x y H = some (v, H')) : EfOk P β H (Builtin.append_ ts ty #[x', y']) w v H' := by
  obtain ⟨z, z1, z2, z3, z4, z5⟩ := zero_ok hz
  obtain ⟨i, hi, hib, his⟩ : ∃ i, P.info? e = some i ∧ i.bytes = bytes ∧ i.size = size := by
    unfold bytes? at hb; unfold size? at hs
    cases q : P.info? e with
    | none => rw [q] at hb; cases hb
    | some i => rw [q] at hb hs; exact ⟨i, rfl, by simpa using hb, by simpa using hs⟩
  have hzz : i.zero = some z := by
    have := z1 w
    simp only [zeroValue, typeInfo, Sem.run_bind, run_program, Result.andThen_ok, hi, Sem.run_pure] at this
    cases q : i.zero with
    | none => rw [q] at this; simp at this
    | some z0 => rw [q] at this; simp at this; rw [this]
  have hzs : z.cells.size = size := by
    have h6 := (z3 β).length
    rw [hs] at z5; simp at z5 h6; omega
  subst hib; subst his
  obtain ⟨n, new, hsrc, h2⟩ := src_eq h
  have hlen := src_len (P := P) hsrc hy w
  have hnl := src_len_eq hsrc hy
  obtain ⟨cn, f1, f2, f3⟩ := src_cells (P := P) hr hsrc hy (Nat.le_refl n)
  obtain ⟨cd, d1, d2, d3⟩ := src_cells (P := P) (drew_rel hr) hsrc hy (Nat.le_refl n)
  rw [← hnl, List.take_length] at f2 d2
  have hrest : ∀ k need, (Builtin.zeroCells z.cells (k - need)).size = (k - need) * i.size := by intro k need; rw [size_zeroCells, hzs]
  rcases onSlc_eq.1 h2 with ⟨e_, h3⟩ | ⟨id, off, len, cap, k, e_, h3⟩
  · subst e_
    cases hx
    cases q : Nat.beq n 0 with
    | true =>
      rw [q] at h3; cases h3
      have := Nat.eq_of_beq_eq_true q; subst this
      exact ⟨_, w, β, run_room_nil h0 h1 ht hu hd hi hlen f1, Post.refl hr, .nils⟩
    | false =>
      rw [q] at h3
      have hpos : 0 < n := by
        rcases Nat.eq_zero_or_pos n with h | h
        · subst h; cases q
        · exact h
      obtain ⟨h4, h5⟩ := ifB_eq.1 (show ifB (roomy n i.bytes) (mkOpen H e i.size (some 0) n new) = some (v, H') from h3)
      obtain ⟨q1, q2⟩ := roomy_ok hb0 h4 hpos
      have hrun := run_grow (w := w) (sLen := 0) (sCap := 0) (base := none) (olds := #[]) h0 h1 ht hu hd hi hzz hlen (by omega) d1 (by rfl) (by rw [Nat.zero_add]; exact q1) (by rw [Nat.zero_add]; exact q2) (ty := ty)
      rw [Nat.zero_add, Array.empty_append] at hrun
      obtain ⟨β', p1, p2⟩ := grown hr (hfr _ (Nat.le_refl _) (by rw [mkOpen_next h5]; omega)) d2 d3 hnl (grownCap_ge w n 0 e) (hrest _ _) h5 rfl
      exact ⟨_, _, β', hrun, p1, p2⟩
  · subst e_
    have hneed : ∀ (β0 : Map), True := fun _ => trivial
    cases q : Nat.ble (Nat.add len n) cap with
    | true =>
      rw [q] at h3
      obtain ⟨H1, h4, h5⟩ := onOpt_eq.1 (show onOpt (storeN H id (Nat.add off (Nat.mul len i.size)) new) (fun H => some (.slc id off (Nat.add len n) cap k, H)) = some (v, H') from h3)
      cases h5
      have hle : len + n ≤ cap := Nat.le_of_ble_eq_true q
      cases hx with
      | @slc _ _ _ _ cap' _ ii hbb hl q1 q2 q3 =>
        obtain ⟨w', k1, k2⟩ := storeN_ok (P := P) hr hbb f2 f3 h4
        refine ⟨_, w', β, run_room h0 h1 ht hu hd hi hlen (Nat.le_trans hle q1) f1 (by rw [add_none, Nat.add_assoc]; exact k1), k2, .slc hbb hle q1 q2 q3⟩
      | slc0 hbb =>
        have : n = 0 := by omega
        subst this
        have e1 : new = [] := List.eq_nil_of_length_eq_zero (by rw [hnl]; simp)
        subst e1
        have e2 : cn.toList = [] := by
          have := f2.length
          exact List.eq_nil_of_length_eq_zero this.symm
        obtain ⟨w', k1, k2⟩ := storeN_ok (P := P) hr hbb (cs := []) .nil (by simp) h4
        have : w' = w := (Result.ok.inj (k1.symm.trans (show _ = Result.ok () w from rfl))).2
        subst this
        refine ⟨_, w', β, run_room h0 h1 ht hu hd hi hlen (Nat.le_refl 0) f1 (by rw [e2]; rfl), k2, .slc0 hbb⟩
    | false =>
      rw [q] at h3
      have hgt : cap < len + n := by
        rcases Nat.lt_or_ge cap (len + n) with h | h
        · exact h
        · rw [Nat.ble_eq_true_of_le (show Nat.add len n ≤ cap from h)] at q; cases q
      obtain ⟨h4, h5⟩ := ifB_eq.1 (show ifB (roomy (Nat.add len n) i.bytes) _ = some (v, H') from h3)
      obtain ⟨old, h6, h7⟩ := onOpt_eq.1 h5
      have hol := loadN_length h6
      -- what the model does where it has no room
      have grow : ∀ (a : Addr) (cap' : Nat), cap' < len + n → (∃ co : Array Value, (loadCells a (len * i.size)).run P w.drew = .ok co w.drew ∧ LRel β old co.toList ∧ (∀ v ∈ co.toList, Flat v)) →
          ∀ (H1 : Heap), HRel β H1.obj w → H1.next = H.next → ∀ q, mkOpen H1 e i.size q (len + n) (old ++ new) = some (v, H') → Post β H.obj H.next w β H1.obj H1.next w →
          EfOk P β H (Builtin.append_ ts ty #[.slice (some a) len cap', y']) w v H' := by
        rintro a cap' hlt ⟨co, g1, g2, g3⟩ H1 hr1 hn1 q hmk hpost
        obtain ⟨q1, q2⟩ := roomy_ok hb0 h4 hlt
        have hrun := run_grow (w := w) (ty := ty) h0 h1 ht hu hd hi hzz hlen hlt d1 (show (Builtin.firstCells i.size len (.slice (some a) len cap')).run P w.drew = _ from g1) q1 q2
        obtain ⟨β', p1, p2⟩ := grown hr1 (hfr _ (by omega) (by rw [mkOpen_next hmk]; omega)) (l := old ++ new) (cs := co ++ cd) (by rw [Array.toList_append]; exact g2.append d2)
          (by intro v hv; rw [Array.toList_append, List.mem_append] at hv; exact hv.elim (g3 v) (d3 v)) (by rw [List.length_append, hol, hnl, Nat.add_mul]; rfl) (grownCap_ge w (len + n) cap' e) (hrest _ _) hmk rfl
        exact ⟨_, _, β', hrun, hpost.trans p1, p2⟩
      have old_ok : ∀ (ii : Info), β id = some ii → ∃ co : Array Value, (loadCells ⟨ii.blk, ii.base + off, none⟩ (len * i.size)).run P w.drew = .ok co w.drew ∧ LRel β old co.toList ∧ (∀ v ∈ co.toList, Flat v) := by
        intro ii hbb
        exact loadN_ok (P := P) (drew_rel hr) hbb h6
      cases q2 : Nat.beq k 0 with
      | true =>
        rw [q2] at h7
        have := Nat.eq_of_beq_eq_true q2; subst this
        cases hx with
        | @slc _ _ _ _ cap' _ ii hbb hl c1 c2 c3 =>
          have := c2 rfl; subst this
          refine grow _ _ hgt (old_ok _ hbb) H hr rfl (some 0) ?_ (Post.refl hr)
          rw [← app_eq]; exact h7
        | slc0 hbb =>
          refine grow _ _ hgt ⟨#[], by simp only [Nat.zero_mul]; rfl, ?_, by simp⟩ H hr rfl (some 0) ?_ (Post.refl hr)
          · have : old = [] := List.eq_nil_of_length_eq_zero (by rw [hol]; simp)
            subst this; exact .nil
          · rw [← app_eq]; exact h7
      | false =>
        rw [q2] at h7
        obtain ⟨h8, h9⟩ := ifB_eq.1 (show ifB (Nat.beq k (Nat.succ i.size)) _ = some (v, H') from h7)
        have := Nat.eq_of_beq_eq_true h8; subst this
        obtain ⟨o, ho, h10⟩ := onOpt_eq.1 h9
        obtain ⟨lo, el, p, wr, fq, e_, h11⟩ := onCells_eq.1 h10
        subst e_
        obtain ⟨h12, h13⟩ := ifB_eq.1 h11
        rw [Bool.and_eq_true, Bool.and_eq_true] at h12
        obtain ⟨hw, hel, hfree⟩ := h12
        have := Nat.eq_of_beq_eq_true hel; subst this
        rw [app_eq] at h13
        have hk := Post.kill hr id
        cases hx with
        | @slc _ _ _ _ cap' _ ii hbb hl c1 c2 c3 =>
          obtain ⟨c4, c5, c6⟩ := c3 (by simp)
          have c5 : ii.sz = i.size := by omega
          rcases Nat.lt_or_ge cap' (len + n) with hlt | hge
          · exact grow _ _ hlt (old_ok _ hbb) (H.set id none) hk.rel (Heap.set_next _ _ _) _ h13 hk
          · obtain ⟨w', β', k1, k2, k3⟩ := regrown hr (hfr _ (Nat.le_refl _) (by rw [mkOpen_next h13, Heap.set_next]; omega)) hbb ho hw hfree c4 c5 (by rw [← c5]; exact c6) (Nat.le_add_right len n) hge h6 f2 f3 (by rw [hnl, Nat.add_mul]) h13
            exact ⟨_, w', β', run_room h0 h1 ht hu hd hi hlen hge f1 k1, k2, k3⟩
        | slc0 hbb =>
          refine grow _ _ hgt ⟨#[], by simp only [Nat.zero_mul]; rfl, ?_, by simp⟩ (H.set id none) hk.rel (Heap.set_next _ _ _) _ h13 hk
          have : old = [] := List.eq_nil_of_length_eq_zero (by rw [hol]; simp)
          subst this; exact .nil

end Go.Am
