/- A part of the library Am: an abstract machine for the model, that a kernel evaluates. -/
import Derived.Test.YtpmajhocoepajaaGreatDoorAmI
import Derived.Laws.BytesString
set_option linter.unusedVariables false
set_option linter.unusedSimpArgs false
namespace Go.Am

theorem hasK_key {P : Program} {t : TypeId} {k : TK} (h : keyKind P t = some k) : HasK P t k := by
  unfold keyKind at h
  split at h
  · cases h; assumption
  · cases h; exact ⟨_, by assumption⟩
  · cases h; assumption
  · cases h

theorem checkKey_ok {P : Program} {t : TypeId} {k : TK} (h : HasK P t k) (empty : Bool) (v : Value) (w : World) : (Instr.checkKey empty 10000 t v).run P w = .ok () w := by
  have key : ∀ d, (Instr.checkKey empty (d + 1) t v).run P w = .ok () w := by
    intro d
    cases k <;> simp [HasK] at h
    · simp [Instr.checkKey, run_underlying h]
    · obtain ⟨k, h⟩ := h; simp [Instr.checkKey, run_underlying h]
    · simp [Instr.checkKey, run_underlying h]
  exact key 9999

/-- the description of a key's type -/
def KeyD (P : Program) (t : TypeId) (k : TK) (d : TypeDesc) : Prop := P.underlying t = some d ∧ match k with
  | .b => d = .bool
  | .i => ∃ j, d = .int j
  | .s => d = .string
  | _ => False
theorem keyD_of {P : Program} {t : TypeId} {k : TK} (h : HasK P t k) : ∃ d, KeyD P t k d := by
  cases k <;> simp [HasK] at h
  · exact ⟨_, h, rfl⟩
  · obtain ⟨j, h⟩ := h; exact ⟨_, h, j, rfl⟩
  · exact ⟨_, h, rfl⟩

theorem sameNow_ok {P : Program} {β : Map} {t : TypeId} {tk : TK} {d : TypeDesc} (hd : KeyD P t tk d) {k e : AVal} {k' e' : Value} (hk : VRel β k k') (he : VRel β e e') {r : Bool} (h : eqPlain tk k e = some r) :
    Instr.sameNow d k' e' = some r ∧ (r = true → Instr.sameBits 10000 e' k' = true) := by
  obtain ⟨_, hd⟩ := hd
  rcases eqPlain_eq h with ⟨rfl, a, b, rfl, rfl, rfl⟩ | ⟨rfl, j, a, b, rfl, rfl, rfl⟩ | ⟨rfl, n, v, m, u, rfl, rfl, rfl⟩
  · subst hd
    cases hk; cases he
    refine ⟨rfl, fun h => ?_⟩
    simp at h; subst h
    cases a <;> rfl
  · obtain ⟨j', rfl⟩ := hd
    cases hk; cases he
    refine ⟨by simp [Instr.sameNow], fun h => ?_⟩
    simp at h; subst h
    have : ∀ d, Instr.sameBits d (.int j a) (.int j a) = true := by intro d; cases d <;> simp [Instr.sameBits]
    exact this _
  · subst hd
    cases hk with
    | str h1 => cases he with
      | str h2 =>
        rename_i s s'
        have e1 := strB h1 h2
        refine ⟨by simp only [Instr.sameNow, e1], fun h => ?_⟩
        have e2 : (s' == s) = true := by
          rw [strB h2 h1]; rw [← strB h1 h2] at h
          have hn := strB h2 h1
          rw [← hn, beq_toListBytes, beq_iff_eq]
          rw [beq_toListBytes, beq_iff_eq] at h
          exact h.symm
        have : ∀ d, Instr.sameBits d (.string s') (.string s) = (s' == s) := by intro d; cases d <;> rfl
        rw [this]; exact e2

noncomputable def findF (tk : TK) (k : AVal) : List (AVal × AVal × Nat) → Nat → Option (Option (Nat × AVal × Nat))
  | [], _ => some none
  | e :: es, i => onOpt (eqPlain tk k e.1) fun t => iteB t (some (some (i, e.2.1, e.2.2))) (findF tk k es (i + 1))
theorem find_eq (tk : TK) (k : AVal) (es : List (AVal × AVal × Nat)) : find tk k es = findF tk k es 0 := by
  have : ∀ (es : List (AVal × AVal × Nat)) (i : Nat), List.rec (motive := fun _ => Nat → Option (Option (Nat × AVal × Nat))) (fun _ => some none)
    (fun e _ ih i => onOpt (eqPlain tk k e.1) fun t => iteB t (some (some (i, e.2.1, e.2.2))) (ih (Nat.succ i))) es i = findF tk k es i := by
    intro es
    induction es with
    | nil => intro i; rfl
    | cons e es ih =>
      intro i
      show onOpt (eqPlain tk k e.1) _ = onOpt (eqPlain tk k e.1) _
      congr 1; funext t; rw [← ih]
  exact this es 0

theorem findF_ok {P : Program} {β : Map} {t : TypeId} {tk : TK} {d : TypeDesc} (hd : KeyD P t tk d) {k : AVal} {k' : Value} (hk : VRel β k k') :
    ∀ (es : List (AVal × AVal × Nat)) (ces : List MapEntry), MRel β es ces → ∀ (i : Nat) (r : Option (Nat × AVal × Nat)), findF tk k es i = some r →
      match r with
      | none => Instr.findNow d k' ces i = some none
      | some (p, v, b) => i ≤ p ∧ ∃ ka e', es[p - i]? = some (ka, v, b) ∧ ces[p - i]? = some e' ∧ e'.born = b ∧ VRel β v e'.val ∧ Instr.findNow d k' ces i = some (some (p, e'.val)) ∧
          Instr.sameBits 10000 e'.key k' = true := by
  intro es ces hm
  induction hm with
  | nil => intro i r h; cases h; rfl
  | @cons ka va b k2 v2 es es' hk2 hv2 ht ih =>
    intro i r h
    obtain ⟨u, h1, h2⟩ := onOpt_eq.1 (show onOpt (eqPlain tk k ka) (fun t => iteB t (some (some (i, va, b))) (findF tk k es (i + 1))) = some r from h)
    obtain ⟨g1, g2⟩ := sameNow_ok hd hk hk2 h1
    cases u with
    | true =>
      cases h2
      refine ⟨Nat.le_refl _, ka, ⟨k2, v2, b⟩, by simp, by simp, rfl, hv2, ?_, g2 rfl⟩
      simp [Instr.findNow, g1]
    | false =>
      have h2 : findF tk k es (i + 1) = some r := h2
      have h3 := ih _ _ h2
      cases r with
      | none => simpa [Instr.findNow, g1] using h3
      | some q =>
        obtain ⟨p, v, b'⟩ := q
        obtain ⟨h4, ka', e', h5, h6, h7⟩ := h3
        have e1 : p - i = (p - (i + 1)) + 1 := by omega
        refine ⟨by omega, ka', e', by rw [e1]; simpa using h5, by rw [e1]; simpa using h6, ?_⟩
        simpa [Instr.findNow, g1] using h7

theorem findKey_ok {P : Program} {β : Map} {t : TypeId} {tk : TK} (ht : HasK P t tk) {k : AVal} {k' : Value} (hk : VRel β k k') {es : List (AVal × AVal × Nat)} {ces : List MapEntry} (hm : MRel β es ces)
    {r : Option (Nat × AVal × Nat)} (h : find tk k es = some r) (w : World) :
    match r with
    | none => (Instr.findKey t k' ces).run P w = .ok none w
    | some (p, v, b) => ∃ ka e', es[p]? = some (ka, v, b) ∧ ces[p]? = some e' ∧ e'.born = b ∧ VRel β v e'.val ∧ (Instr.findKey t k' ces).run P w = .ok (some (p, e'.val)) w ∧
        Instr.sameBits 10000 e'.key k' = true := by
  obtain ⟨d, hd⟩ := keyD_of ht
  rw [find_eq] at h
  have := findF_ok hd hk es ces hm 0 r h
  cases r with
  | none => simp [Instr.findKey, run_underlying hd.1, this]
  | some q =>
    obtain ⟨p, v, b⟩ := q
    obtain ⟨_, ka, e', h1, h2, h3, h4, h5, h6⟩ := this
    exact ⟨ka, e', by simpa using h1, by simpa using h2, h3, h4, by simp [Instr.findKey, run_underlying hd.1, h5], h6⟩

theorem okd_rel {β : Map} {ok is : Bool} {v : AVal} {v' : Value} (h : VRel β v v') : VRel β (okd ok v is) (if ok then .tuple #[v', .bool is] else v') := by
  cases ok with
  | false => exact h
  | true => exact .tup (.cons h (.cons (.bool _) .nil))

theorem run_getObj_map {P : Program} {w : World} {b : Nat} {es : Array MapEntry} {cl : Nat} (h : w.heap[b]? = some (.map es cl)) : (getObj b).run P w = .ok (.map es cl) w := by
  simp [getObj, Sem.run, h]

theorem lk_ok {P : Program} {β : Map} {H : Heap} {w : World} (hr : HRel β H.obj w) {t kt e : TypeId} (ht : P.underlying t = some (.map kt e)) {tk : TK} (hk : keyKind P kt = some tk) {z : AVal} {zl : List AVal}
    (hz : zero? P e = some (z, zl)) {ok : Bool} {m k v : AVal} {m' k' : Value} (hm : VRel β m m') (hkk : VRel β k k') (h : oLk tk z ok m k H = some v) :
    ∃ v', (Instr.lookup t m' k' ok).run P w = .ok v' w ∧ VRel β v v' := by
  obtain ⟨zv, z1, z2, _⟩ := zero_ok hz
  have hK := hasK_key hk
  rcases onMap_eq.1 h with ⟨e_, h1⟩ | ⟨id, e_, h1⟩
  · subst e_
    cases h1; cases hm
    have hf : (Instr.findKey kt k' []).run P w = .ok none w := by
      have := findKey_ok (P := P) (β := β) hK hkk (es := []) (ces := []) .nil (r := none) rfl w
      exact this
    refine ⟨_, ?_, okd_rel (z2 β)⟩
    simp [Instr.lookup, run_underlying ht, checkKey_ok hK, hf, z1]
  · subst e_
    obtain ⟨o, h2, h3⟩ := onOpt_eq.1 h1
    obtain ⟨es, cl, e_, h4⟩ := onEnts_eq.1 h3
    subst e_
    obtain ⟨r, h5, h6⟩ := onOpt_eq.1 h4
    cases h6
    cases hm with
    | map hb =>
      obtain ⟨co, g1, g2⟩ := hr.obj hb h2
      cases g2 with
      | map hmr =>
        have hf := findKey_ok (P := P) hK hkk hmr h5 w
        cases r with
        | none =>
          refine ⟨_, ?_, okd_rel (z2 β)⟩
          simp [Instr.lookup, run_underlying ht, run_getObj_map g1, checkKey_ok hK, show (Instr.findKey kt k' _).run P w = _ from hf, z1]
        | some q =>
          obtain ⟨p, v, b⟩ := q
          obtain ⟨ka, e', q1, q2, q3, q4, q5, q6⟩ := hf
          refine ⟨_, ?_, okd_rel q4⟩
          simp [Instr.lookup, run_underlying ht, run_getObj_map g1, checkKey_ok hK, q5]

theorem MRel.length {β : Map} {es : List (AVal × AVal × Nat)} {ces : List MapEntry} (h : MRel β es ces) : es.length = ces.length := by
  induction h with
  | nil => rfl
  | cons _ _ _ ih => simp [ih]

theorem lenM_ok {P : Program} {β : Map} {H : Heap} {w : World} (hr : HRel β H.obj w) {t a b : TypeId} (ht : P.underlying t = some (.map a b)) {ts : Array TypeId} (h0 : ts[0]? = some t) {r : TypeId} {x v : AVal} {x' : Value}
    (hx : VRel β x x') (h : oLenM x H = some v) : ∃ v', (Builtin.len_ ts r #[x']).run P w = .ok v' w ∧ VRel β v v' := by
  rcases onMap_eq.1 h with ⟨e_, h1⟩ | ⟨id, e_, h1⟩
  · subst e_; cases h1; cases hx
    exact ⟨.int .i64 (Int.ofNat 0), by simp [Builtin.len_, h0, run_underlying ht, goInt], .int _ _⟩
  · subst e_
    obtain ⟨o, h2, h3⟩ := onOpt_eq.1 h1
    obtain ⟨es, cl, e_, h4⟩ := onEnts_eq.1 h3
    subst e_
    cases h4
    cases hx with
    | map hb =>
      obtain ⟨co, g1, g2⟩ := hr.obj hb h2
      cases g2 with
      | map hmr =>
        have := hmr.length
        rw [lenL_eq]
        refine ⟨.int .i64 (Int.ofNat es.length), ?_, .int _ _⟩
        simp [Builtin.len_, h0, run_underlying ht, run_getObj_map g1, goInt]
        simp at this; omega

/-! ## bytes -/
noncomputable def bytesF : List AVal → Nat → Nat → Option (Nat × Nat)
  | [], n, v => some (n, v)
  | c :: l, n, v => onInt c fun k b => ifB (keq k .u8) (Int.casesOn (motive := fun _ => Option (Nat × Nat)) b (fun b => bytesF l (n + 1) (v * 256 + b % 256)) (fun _ => none))
theorem bytesOf_eq (l : List AVal) : bytesOf l = bytesF l 0 0 := by
  have : ∀ (l : List AVal) (n v : Nat), List.rec (motive := fun _ => Nat → Nat → Option (Nat × Nat)) (fun n v => some (n, v))
    (fun c _ ih n v => onInt c fun k b => ifB (keq k .u8) (Int.casesOn (motive := fun _ => Option (Nat × Nat)) b (fun b => ih (Nat.succ n) (Nat.add (Nat.mul v 256) (Nat.mod b 256))) (fun _ => none))) l n v = bytesF l n v := by
    intro l
    induction l with
    | nil => intro n v; rfl
    | cons c l ih =>
      intro n v
      show onInt c _ = onInt c _
      congr 1; funext k b; congr 1
      cases b with
      | ofNat b => exact ih _ _
      | negSucc b => rfl
  exact this l 0 0

theorem bytesF_ok {β : Map} : ∀ {l : List AVal} {cs : List Value} {n v : Nat} {s : ByteArray} {r : Nat × Nat}, LRel β l cs → StrRel n v s → bytesF l n v = some r →
    ∃ ns : List Int, cs = ns.map (Value.int .u8) ∧ StrRel r.1 r.2 (ns.foldl (fun r n => r.push (UInt8.ofNat n.toNat)) s)
  | [], _, n, v, s, r, .nil, hs, h => by cases h; exact ⟨[], rfl, hs⟩
  | c :: l, _, n, v, s, r, .cons hc ht, hs, h => by
    obtain ⟨k, b, e_, h1⟩ := onInt_eq.1 h
    subst e_
    obtain ⟨h2, h3⟩ := ifB_eq.1 h1
    have := keq_eq.1 h2; subst this
    cases hc
    cases b with
    | negSucc b => cases h3
    | ofNat b =>
      have hp : StrRel (n + 1) (v * 256 + b % 256) (s.push (UInt8.ofNat b)) := by
        refine ⟨by rw [hs.1]; simp [ByteArray.size_push], ?_⟩
        have : (s.push (UInt8.ofNat b)).data.toList = s.data.toList ++ [UInt8.ofNat b] := by simp [ByteArray.push]
        rw [this, val_snoc, ← hs.2]
        simp
      obtain ⟨ns, g1, g2⟩ := bytesF_ok ht hp h3
      exact ⟨Int.ofNat b :: ns, by rw [g1]; rfl, by simpa using g2⟩

theorem b2s_ok {P : Program} {β : Map} {H : Heap} {w : World} (hr : HRel β H.obj w) {s d e : TypeId} (hs : P.underlying s = some (.slice e)) (he : P.underlying e = some (.int .u8)) (hd : P.underlying d = some .string)
    {x v : AVal} {x' : Value} (hx : VRel β x x') (h : oB2s x H = some v) : ∃ v', (convert s d x').run P w = .ok v' w ∧ VRel β v v' := by
  rcases onSlc_eq.1 h with ⟨e_, h1⟩ | ⟨id, off, len, cap, k, e_, h1⟩
  · subst e_; cases h1; cases hx
    rw [run_convert_bytes_string w _ _ _ _ _ _ hs he hd]
    exact ⟨_, rfl, .str ⟨rfl, rfl⟩⟩
  · subst e_
    obtain ⟨l, h2, h3⟩ := onOpt_eq.1 h1
    obtain ⟨r, h4, h5⟩ := onOpt_eq.1 h3
    cases h5
    rw [bytesOf_eq] at h4
    have fin : ∀ (a : Addr) (c : Nat) (cs : Array Value), (loadCells a len).run P w = .ok cs w → LRel β l cs.toList → ∃ v', (convert s d (.slice (some a) len c)).run P w = .ok v' w ∧ VRel β (.str r.1 r.2) v' := by
      intro a c cs g1 g2
      obtain ⟨ns, g3, g4⟩ := bytesF_ok g2 (s := ByteArray.empty) ⟨rfl, rfl⟩ h4
      rw [run_convert_bytes_string w _ _ _ _ _ _ hs he hd]
      refine ⟨_, run_bytesToString w _ _ _ ns (by rw [g1, ← g3]), .str g4⟩
    cases hx with
    | slc hb hl h1 h2' h3 =>
      obtain ⟨cs, g1, g2, _⟩ := loadN_ok (P := P) hr hb h2
      exact fin _ _ cs g1 g2
    | slc0 hb =>
      obtain ⟨cs, g1, g2, _⟩ := loadN_ok (P := P) hr hb h2
      have : cs = #[] := (Result.ok.inj ((show _ = Result.ok #[] w from rfl).symm.trans g1)).1.symm
      subst this
      exact fin _ _ #[] rfl g2

end Go.Am
