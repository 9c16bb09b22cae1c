/-
  Conversions, maps that are asked, and the rest; then all operations that leave the store alone, in one.
-/
import Derived.Test.YtijphjckgdomlaaAm9
import Derived.Laws.BytesString
set_option linter.all false
namespace Am
open Go

section
variable {P : Program} {T : Tab} {g : Gh} {nx : Nat} {w : World} {s : Sto} {e : Env} {a : Act}
variable {tri : FuncId → List AV → Sto → Nat → (AV → Sto → Nat → Prop) → Prop} {weak : St → St → Prop} {K : AV → Prop}

theorem kind_int (hT : TabOk P T) {t : Nat} {k : IntKind} (h : kindOf T t = .int k) : P.underlying t = some (.int k) := by
  obtain ⟨ti, hl, htd⟩ := kindOf_some h (by simp)
  have := (hT t ti hl).td
  rw [htd] at this
  exact this
theorem known_under (hT : TabOk P T) {t : Nat} {ti : TI} (h : look t T = some ti) : ∃ d, P.underlying t = some d := by
  have h1 := (hT t ti h).td
  have h2 := (hT t ti h).known
  revert h1 h2
  cases ti.td with
  | struct fs cm => exact fun h1 _ => let ⟨a, ha, _⟩ := h1; ⟨_, ha⟩
  | iface em => exact fun h1 _ => let ⟨a, ha, _⟩ := h1; ⟨_, ha⟩
  | func => exact fun h1 _ => let ⟨a, b, c, ha⟩ := h1; ⟨_, ha⟩
  | other => exact fun _ h2 => absurd rfl h2
  | _ => exact fun h1 _ => ⟨_, h1⟩
theorem bytes_under (hT : TabOk P T) {t : Nat} (h : isBytes T t = true) : ∃ u, P.underlying t = some (.slice u) ∧ P.underlying u = some (.int .u8) := by
  unfold isBytes at h
  split at h
  · rename_i u hk
    split at h
    · rename_i hk2
      exact ⟨u, kind_slice hT hk, kind_int hT hk2⟩
    · cases h
  · cases h

theorem fold_bytes : ∀ (ns : List Int) (b : ByteArray), ns.foldl (fun r n => r.push (UInt8.ofNat n.toNat)) b = ⟨b.data ++ (ns.map fun n => UInt8.ofNat n.toNat).toArray⟩ := by
  intro ns
  induction ns with
  | nil => intro b; simp
  | cons n r ih =>
    intro b
    rw [List.foldl_cons, ih]
    obtain ⟨d⟩ := b
    congr 1
    simp [ByteArray.push]

/-- Bytes that lie in a row, as a text. -/
theorem bytes_str {src dst : Nat} {u : Nat} (hs : P.underlying src = some (.slice u)) (hu : P.underlying u = some (.int .u8)) (hd : P.underlying dst = some .string) {f : Nat → List CV} {n : Nat} (hb : ∀ i, i < n → ∃ b, f i = [.v (.int .u8 b)])
    {b o cap : Nat} {w' : World} (hc : ∀ i q, i < n → f i = [.v (.int .u8 q)] → w'.cell? ⟨b, o + i, none⟩ = some (.int .u8 q)) :
    (convert src dst (.slice (some ⟨b, o, none⟩) n cap)).run P w' = .ok (.string ⟨((List.range n).map fun i => byteOf (f i)).toArray⟩) w' := by
  rw [run_convert_bytes_string w' src dst u _ _ _ hs hu hd]
  have hq : ∃ q : Nat → Int, ∀ i, i < n → f i = [.v (.int .u8 (q i))] := by
    refine ⟨fun i => match f i with | .v (.int .u8 b) :: _ => b | _ => 0, fun i hi => ?_⟩
    obtain ⟨b, hb⟩ := hb i hi
    simp only [hb]
  obtain ⟨q, hq⟩ := hq
  have hl := loadFrom_run (P := P) w' ⟨b, o, none⟩ (((List.range n).map q).map (Value.int .u8)) 0 #[] (fun j y hj => by
    have hjn : j < n := by have := (List.getElem?_eq_some_iff.1 hj).1; simpa using this
    simp [hjn] at hj
    subst hj
    rw [add_none, Nat.zero_add]
    exact hc j (q j) hjn (hq j hjn))
  have hl' : (loadCells ⟨b, o, none⟩ n).run P w' = .ok (((List.range n).map q).map (Value.int .u8)).toArray w' := by
    simp only [List.length_map, List.length_range] at hl
    simp only [loadCells, hl]
    simp
  rw [run_bytesToString w' _ _ _ _ hl', fold_bytes]
  have e : ((List.range n).map q).map (fun n => UInt8.ofNat n.toNat) = (List.range n).map fun i => byteOf (f i) := by
    rw [List.map_map]
    apply List.map_congr_left
    intro i hi
    simp [hq i (by simpa using hi), byteOf]
  rw [e]
  have e2 : ByteArray.empty.data = #[] := rfl
  rw [e2]
  simp

theorem convP_sound (hT : TabOk P T) (hR : Rel P g nx s w) {src dst : Nat} {u : AV} {p : Value} (hu : VRel g nx w u p) (h : (convP (real tri weak) T src dst u s).sat K) :
    ∃ r z, K r ∧ VRel g nx w r z ∧ Yv P w (convert src dst p) z := by
  unfold convP at h
  split at h
  · rename_i k q n hk
    split at h
    · rename_i ti hl
      obtain ⟨d, hd⟩ := known_under hT hl
      rw [vv hu]
      exact ⟨_, _, h, vint _ _, fun w' _ => by simp [convert, run_underlying hd, run_underlying (kind_int hT hk), Conv.intToInt, real]⟩
    · exact h.elim
  · rename_i b hk
    split at h
    · rename_i ti hl
      obtain ⟨d, hd⟩ := known_under hT hl
      rw [vv hu]
      refine ⟨_, _, h, vstr _, fun w' _ => ?_⟩
      cases d <;> simp [convert, run_underlying hd, run_underlying (kind_string hT hk)]
    · exact h.elim
  · rename_i q n hk
    split at h
    · rename_i ti hl
      obtain ⟨d, hd⟩ := known_under hT hl
      rw [vv hu]
      refine ⟨_, _, h, vstr _, fun w' _ => ?_⟩
      cases d <;> simp [convert, run_underlying hd, run_underlying (kind_string hT hk), Conv.intToString, real]
    · exact h.elim
  · rename_i n m f hk
    split at h
    · rename_i hbt
      obtain ⟨v, hv1, hv2⟩ := bytes_under hT hbt
      obtain ⟨hib, hK⟩ := h
      have hib : ∀ i, i < n → ∃ b, f i = [.v (.int .u8 b)] := hib
      refine ⟨_, _, hK, vstr _, fun w' hw => ?_⟩
      rcases vsl hu with ⟨rfl, rfl, rfl⟩ | ⟨b, o, cap, vals, rfl, hcap, hmax, hlen, hc, hf, hr⟩
      · rw [run_convert_bytes_string w' src dst v _ _ _ hv1 hv2 (kind_string hT hk)]
        simp [Conv.bytesToString, real]
        rfl
      · refine bytes_str hv1 hv2 (kind_string hT hk) hib (fun i q hi hq => ?_)
        have h1 := hc i 0 _ (by omega) (by rw [hq]; rfl)
        have h2 := hr i 0 _ (by omega) (by rw [hq]; rfl)
        have h3 : vals i 0 = .int .u8 q := cv (g := g) (nx := nx) (.d _ _ h2)
        rw [Nat.mul_one, Nat.add_zero, h3] at h1
        exact same_cell hw h1
    · exact h.elim
  · rename_i id off n hk
    split at h
    · rename_i u0 m f hbt hl
      obtain ⟨v, hv1, hv2⟩ := bytes_under hT hbt
      obtain ⟨⟨_, _, hle⟩, hib, hK⟩ := h
      have hle : ((off + n : Nat) : Int) ≤ ((m : Nat) : Int) := hle
      have hib : ∀ i, i < n → ∃ b, f (i + off) = [.v (.int .u8 b)] := hib
      refine ⟨_, _, hK, vstr _, fun w' hw => ?_⟩
      obtain ⟨hid, ⟨rfl, e1, e2, hn⟩ | ⟨cap, rfl, hn, hkk, hle2⟩⟩ := vref hu
      · subst e2
        rw [run_convert_bytes_string w' src dst v _ _ _ hv1 hv2 (kind_string hT hk)]
        simp [Conv.bytesToString, real]
        rfl
      · cases hR.obj id _ hl with
        | arrnil _ _ _ hn' => rw [hn'] at hn; cases hn
        | arr _ _ _ _ ys hn' hb hk' hm hsz hlen hcr h1 =>
          refine bytes_str (f := fun i => f (i + off)) hv1 hv2 (kind_string hT hk) hib (fun i q hi hq => same_cell hw ?_)
          rw [cell_of_row w _ _ _ _ _ hb]
          have hlt : i + off < ys.length := by rw [hsz]; omega
          have h2 := hcr (i + off) 0 _ (ys[i + off]) (by omega) (by rw [hq]; rfl) (by rw [Nat.mul_one, Nat.add_zero]; exact List.getElem?_eq_getElem hlt)
          have h3 := cv h2
          rw [Nat.mul_one, Nat.add_comm off i]
          simp [hlt, h3]
    · exact h.elim
  · exact h.elim

theorem kind_array (hT : TabOk P T) {t n u : Nat} (h : kindOf T t = .array n u) : P.underlying t = some (.array n u) := by
  obtain ⟨ti, hl, htd⟩ := kindOf_some h (by simp)
  have := (hT t ti hl).td
  rw [htd] at this
  exact this
theorem kind_map (hT : TabOk P T) {t n u : Nat} (h : kindOf T t = .map n u) : P.underlying t = some (.map n u) := by
  obtain ⟨ti, hl, htd⟩ := kindOf_some h (by simp)
  have := (hT t ti hl).td
  rw [htd] at this
  exact this

theorem lenP_sound (hT : TabOk P T) {t ty : Nat} {u : AV} {p : Value} (hu : VRel g nx w u p) (h : (lenP (real tri weak) T t u).sat K) :
    ∃ r z, K r ∧ VRel g nx w r z ∧ ∀ w', (Builtin.len_ #[t] ty #[p]).run P w' = .ok z w' := by
  unfold lenP at h
  split at h
  · rename_i u' sz n m f hk
    rcases vsl hu with ⟨rfl, rfl, _⟩ | ⟨b, o, cap, vals, rfl, _⟩
    all_goals exact ⟨_, _, h, vint _ _, fun w' => by simp [Builtin.len_, run_underlying (kind_slice hT hk), goInt]⟩
  · rename_i hk
    rw [vv hu]
    exact ⟨_, _, h, vint _ _, fun w' => by simp [Builtin.len_, run_underlying (kind_slice hT hk), goInt]⟩
  · rename_i hk
    obtain ⟨A, rfl⟩ := vz hu
    exact ⟨_, _, h, vint _ _, fun w' => by simp [Builtin.len_, run_underlying (kind_slice hT hk), goInt]⟩
  · rename_i u' id sz off n hk
    obtain ⟨hid, ⟨rfl, _, rfl, _⟩ | ⟨cap, rfl, _⟩⟩ := vref hu
    all_goals exact ⟨_, _, h, vint _ _, fun w' => by simp [Builtin.len_, run_underlying (kind_slice hT hk), goInt]⟩
  · rename_i b hk
    rw [vv hu]
    exact ⟨_, _, h, vint _ _, fun w' => by simp [Builtin.len_, run_underlying (kind_string hT hk), goInt, real]⟩
  · rename_i n u' xs hk
    obtain ⟨ys, rfl, _⟩ := vagg hu
    exact ⟨_, _, h, vint _ _, fun w' => by simp [Builtin.len_, run_underlying (kind_array hT hk), goInt]⟩
  · exact h.elim

theorem minP_sound {mn : Bool} {ts : Array TypeId} {ty : Nat} {u v : AV} {p q : Value} (hu : VRel g nx w u p) (hv : VRel g nx w v q) (h : (minP (real tri weak) mn u v).sat K) :
    ∃ r z, K r ∧ VRel g nx w r z ∧ ∀ w', (if mn then Builtin.min_ ts ty #[p, q] else Builtin.max_ ts ty #[p, q]).run P w' = .ok z w' := by
  unfold minP at h
  split at h
  · rename_i k m j n
    rw [vv hu, vv hv]
    simp only [PO.sat] at h
    cases mn with
    | true =>
      by_cases hlt : n < m
      · refine ⟨_, _, h.1 (by simp [real, hlt]), vint _ _, fun w' => ?_⟩
        simp [run_min_int2, hlt]
      · refine ⟨_, _, h.2 (by simp [real, hlt]), vint _ _, fun w' => ?_⟩
        simp [run_min_int2, hlt]
    | false =>
      by_cases hlt : n > m
      · refine ⟨_, _, h.1 (by simp [real, hlt]), vint _ _, fun w' => ?_⟩
        have : m < n := hlt
        simp [run_max_int2, this]
      · refine ⟨_, _, h.2 (by simp [real, hlt]), vint _ _, fun w' => ?_⟩
        have : ¬ m < n := hlt
        simp [run_max_int2, this]
  · exact h.elim

/-! ### maps -/
theorem findNow_run {q : IntKind} {n : Int} : ∀ (es : List MapEntry) (i : Nat), (∀ e ∈ es, ∃ m, e.key = .int q m) →
    (∃ j e, Instr.findNow (.int q) (.int q n) es i = some (some (i + j, e.val)) ∧ es[j]? = some e ∧ e.key = .int q n) ∨
    (Instr.findNow (.int q) (.int q n) es i = some none ∧ ∀ e ∈ es, e.key ≠ .int q n) := by
  intro es
  induction es with
  | nil => intro i _; exact .inr ⟨rfl, by simp⟩
  | cons e r ih =>
    intro i h
    obtain ⟨m, hm⟩ := h e (by simp)
    by_cases hn : n = m
    · subst hn
      refine .inl ⟨0, e, ?_, rfl, hm⟩
      simp [Instr.findNow, hm, Instr.sameNow]
    · have hs : Instr.sameNow (.int q) (.int q n) e.key = some false := by simp [hm, Instr.sameNow, hn]
      rcases ih (i + 1) (fun e' he' => h e' (by simp [he'])) with ⟨j, e', h1, h2, h3⟩ | ⟨h1, h2⟩
      · refine .inl ⟨j + 1, e', ?_, by simpa using h2, h3⟩
        simp only [Instr.findNow, hs]
        rw [h1]
        congr 2
        simp; omega
      · refine .inr ⟨by simp [Instr.findNow, hs, h1], fun e' he' => ?_⟩
        rcases List.mem_cons.1 he' with rfl | he'
        · rw [hm]; simp; omega
        · exact h2 e' he'

theorem findKey_run {k : Nat} {q : IntKind} (hk : P.underlying k = some (.int q)) {n : Int} {es : List MapEntry} {r : Option (Nat × Value)} (h : Instr.findNow (.int q) (.int q n) es 0 = some r) (w' : World) :
    (Instr.findKey k (.int q n) es).run P w' = .ok r w' := by
  simp [Instr.findKey, run_underlying hk, h]
theorem checkKey_run {k : Nat} {q : IntKind} (hk : P.underlying k = some (.int q)) {b : Bool} {n : Int} (d : Nat) (w' : World) : (Instr.checkKey b (d + 1) k (.int q n)).run P w' = .ok () w' := by
  simp [Instr.checkKey, run_underlying hk]

theorem run_getObj_other {r : Nat} {es : Array MapEntry} {c : Nat} {w' : World} (h : w'.heap[r]? = some (.map es c)) : (getObj r).run P w' = .ok (.map es c) w' := by
  simp [getObj, Sem.run, h]

theorem vlB_val {ag : Bool} {cs : List CV} {ys : List Value} {v : AV} (h : mval ag cs = some v) (hp : Pw (DRel g.fz w) cs ys) : VRel g nx w v (vlB ag ys) := by
  unfold mval at h
  split at h
  · injection h with h
    subst h
    exact .agg _ _ (hp.imp fun _ _ h => .d _ _ h)
  · injection h with h
    subst h
    match ys, hp.len with
    | [y], _ => exact .c _ _ (.d _ _ (hp.at_ 0 _ y rfl rfl))
  · cases h

theorem lookup_sound (hT : TabOk P T) (hR : Rel P g nx s w) (hE : EnvRel g nx w e a.tmps) {t : Nat} {x i : Operand} {ok : Bool} (h : (pop (real tri weak) T (.lookup t x i ok) e s).sat K) :
    ∃ v y, K v ∧ VRel g nx w v y ∧ Yv P w (Instr.lookup t (a.eval x) (a.eval i) ok) y := by
  simp only [pop] at h
  split at h
  case h_2 => exact h.elim
  rename_i id q n kt u hx hi hk
  cases hl : look id s with
  | none => simp [hl, PO.sat] at h
  | some o =>
    cases o with
    | map kt2 u2 ag dom val =>
      simp only [hl] at h
      split at h
      case h_2 => exact h.elim
      rename_i q2 hkt
      split at h
      case isFalse => exact h.elim
      rename_i hc
      obtain ⟨rfl, rfl, rfl⟩ := hc
      cases hm : mval ag (val n) with
      | none => simp [hm, PO.sat] at h
      | some v =>
        simp only [hm, PO.sat] at h
        obtain ⟨hy, hid⟩ := vmp (ev_rel hE hx)
        have hi := vv (ev_rel hE hi)
        have hu := kind_map hT hk
        have hq := kind_int hT hkt
        cases hR.obj id _ hl with
        | map _ _ _ _ _ es clock hb hM =>
          have hlt : g.β id < w.heap.size := (Array.getElem?_eq_some_iff.1 hb).1
          obtain ⟨q3, hq3, hkeys⟩ := hM.keys
          have e3 : q3 = q := by rw [hq] at hq3; simpa using hq3.symm
          subst e3
          obtain ⟨inf, zs, hz1, hz2, hz3⟩ := hM.zero
          have fin : ∀ y, VRel g nx w v y → VRel g nx w (okV ok v (dom n)) (if ok then .tuple #[y, .bool (dom n)] else y) := by
            intro y hy
            cases ok
            · exact hy
            · refine .tup _ [y, .bool (dom n)] rfl (fun j c z hc hz => ?_)
              match j with
              | 0 => simp at hc hz; subst hc; subst hz; exact hy
              | 1 => simp at hc hz; subst hc; subst hz; exact vbool _
              | j + 2 => simp at hc
          rcases findNow_run (n := n) es.toList 0 hkeys with ⟨j, en, h1, h2, h3⟩ | ⟨h1, h2⟩
          · obtain ⟨hd, ys, hv1, hv2⟩ := hM.here en (List.mem_of_getElem? h2) q3 n h3
            refine ⟨_, _, h, fin _ (vlB_val hm hv2), fun w' hw => ?_⟩
            have hb' : w'.heap[g.β id]? = some (.map es clock) := (hw _ hlt).trans hb
            rw [hy, hi]
            simp only [Instr.lookup, Sem.run_bind, run_underlying hu, Result.andThen_ok, run_getObj_other hb', checkKey_run hq 9999, findKey_run hq h1, Sem.run_pure, hv1, hd]
          · have hd : dom n = false := by
              cases hdn : dom n with
              | false => rfl
              | true =>
                obtain ⟨en, he1, q4, he2⟩ := hM.shut n hdn
                obtain ⟨m, hm'⟩ := hkeys en he1
                rw [he2] at hm'
                injection hm' with e1 e2
                subst e1
                exact absurd he2 (h2 en he1)
            refine ⟨_, _, h, fin _ (vlB_val hm (hz3 n hd)), fun w' hw => ?_⟩
            have hb' : w'.heap[g.β id]? = some (.map es clock) := (hw _ hlt).trans hb
            have hzr : (zeroValue u).run P w' = .ok (vlB ag zs) w' := by simp [zeroValue, typeInfo, hz1, hz2]
            rw [hy, hi]
            simp only [Instr.lookup, Sem.run_bind, run_underlying hu, Result.andThen_ok, run_getObj_other hb', checkKey_run hq 9999, findKey_run hq h1, Sem.run_pure, hzr, hd]
    | box => simp [hl, PO.sat] at h
    | arr => simp [hl, PO.sat] at h
    | sit => simp [hl, PO.sat] at h
end
end Am
