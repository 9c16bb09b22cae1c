/-
  The rest of the operations that leave the store alone; then all of them in one.
-/
import Derived.Test.YtijphjckgdomlaaAm10
import Derived.Laws.Tables
set_option linter.all false
namespace Am
open Go

section
variable {P : Program} {T : Tab} {g : Gh} {nx : Nat} {w : World} {s : Sto} {e : Env} {a : Act}
variable {tri : FuncId → List AV → Sto → Nat → (AV → Sto → Nat → Prop) → Prop} {weak : St → St → Prop} {K : AV → Prop}

theorem bytes_get (s : ByteArray) (i : Nat) : s[i]? = s.data.toList[i]? := by
  by_cases h : i < s.size
  · have h2 : i < s.data.size := h
    rw [getElem?_pos s i h]
    simp [ByteArray.getElem_eq_getElem_data]
  · rw [getElem?_neg s i h]
    have h2 : ¬ i < s.data.size := h
    simp; omega

theorem index_sound (hT : TabOk P T) (hE : EnvRel g nx w e a.tmps) {t : Nat} {x i : Operand} (h : (pop (real tri weak) T (.index t x i) e s).sat K) :
    ∃ v y, K v ∧ VRel g nx w v y ∧ Yv P w (Instr.index t (a.eval x) (a.eval i)) y := by
  simp only [pop] at h
  split at h
  · rename_i b q k hx hi
    have hx := vv (ev_rel hE hx)
    have hi := vv (ev_rel hE hi)
    split at h
    case h_2 => exact h.elim
    rename_i hk
    obtain ⟨⟨h0, h1⟩, hK⟩ := h
    have h1 : k < (b.size : Int) := h1
    refine ⟨_, _, hK, vint _ _, fun w' _ => ?_⟩
    have hlt : k.toNat < b.size := by omega
    have hlt2 : k.toNat < b.data.size := hlt
    have e1 : b[k.toNat]? = some b[k.toNat] := getElem?_pos b _ hlt
    rw [hx, hi]
    have e2 : b.data[k.toNat]? = some b.data[k.toNat] := by simp
    simp [Instr.index, asIntOf, run_underlying (kind_string hT hk), h0, e1, real, e2, ByteArray.getElem_eq_getElem_data, -Array.getElem?_eq_getElem]
  · rename_i cs q k hx hi
    have hi := vv (ev_rel hE hi)
    obtain ⟨ys, hy, hp⟩ := vagg (ev_rel hE hx)
    split at h
    case h_2 => exact h.elim
    rename_i n u hk
    split at h
    case h_2 => exact h.elim
    rename_i ti hl
    obtain ⟨⟨_, h1⟩, hK⟩ := h
    have h1 : Int.ofNat k < (n : Int) := h1
    have h1 : k < n := Int.ofNat_lt.mp h1
    obtain ⟨v, hv, hK⟩ := sat_some hK
    obtain ⟨z, hz1, hz2⟩ := part_rel hT hv hp
    refine ⟨v, z, hK, hz2, fun w' _ => ?_⟩
    rw [hy, hi]
    simp [Instr.index, asIntOf, run_underlying (kind_array hT hk), h1, (hT u ti hl).size, hz1]
  · exact h.elim

theorem under_noif (hT : TabOk P T) {t : Nat} {ti : TI} (h : look t T = some ti) (hf : isIf ti.td = false) : ∃ d, P.underlying t = some d ∧ ∀ ms, d ≠ .interface ms := by
  have h1 := (hT t ti h).td
  have h2 := (hT t ti h).known
  revert h1 h2 hf
  cases ti.td with
  | struct fs cm => exact fun _ h1 _ => let ⟨a, ha, _⟩ := h1; ⟨_, ha, by simp⟩
  | iface em => exact fun hf => by cases hf
  | func => exact fun _ h1 _ => let ⟨a, b, c, ha⟩ := h1; ⟨_, ha, by simp⟩
  | other => exact fun _ _ h2 => absurd rfl h2
  | _ => exact fun _ h1 _ => ⟨_, h1, by simp⟩

theorem noId_d {c : CV} {y : Value} (h : noId c = true) (hr : CRel g nx w c y) : DRel g.fz w c y := by
  induction hr with
  | d _ _ hd => exact hd
  | if1 t c y _ ih => exact .if1 t c y (ih h)
  | _ => cases h
theorem noIds_d : ∀ {cs : List CV} {ys : List Value}, noIds cs = true → Pw (CRel g nx w) cs ys → Pw (DRel g.fz w) cs ys := by
  intro cs
  induction cs with
  | nil => exact fun _ h => ⟨h.len, fun i c y hc => by simp at hc⟩
  | cons c r ih =>
    intro ys h hp
    simp only [noIds] at h
    split at h
    · rename_i hc
      obtain ⟨y, zs, rfl⟩ : ∃ y zs, ys = y :: zs := by
        cases ys with
        | nil => exact absurd hp.len (by simp)
        | cons y zs => exact ⟨y, zs, rfl⟩
      have := ih (ys := zs) h ⟨by simpa using hp.len, fun i c y h1 h2 => hp.at_ (i + 1) c y (by simpa using h1) (by simpa using h2)⟩
      refine ⟨hp.len, fun i c' y' h1 h2 => ?_⟩
      cases i with
      | zero => simp at h1 h2; subst h1; subst h2; exact noId_d hc (hp.at_ 0 _ _ rfl rfl)
      | succ i => exact this.at_ i c' y' (by simpa using h1) (by simpa using h2)
    · cases h

theorem makeIf_sound (hT : TabOk P T) (hE : EnvRel g nx w e a.tmps) {t : Nat} {x : Operand} (h : (pop (real tri weak) T (.makeInterface t x) e s).sat K) :
    ∃ v y, K v ∧ VRel g nx w v y ∧ Yv P w (Instr.makeInterface t (a.eval x)) y := by
  simp only [pop] at h
  split at h
  case h_2 => exact h.elim
  rename_i ti hl
  have run : isIf ti.td = false → ∀ w', (Instr.makeInterface t (a.eval x)).run P w' = .ok (.iface t (a.eval x)) w' := by
    intro hf w'
    obtain ⟨d, hd, hne⟩ := under_noif hT hl hf
    cases d <;> first | exact absurd rfl (hne _) | simp [Instr.makeInterface, run_underlying hd]
  split at h
  · rename_i p hf hx
    cases ev_rel hE hx with
    | c _ _ hr => exact ⟨_, _, h, .c _ _ (.if1 t _ _ hr), fun w' _ => run hf w'⟩
  · rename_i cs hf hx
    split at h
    case h_2 => exact h.elim
    rename_i hid
    obtain ⟨ys, hy, hp⟩ := vagg (ev_rel hE hx)
    have hp := noIds_d hid hp
    refine ⟨_, _, h, .c _ _ (.d _ _ (.ifa t cs ys hp.len hp.at_)), fun w' _ => ?_⟩
    rw [run hf w', hy]
  · exact h.elim

theorem evs_rel (hE : EnvRel g nx w e a.tmps) : ∀ {l : List Operand} {vs : List AV}, evs e l = some vs → vs.length = l.length ∧ ∀ (i : Nat) (v : AV) (x : Operand), vs[i]? = some v → l[i]? = some x → VRel g nx w v (a.eval x) := by
  intro l
  induction l with
  | nil => intro vs h; simp [evs] at h; subst h; exact ⟨rfl, fun i v x h => by simp at h⟩
  | cons x r ih =>
    intro vs h
    simp only [evs] at h
    cases hx : ev e x with
    | none => simp [hx] at h
    | some v =>
      cases hr : evs e r with
      | none => simp [hx, hr] at h
      | some l =>
        simp [hx, hr] at h
        subst h
        obtain ⟨h1, h2⟩ := ih hr
        refine ⟨by simp [h1], fun i v' x' hv hx' => ?_⟩
        cases i with
        | zero => simp at hv hx'; subst hv; subst hx'; exact ev_rel hE hx
        | succ i => exact h2 i v' x' (by simpa using hv) (by simpa using hx')

theorem cellsAll_eq : ∀ {vs : List AV} {cs : List CV}, pop.cellsAll vs = some cs → vs = cs.map .c := by
  intro vs
  induction vs with
  | nil => intro cs h; simp [pop.cellsAll] at h; subst h; rfl
  | cons v r ih =>
    intro cs h
    cases v with
    | c x =>
      simp only [pop.cellsAll] at h
      cases hr : pop.cellsAll r with
      | none => simp [hr] at h
      | some l => simp [hr] at h; subst h; simp [ih hr]
    | _ => simp [pop.cellsAll] at h

theorem makeFunc_sound (hE : EnvRel g nx w e a.tmps) {f : Fn} {first cap : Array Operand} (h : (pop (real tri weak) T (.makeFunc f first cap) e s).sat K) :
    ∃ v y, K v ∧ VRel g nx w v y ∧ Yv P w (Instr.makeFunc f (first.map a.eval) (cap.map a.eval)) y := by
  cases f with
  | method n => exact h.elim
  | methodOf _ _ => exact h.elim
  | via _ _ => exact h.elim
  | yield _ => exact h.elim
  | func f =>
    simp only [pop] at h
    split at h
    case h_2 => exact h.elim
    rename_i l hf hl
    cases hc : pop.cellsAll l with
    | none => simp [hc, PO.sat] at h
    | some cs =>
      simp only [hc, PO.sat] at h
      have := cellsAll_eq hc
      subst this
      obtain ⟨h1, h2⟩ := evs_rel hE hl
      have hf' : first = #[] := by simpa using hf
      refine ⟨_, _, h, .c _ _ (.clo f cs (cap.toList.map a.eval) (by simpa using h1) (fun i c y hc hy => ?_)), fun w' _ => ?_⟩
      · rw [List.getElem?_map] at hy
        cases hx : cap.toList[i]? with
        | none => simp [hx] at hy
        | some x =>
          simp only [hx, Option.map_some] at hy
          injection hy with hy
          subst hy
          cases h2 i (.c c) x (by simp [hc]) hx with | c _ _ h => exact h
      · subst hf'
        simp [Instr.makeFunc, ← Array.toList_map]

theorem nilCheck_sound (hE : EnvRel g nx w e a.tmps) {o : Oper} {x : Operand} (ho : o.op = .nilCheck x) (h : (pop (real tri weak) T (.nilCheck x) e s).sat K) :
    ∃ v y, K v ∧ VRel g nx w v y ∧ Yields P w (execOp a.eval o) y := by
  simp only [pop] at h
  split at h
  case h_2 => exact h.elim
  rename_i p hx
  split at h
  case h_2 => exact h.elim
  rename_i hn
  have hr := ev_rel hE hx
  refine ⟨_, _, h, hr, fun w' _ => ?_⟩
  unfold execOp
  simp only [ho]
  revert hr
  generalize a.eval x = y
  intro hr
  cases hr with | c _ _ hr =>
  cases hr with
  | d _ _ hd => cases hd <;> first | (simp [notNil] at hn; done) | simp
  | clo f caps ys hl hh => simp [Sem.run_pure]
  | _ => first | (simp [notNil] at hn; done) | simp

theorem extract_sound (hE : EnvRel g nx w e a.tmps) {x : Operand} {i : Nat} (h : (pop (real tri weak) T (.extract x i) e s).sat K) :
    ∃ v y, K v ∧ VRel g nx w v y ∧ Yv P w (Instr.extract (a.eval x) i) y := by
  simp only [pop] at h
  split at h
  case h_2 => exact h.elim
  rename_i vs hx
  obtain ⟨v, hv, hK⟩ := sat_some h
  obtain ⟨ys, hy, hl, hh⟩ := vtup (ev_rel hE hx)
  rw [nth_eq] at hv
  have hlt : i < ys.length := by rw [← hl]; exact (List.getElem?_eq_some_iff.1 hv).1
  refine ⟨v, ys[i], hK, hh i v _ hv (List.getElem?_eq_getElem hlt), fun w' _ => ?_⟩
  rw [hy]
  simp [Instr.extract, hlt]

/-! ### struct literals -/
theorem fold_set : ∀ (vs : List Value) (k off : Nat) (cells : Array Value),
    ((vs.zipIdx k).foldl (fun cs (x : Value × Nat) => cs.setIfInBounds (off + x.2) x.1) cells).size = cells.size ∧
    ∀ j, off + k + vs.length ≤ cells.size → ((vs.zipIdx k).foldl (fun cs (x : Value × Nat) => cs.setIfInBounds (off + x.2) x.1) cells)[j]? =
      if off + k ≤ j ∧ j < off + k + vs.length then vs[j - (off + k)]? else cells[j]? := by
  intro vs
  induction vs with
  | nil => intro k off cells; exact ⟨rfl, fun j _ => by simp; intro h1 h2; omega⟩
  | cons v r ih =>
    intro k off cells
    simp only [List.zipIdx_cons, List.foldl_cons]
    obtain ⟨h1, h2⟩ := ih (k + 1) off (cells.setIfInBounds (off + k) v)
    refine ⟨by rw [h1]; simp, fun j hj => ?_⟩
    simp only [List.length_cons] at hj ⊢
    rw [h2 j (by simp; omega)]
    by_cases hjk : j = off + k
    · subst hjk
      rw [if_neg (by omega), if_pos (by omega)]
      rw [Nat.sub_self]
      simp only [Array.getElem?_setIfInBounds_self, List.getElem?_cons_zero]
      rw [if_pos (by omega)]
    · by_cases h3 : off + (k + 1) ≤ j ∧ j < off + (k + 1) + r.length
      · rw [if_pos h3, if_pos (by omega), show j - (off + k) = (j - (off + (k + 1))) + 1 by omega]
        simp
      · rw [if_neg h3, if_neg (by omega), Array.getElem?_setIfInBounds_ne (by omega)]

theorem Pw.setAll {R : CV → Value → Prop} {xs cs : List CV} {vs ys : List Value} (h : Pw R xs ys) (hc : Pw R cs vs) {off : Nat} (hl : off + cs.length ≤ xs.length) {zs : List Value} (hz : zs.length = ys.length)
    (hg : ∀ j : Nat, zs[j]? = if off ≤ j ∧ j < off + vs.length then vs[j - off]? else ys[j]?) : Pw R (Am.setAll xs off cs) zs := by
  refine ⟨by rw [setAll_length, hz]; exact h.len, fun i c y h1 h2 => ?_⟩
  rw [setAll_get cs xs off i hl] at h1
  rw [hg, ← hc.len] at h2
  split at h1
  · rename_i hi
    rw [if_pos hi] at h2
    exact hc.at_ _ c y h1 h2
  · rename_i hi
    rw [if_neg hi] at h2
    exact h.at_ _ c y h1 h2

theorem fill_sound (hE : EnvRel g nx w e a.tmps) {fs : List (Nat × Nat)} {place : Nat → Option (Nat × Nat)}
    (hpl : ∀ i off u ti, nth fs i = some (off, u) → look u T = some ti → place i = some (off, ti.size)) :
    ∀ (ps : List (Nat × Operand)) (z cs : List CV) (cells : Array Value), pop.bld T e fs z ps = some cs → Pw (CRel g nx w) z cells.toList →
      ∃ r, Instr.fill place cells (ps.map fun p => (p.1, a.eval p.2)) = some r ∧ Pw (CRel g nx w) cs r.toList := by
  intro ps
  induction ps with
  | nil => intro z cs cells h hp; simp [pop.bld] at h; subst h; exact ⟨cells, rfl, hp⟩
  | cons p r ih =>
    obtain ⟨i, x⟩ := p
    intro z cs cells h hp
    simp only [pop.bld] at h
    split at h
    case h_2 => cases h
    rename_i off u v hn hx
    split at h
    case h_2 => cases h
    rename_i xs ti hxs hl
    split at h
    case isFalse => cases h
    rename_i hc
    have hv := vcells (ev_rel hE hx) hxs
    have hzl : z.length = cells.size := by simpa using hp.len
    have hvl : xs.length = (a.eval x).cells.size := by simpa using hv.len
    obtain ⟨f1, f2⟩ := fold_set (a.eval x).cells.toList 0 off cells
    have hpw := Pw.setAll hp hv (off := off) hc.2 (zs := ((a.eval x).cells.toList.zipIdx.foldl (fun cs (x : Value × Nat) => cs.setIfInBounds (off + x.2) x.1) cells).toList)
      (by simpa using f1) (fun j => by
        have := f2 j (by have := hc.2; simp; omega)
        simp only [Nat.add_zero] at this
        rw [Array.getElem?_toList, this]
        simp)
    obtain ⟨rr, h1, h2⟩ := ih _ _ _ h hpw
    refine ⟨rr, ?_, h2⟩
    simp only [List.map_cons, Instr.fill, hpl i off u ti hn hl]
    rw [if_neg (by have h3 := hc.1; have h4 := hc.2; simp; omega)]
    rw [← Array.foldl_toList, Array.toList_zipIdx]
    exact h1


theorem allIn_mem : ∀ {fs : List (Nat × Nat)}, pop.allIn T fs = true → ∀ p ∈ fs, ∃ ti, look p.2 T = some ti := by
  intro fs
  induction fs with
  | nil => intro _ p hp; simp at hp
  | cons q r ih =>
    obtain ⟨off, u⟩ := q
    intro h p hp
    simp only [pop.allIn] at h
    split at h
    · rename_i ti hl
      rcases List.mem_cons.1 hp with rfl | hp
      · exact ⟨ti, hl⟩
      · exact ih h p hp
    · cases h

theorem places_map (hT : TabOk P T) : ∀ (l : List Field), (∀ f ∈ l, ∃ ti, look f.type T = some ti) →
    ∃ pl : List (Nat × Nat), l.mapM (fun f => (P.info? f.type).map fun i => (f.offset, i.size)) = some pl ∧ ∀ (i : Nat) (f : Field) (ti : TI), l[i]? = some f → look f.type T = some ti → pl[i]? = some (f.offset, ti.size) := by
  intro l
  induction l with
  | nil => intro _; exact ⟨[], rfl, fun i f ti h => by simp at h⟩
  | cons f r ih =>
    intro h
    obtain ⟨ti, ht⟩ := h f (by simp)
    obtain ⟨pl, h1, h2⟩ := ih (fun f hf => h f (by simp [hf]))
    obtain ⟨inf, hi, hs, _⟩ := (hT _ _ ht).info
    refine ⟨(f.offset, inf.size) :: pl, by simp [List.mapM_cons, hi, h1], fun i f' ti' hf hl => ?_⟩
    cases i with
    | zero => simp at hf; subst hf; rw [ht] at hl; injection hl with hl; subst hl; simp [hs]
    | succ i => simpa using h2 i f' ti' (by simpa using hf) hl

theorem build_sound (hT : TabOk P T) (hE : EnvRel g nx w e a.tmps) {t : Nat} {ps : Array (Nat × Operand)} (h : (pop (real tri weak) T (.build t ps) e s).sat K) :
    ∃ v y, K v ∧ VRel g nx w v y ∧ Yv P w (Instr.build t (ps.map fun (i, x) => (i, a.eval x))) y := by
  simp only [pop] at h
  split at h
  case h_2 => exact h.elim
  rename_i ti hl
  split at h
  case h_2 => exact h.elim
  rename_i fs cm z htd hz
  split at h
  case h_2 => exact h.elim
  rename_i cs hin hb
  obtain ⟨fa, hu, hfs, _⟩ := TDok.struct (hT t ti hl) htd
  obtain ⟨pl, hp1, hp2⟩ := places_map hT fa.toList (fun f hf => allIn_mem hin (f.offset, f.type) (by rw [← hfs]; exact List.mem_map.2 ⟨f, hf, rfl⟩))
  obtain ⟨inf, hi, _, _, hzi⟩ := (hT t ti hl).info
  obtain ⟨zs, hzs, hzp⟩ := vagg (ofV_rel (g := g) (nx := nx) (w := w) hz)
  obtain ⟨r, hr1, hr2⟩ := fill_sound hE (place := (pl.toArray[·]?)) (fs := fs)
    (fun i off u ti hn hl => by
      obtain ⟨fd, e1, e2, e3⟩ := field_at hfs (by rw [← nth_eq]; exact hn)
      subst e2
      subst e3
      simpa using hp2 i fd ti (by simpa using e1) hl) ps.toList z cs zs.toArray hb (by simpa using hzp)
  have e3 : (Value.agg r) = .agg r.toList.toArray := by simp
  refine ⟨_, .agg r.toList.toArray, h, .agg cs r.toList hr2, fun w' _ => ?_⟩
  rw [run_build w' t _ r]
  rw [Array.toList_map]
  simp only [Program.built, hi, hu, hzi, hp1, hzs, Value.cells]
  exact hr1

theorem vif1 {t : TypeId} {c : CV} {y : Value} (h : VRel g nx w (.c (.if1 t c)) y) : ∃ z, y = .iface t z ∧ CRel g nx w c z := by
  cases h with | c _ _ hr =>
  cases hr with
  | d _ _ hd => cases hd with | if1 _ _ y h => exact ⟨y, rfl, .d _ _ h⟩
  | if1 _ _ y h => exact ⟨y, rfl, h⟩
theorem vifa {t : TypeId} {xs : List CV} {y : Value} (h : VRel g nx w (.c (.ifa t xs)) y) : ∃ z, y = .iface t z ∧ VRel g nx w (.agg xs) z := by
  cases h with | c _ _ hr =>
  cases hr with
  | d _ _ hd => cases hd with | ifa _ _ ys hl h => exact ⟨_, rfl, .agg _ _ ⟨hl, fun i c y h1 h2 => .d _ _ (h i c y h1 h2)⟩⟩

theorem asV_rel {ok : Bool} {v : AV} {y : Value} (h : VRel g nx w v y) : VRel g nx w (asV ok v) (if ok then .tuple #[y, .bool true] else y) := by
  cases ok with
  | false => exact h
  | true =>
    refine .tup _ [y, .bool true] rfl (fun i v y h1 h2 => ?_)
    match i with
    | 0 => simp at h1 h2; subst h1; subst h2; exact h
    | 1 => simp at h1 h2; subst h1; subst h2; exact vlit' true
    | i + 2 => simp at h1
theorem asNo_rel {ok : Bool} {z : Value} (h : (asNo ok (ofV z)).sat K) : ok = true ∧ ∃ v, K v ∧ VRel g nx w v (.tuple #[z, .bool false]) := by
  cases ok with
  | false => exact h.elim
  | true =>
    cases hz : ofV z with
    | none => rw [hz] at h; exact h.elim
    | some u =>
      rw [hz] at h
      refine ⟨rfl, _, h, .tup _ [z, .bool false] rfl (fun i v y h1 h2 => ?_)⟩
      match i with
      | 0 => simp at h1 h2; subst h1; subst h2; exact ofV_rel hz
      | 1 => simp at h1 h2; subst h1; subst h2; exact vlit' false
      | i + 2 => simp at h1

theorem assert_sound (hT : TabOk P T) (hE : EnvRel g nx w e a.tmps) {t ty : Nat} {x : Operand} {ok : Bool} (h : (pop (real tri weak) T (.typeAssert x t ty ok) e s).sat K) :
    ∃ v y, K v ∧ VRel g nx w v y ∧ Yv P w (Instr.typeAssert (a.eval x) t ty ok) y := by
  simp only [pop] at h
  have no : ∀ {ti : TI} {q : Nat} {z : Value}, look ty T = some ti → isIf ti.td = false → Nat.beq q ty = false → a.eval x = .iface q z → (asNo ok (ofV ti.zero)).sat K → ∃ v y, K v ∧ VRel g nx w v y ∧ Yv P w (Instr.typeAssert (a.eval x) t ty ok) y := by
    intro ti q z hl hf hq hx h
    obtain ⟨rfl, v, hv1, hv2⟩ := asNo_rel h
    obtain ⟨d, hd, hne⟩ := under_noif hT hl hf
    have hqa := nef hq
    refine ⟨v, _, hv1, hv2, fun w' _ => ?_⟩
    rw [hx]
    cases d <;> first | exact absurd rfl (hne _) | simp [Instr.typeAssert, run_underlying hd, hqa, (hT ty ti hl).zero]
  have yes : ∀ {ti : TI} {q : Nat} {z : Value} {v : AV}, look ty T = some ti → isIf ti.td = false → Nat.beq q ty = true → a.eval x = .iface q z → VRel g nx w v z → K (asV ok v) → ∃ v y, K v ∧ VRel g nx w v y ∧ Yv P w (Instr.typeAssert (a.eval x) t ty ok) y := by
    intro ti q z v hl hf hq hx hv h
    obtain ⟨d, hd, hne⟩ := under_noif hT hl hf
    have hqa := eqt hq
    refine ⟨_, _, h, asV_rel hv, fun w' _ => ?_⟩
    rw [hx]
    cases d <;> first | exact absurd rfl (hne _) | (cases ok <;> simp [Instr.typeAssert, run_underlying hd, hqa])
  split at h
  · rename_i ti q c hl hx
    obtain ⟨z, hz, hc⟩ := vif1 (ev_rel hE hx)
    split at h
    · rename_i h1 h2; exact yes hl h1 h2 hz (.c _ _ hc) h
    · rename_i h1 h2; exact no hl h1 h2 hz h
    · exact h.elim
  · rename_i ti q xs hl hx
    obtain ⟨z, hz, hc⟩ := vifa (ev_rel hE hx)
    split at h
    · rename_i h1 h2; exact yes hl h1 h2 hz hc h
    · rename_i h1 h2; exact no hl h1 h2 hz h
    · exact h.elim
  · rename_i ti hl hx
    have hz := vv (ev_rel hE hx)
    split at h
    · rename_i h1
      obtain ⟨rfl, v, hv1, hv2⟩ := asNo_rel h
      obtain ⟨d, hd, hne⟩ := under_noif hT hl h1
      refine ⟨v, _, hv1, hv2, fun w' _ => ?_⟩
      rw [hz]
      cases d <;> first | exact absurd rfl (hne _) | simp [Instr.typeAssert, run_underlying hd, (hT ty ti hl).zero]
    · exact h.elim
  · exact h.elim

/-! ### all in one -/
theorem br_sat {b : Bool} {x y : PO} (h : (PO.br b x y).sat K) : (if b then x else y).sat K := by cases b; exact h.2 rfl; exact h.1 rfl

/-- THE OPERATIONS THAT LEAVE THE STORE ALONE. -/
theorem pop_sound (hT : TabOk P T) (hR : Rel P g nx s w) (hE : EnvRel g nx w e a.tmps) (o : Oper) (h : (pop (real tri weak) T o.op e s).sat K) :
    ∃ v y, K v ∧ VRel g nx w v y ∧ Yields P w (execOp a.eval o) y := by
  have fin : ∀ {S : Sem Value}, (execOp a.eval o = (do pure (.value (← S)))) → (∃ v y, K v ∧ VRel g nx w v y ∧ Yv P w S y) → ∃ v y, K v ∧ VRel g nx w v y ∧ Yields P w (execOp a.eval o) y := by
    intro S he ⟨v, y, h1, h2, h3⟩
    exact ⟨v, y, h1, h2, by rw [he]; exact h3.op⟩
  have all : ∀ {S : Sem Value} {v y}, (∀ w', S.run P w' = .ok y w') → K v → VRel g nx w v y → (execOp a.eval o = (do pure (.value (← S)))) → ∃ v y, K v ∧ VRel g nx w v y ∧ Yields P w (execOp a.eval o) y :=
    fun hs hK hv he => fin he ⟨_, _, hK, hv, fun w' _ => hs w'⟩
  have pur : ∀ {x : Operand}, (execOp a.eval o = pure (.value (a.eval x))) → PO.sat K (match ev e x with | some v => .ok v | none => .stuck) → ∃ v y, K v ∧ VRel g nx w v y ∧ Yields P w (execOp a.eval o) y := by
    intro x he h
    obtain ⟨v, hv, hK⟩ := sat_some h
    exact ⟨v, _, hK, ev_rel hE hv, fun w' _ => by rw [he]; rfl⟩
  cases ho : o.op with
  | move x => rw [ho] at h; exact pur (by unfold execOp; simp only [ho]) h
  | assign x => rw [ho] at h; exact pur (by unfold execOp; simp only [ho]) h
  | pick c x y =>
    rw [ho] at h
    simp only [pop] at h
    have he : execOp a.eval o = (do pure (.value (if ← asBool (a.eval c) then a.eval x else a.eval y))) := by unfold execOp; simp only [ho]
    have step : ∀ {q : Bool} {z : Operand}, a.eval c = .bool q → (if q then a.eval x else a.eval y) = a.eval z → PO.sat K (match ev e z with | some v => .ok v | none => .stuck) →
        ∃ v y, K v ∧ VRel g nx w v y ∧ Yields P w (execOp a.eval o) y := by
      intro q z hc hz h
      obtain ⟨v, hv, hK⟩ := sat_some h
      refine ⟨v, _, hK, ev_rel hE hv, fun w' _ => ?_⟩
      rw [he, hc, ← hz]
      simp [asBool]
    split at h
    · rename_i hc; exact step (vlit (ev_rel hE hc)) rfl h
    · rename_i hc; exact step (vlit (ev_rel hE hc)) rfl h
    · rename_i q hc
      have h := br_sat h
      cases q with
      | true => exact step (vv (ev_rel hE hc)) rfl h
      | false => exact step (vv (ev_rel hE hc)) rfl h
    · exact h.elim
  | fieldAddr t x f => rw [ho] at h; exact fin (by unfold execOp; simp only [ho]) (fieldA_sound hT hE h)
  | field t x f => rw [ho] at h; exact fin (by unfold execOp; simp only [ho]) (field_sound hT hE h)
  | indexAddr t x i => rw [ho] at h; exact fin (by unfold execOp; simp only [ho]) (indexA_sound hT hE h)
  | index t x i => rw [ho] at h; exact fin (by unfold execOp; simp only [ho]) (index_sound hT hE h)
  | load t x => rw [ho] at h; exact fin (by unfold execOp; simp only [ho]) (load_sound hT hR hE h)
  | nilCheck x => rw [ho] at h; exact nilCheck_sound hE ho h
  | binOp op t x y pos =>
    rw [ho] at h
    simp only [pop] at h
    split at h
    case h_2 => exact h.elim
    rename_i u v hu hv
    obtain ⟨r, z, hK, hr, hz⟩ := binP_sound hT (ev_rel hE hu) (ev_rel hE hv) h
    exact all hz hK hr (by unfold execOp; simp only [ho])
  | unOp op t x =>
    rw [ho] at h
    simp only [pop] at h
    split at h
    case h_2 => exact h.elim
    rename_i u hu
    obtain ⟨r, z, hK, hr, hz⟩ := unP_sound (ev_rel hE hu) h
    exact all hz hK hr (by unfold execOp; simp only [ho])
  | convert t u x =>
    rw [ho] at h
    simp only [pop] at h
    split at h
    case h_2 => exact h.elim
    rename_i v hu
    exact fin (by unfold execOp; simp only [ho]) (convP_sound hT hR (ev_rel hE hu) h)
  | makeInterface t x => rw [ho] at h; exact fin (by unfold execOp; simp only [ho]) (makeIf_sound hT hE h)
  | makeFunc f x y => rw [ho] at h; exact fin (by unfold execOp; simp only [ho]) (makeFunc_sound hE h)
  | extract x i => rw [ho] at h; exact fin (by unfold execOp; simp only [ho]) (extract_sound hE h)
  | build t ps => rw [ho] at h; exact fin (by unfold execOp; simp only [ho]) (build_sound hT hE h)
  | slice t x lo hi mx =>
    rw [ho] at h
    simp only [pop] at h
    split at h
    case h_2 => exact h.elim
    rename_i u hu
    obtain ⟨r, z, hK, hr, hz⟩ := sliceP_sound hT hE hu h
    exact all hz hK hr (by unfold execOp; simp only [ho])
  | typeAssert x t ty ok => rw [ho] at h; exact fin (by unfold execOp; simp only [ho]) (assert_sound hT hE h)
  | lookup t x i ok => rw [ho] at h; exact fin (by unfold execOp; simp only [ho]) (lookup_sound hT hR hE h)
  | call c =>
    rw [ho] at h
    simp only [pop] at h
    split at h
    · rename_i x t hc ha ht
      split at h
      case h_2 => exact h.elim
      rename_i u hu
      obtain ⟨r, z, hK, hr, hz⟩ := lenP_sound (ty := o.type) hT (ev_rel hE hu) h
      have e1 : c.argTypes = #[t] := by rw [← Array.toArray_toList (xs := c.argTypes), ht]
      have e2 : c.args = #[x] := by rw [← Array.toArray_toList (xs := c.args), ha]
      refine all hz hK hr ?_
      unfold execOp
      simp only [ho, resolve, hc, e1, e2]
      simp [invoke, builtin]
    · rename_i x y hc ha
      split at h
      case h_2 => exact h.elim
      rename_i u v hu hv
      obtain ⟨r, z, hK, hr, hz⟩ := minP_sound (ts := c.argTypes) (ty := o.type) (ev_rel hE hu) (ev_rel hE hv) h
      have e2 : c.args = #[x, y] := by rw [← Array.toArray_toList (xs := c.args), ha]
      refine all hz hK hr ?_
      unfold execOp
      simp only [ho, resolve, hc, e2]
      simp [invoke, builtin]
    · rename_i x y hc ha
      split at h
      case h_2 => exact h.elim
      rename_i u v hu hv
      obtain ⟨r, z, hK, hr, hz⟩ := minP_sound (ts := c.argTypes) (ty := o.type) (ev_rel hE hu) (ev_rel hE hv) h
      have e2 : c.args = #[x, y] := by rw [← Array.toArray_toList (xs := c.args), ha]
      refine all hz hK hr ?_
      unfold execOp
      simp only [ho, resolve, hc, e2]
      simp [invoke, builtin]
    · exact h.elim
  | _ => rw [ho] at h; exact h.elim
end
end Am
