/-
  Rows that are written out, maps, 'append'; then all operations but the calls of functions, in one.
-/
import Derived.Test.YtijphjckgdomlaaAm12
import Derived.Deep.Upon
set_option linter.all false
namespace Am
open Go

section
variable {P : Program} {T : Tab} {g g' : Gh} {nx nx' : Nat} {w w' : World} {s : Sto} {e : Env} {a : Act}
variable {tri : FuncId → List AV → Sto → Nat → (AV → Sto → Nat → Prop) → Prop} {weak : St → St → Prop} {K : AV → Sto → Nat → Prop}

theorem fill_rows (hE : EnvRel g nx w e a.tmps) {u : Nat} {ti : TI} (hl : look u T = some ti) : ∀ (ps : List (Nat × Operand)) (k : Nat) (l : List (List CV)) (cells : Array Value),
    rows T e u k ps = some l → (k + l.length) * ti.size ≤ cells.size →
    ∃ r, Instr.fill (fun i => some (i * ti.size, ti.size)) cells (ps.map fun p => (p.1, a.eval p.2)) = some r ∧ r.size = cells.size ∧ (∀ j, j < k * ti.size → r[j]? = cells[j]?) ∧
      ∀ i row, l[i]? = some row → row.length = ti.size ∧ ∃ vs, Pw (CRel g nx w) row vs ∧ ∀ j, j < ti.size → r[(k + i) * ti.size + j]? = vs[j]? := by
  intro ps
  induction ps with
  | nil => intro k l cells h _; simp [rows] at h; subst h; exact ⟨cells, rfl, rfl, fun _ _ => rfl, fun i row h => by simp at h⟩
  | cons p r ih =>
    obtain ⟨i, x⟩ := p
    intro k l cells h hsz
    simp only [rows] at h
    split at h
    case isFalse => cases h
    rename_i hki
    subst hki
    split at h
    case h_2 => cases h
    rename_i v hv
    split at h
    case h_2 => cases h
    rename_i cs ti' l' hcs hl' hr
    rw [hl] at hl'
    injection hl' with hl'
    subst hl'
    split at h
    case isFalse => cases h
    rename_i hlen
    injection h with h
    subst h
    have hp := vcells (ev_rel hE hv) hcs
    have hvl : (a.eval x).cells.size = ti.size := by rw [← hlen]; simpa using hp.len.symm
    simp only [List.length_cons] at hsz
    have hk1 : k * ti.size + ti.size ≤ cells.size := by
      have : (k + 1) * ti.size ≤ (k + (l'.length + 1)) * ti.size := Nat.mul_le_mul_right _ (by omega)
      rw [Nat.succ_mul] at this
      omega
    obtain ⟨f1, f2⟩ := fold_set (a.eval x).cells.toList 0 (k * ti.size) cells
    obtain ⟨rr, h1, h2, h3, h4⟩ := ih (k + 1) l' _ hr (by rw [f1, show k + 1 + l'.length = k + (l'.length + 1) by omega]; exact hsz)
    refine ⟨rr, ?_, by rw [h2, f1], fun j hj => ?_, fun i row hi => ?_⟩
    · simp only [List.map_cons, Instr.fill]
      rw [if_neg (by simp; omega)]
      rw [← Array.foldl_toList, Array.toList_zipIdx]
      exact h1
    · rw [h3 j (by rw [Nat.succ_mul]; omega), f2 j (by simp; omega), if_neg (by omega)]
    · cases i with
      | zero =>
        simp at hi
        subst hi
        refine ⟨hlen, _, hp, fun j hj => ?_⟩
        rw [Nat.add_zero, h3 _ (by rw [Nat.succ_mul]; omega), f2 _ (by simp; omega), if_pos (by simp; omega)]
        congr 1
        omega
      | succ i =>
        have := h4 i row (by simpa using hi)
        rw [show k + (i + 1) = k + 1 + i by omega]
        exact this

theorem pickR_eq : ∀ (l : List (List CV)) (i : Nat), pickR l i = (l[i]?).getD [] := by
  intro l
  induction l with
  | nil => intro i; simp [pickR]
  | cons x r ih => intro i; cases i <;> simp [pickR, ih]

theorem vref_new {sz k n : Nat} {b : Nat} (h : n ≤ k) (hnl : g'.nl nx = false) (hb : g'.β nx = b) (hk : g'.κ nx = k) : VRel g' (nx + 1) w' (.c (.ref nx sz 0 n)) (.slice (some ⟨b, 0, none⟩) n k) := by
  have : CRel g' (nx + 1) w' (.ref nx sz 0 n) (.slice (some ⟨g'.β nx, 0 * sz, none⟩) n k) := .ref nx sz 0 n k (Nat.lt_succ_self _) hnl (by rw [hk]; omega) h
  rw [hb, Nat.zero_mul] at this
  exact .c _ _ this

theorem buildSlice_sound (hT : TabOk P T) (hR : Rel P g nx s w) (hE : EnvRel g nx w e a.tmps) {t n : Nat} {ps : Array (Nat × Operand)} (h : (aop (real tri weak) T (.buildSlice t n ps) e s nx).sat K) :
    Does false P g nx s w K (do pure (.value (← Instr.buildSlice t n (ps.map fun (i, x) => (i, a.eval x))))) := by
  simp only [aop] at h
  split at h
  case h_2 => exact h.elim
  rename_i u hk
  split at h
  case h_2 => exact h.elim
  rename_i l ti hrows hl
  split at h
  case isFalse => exact h.elim
  rename_i hc
  obtain ⟨hln, hsm, hsm2⟩ := hc
  have hu := kind_slice hT hk
  obtain ⟨inf, hi, his, _, hiz⟩ := (hT u ti hl).info
  have run : ∃ r : Array Value, r.size = n * ti.size ∧ (∀ i row, l[i]? = some row → row.length = ti.size ∧ ∃ vs, Pw (CRel g nx w) row vs ∧ ∀ j, j < ti.size → r[(0 + i) * ti.size + j]? = vs[j]?) ∧
      (Instr.buildSlice t n (ps.map fun (i, x) => (i, a.eval x))).run P w = .ok (.slice (some ⟨w.heap.size, 0, none⟩) n n) (w.alloc (.cells r u)) := by
    by_cases hz : n * ti.size = 0
    · obtain ⟨r, h1, h2, _, h4⟩ := fill_rows hE hl ps.toList 0 l #[] hrows (by rw [Nat.zero_add, hln, hz]; exact Nat.zero_le _)
      refine ⟨r, by rw [h2, hz]; rfl, h4, ?_⟩
      have h1' : Instr.fill (fun i => some (i * ti.size, ti.size)) #[] (ps.map fun (i, x) => (i, a.eval x)).toList = some r := by rw [Array.toList_map]; exact h1
      have e0 : (Array.range 0).map (fun _ => (default : Value)) = #[] := by simp
      simp [Instr.buildSlice, run_underlying hu, (hT u ti hl).size, hz, newRow, e0, h1]
    · obtain ⟨r, h1, h2, _, h4⟩ := fill_rows hE hl ps.toList 0 l ((Array.range (n * ti.size)).map (ti.zero.cells[· % ti.zero.cells.size]!)) hrows (by rw [Nat.zero_add, hln]; simp)
      refine ⟨r, by rw [h2]; simp, h4, ?_⟩
      have h1' : Instr.fill (fun i => some (i * ti.size, ti.size)) ((Array.range (n * ti.size)).map (ti.zero.cells[· % ti.zero.cells.size]!)) (ps.map fun (i, x) => (i, a.eval x)).toList = some r := by rw [Array.toList_map]; exact h1
      exact run_buildSlice w t u n _ r inf ti.zero hu hi hiz (by rw [his]; omega) (by rw [his]; exact hz) (by rw [his]; exact h1')
  obtain ⟨r, hr1, hr2, hr3⟩ := run
  obtain ⟨r1, r2, r3⟩ := hR.fresh n (w' := w.alloc (.cells r u)) (o := .arr u ti.size n (pickR l)) rfl rfl rfl rfl (fun hK => by
    refine .arr u ti.size n _ r.toList (by simp [Gh.add]) (by simp only [Gh.add, if_true]; rw [heap_alloc_new]) (by simp [Gh.add]) (by simp only [Gh.add, if_true, maxLen]; omega) (by simp [Gh.add, hr1]) ?_ ?_ ?_
    · intro i hi
      have hil : i < l.length := by omega
      rw [pickR_eq, List.getElem?_eq_getElem hil]
      exact (hr2 i _ (List.getElem?_eq_getElem hil)).1
    · intro i j c y hi hc hy
      have hil : i < l.length := by omega
      rw [pickR_eq, List.getElem?_eq_getElem hil] at hc
      obtain ⟨q1, vs, q2, q3⟩ := hr2 i _ (List.getElem?_eq_getElem hil)
      have hj : j < ti.size := by have := (List.getElem?_eq_some_iff.1 hc).1; simp only [Option.getD_some] at this; omega
      have := q3 j hj
      rw [Nat.zero_add] at this
      rw [Array.getElem?_toList, this] at hy
      exact (q2.at_ j c y hc hy).keeps hK (Nat.le_succ _)
    · intro y hy
      obtain ⟨p, hp⟩ := List.getElem?_of_mem hy
      have hpl : p < n * ti.size := by have := (List.getElem?_eq_some_iff.1 hp).1; rw [Array.length_toList, hr1] at this; exact this
      have hpos : 0 < ti.size := by
        rcases Nat.eq_zero_or_pos ti.size with h0 | h0
        · rw [h0] at hpl; omega
        · exact h0
      have hdiv : p / ti.size < n := (Nat.div_lt_iff_lt_mul hpos).2 hpl
      have hil : p / ti.size < l.length := by omega
      obtain ⟨q1, vs, q2, q3⟩ := hr2 _ _ (List.getElem?_eq_getElem hil)
      have hmod := Nat.mod_lt p hpos
      have := q3 _ hmod
      rw [Nat.zero_add, Nat.mul_comm, Nat.div_add_mod] at this
      rw [Array.getElem?_toList, this] at hp
      exact pw_one q2 y (List.mem_of_getElem? hp))
  exact ⟨_, .slice (some ⟨w.heap.size, 0, none⟩) n n, _, _, _, _, h, Nat.le_succ _, r1, r2, r3, vref_new (Nat.le_refl n) (by simp [Gh.add]) (by simp [Gh.add]) (by simp [Gh.add]), .inl (by simp [hr3]), fun _ => same_alloc _ _⟩

/-! ### going through a text -/
theorem range_sound (hT : TabOk P T) (hR : Rel P g nx s w) (hE : EnvRel g nx w e a.tmps) {t : Nat} {x : Operand} (h : (aop (real tri weak) T (.range t x) e s nx).sat K) :
    Does false P g nx s w K (do pure (.value (← Instr.range t (a.eval x)))) := by
  simp only [aop] at h
  split at h
  case h_2 => exact h.elim
  rename_i b hk hx
  have hx := vv (ev_rel hE hx)
  obtain ⟨r1, r2, r3⟩ := hR.fresh 0 (w' := w.alloc (.stringIter b 0)) (o := .sit b 0) rfl rfl rfl rfl (fun hK => .sit b 0 (by simp only [Gh.add, if_true]; rw [heap_alloc_new]))
  exact ⟨_, _, _, _, _, _, h, Nat.le_succ _, r1, r2, r3, vptr_new 0, .inl (by rw [hx]; simp [Instr.range, run_underlying (kind_string hT hk)]), fun _ => same_alloc _ _⟩

theorem next_sound (hR : Rel P g nx s w) (hE : EnvRel g nx w e a.tmps) {x : Operand} {ty : Nat} (h : (aop (real tri weak) T (.next x true) e s nx).sat K) :
    Does true P g nx s w K (do pure (.value (← Instr.next (a.eval x) true ty))) := by
  simp only [aop] at h
  split at h
  case h_2 => exact h.elim
  rename_i id hx
  obtain ⟨hy, hid⟩ := vptr (ev_rel hE hx)
  split at h
  case h_2 => exact h.elim
  rename_i b pos hl
  cases hR.obj id _ hl with
  | sit _ _ hb =>
    by_cases hlt : pos < b.size
    · have h := h.1 (by simp [real, hlt])
      obtain ⟨r1, r2, r3⟩ := hR.turn (w' := { w with heap := w.heap.setIfInBounds (g.β id) (.stringIter b (pos + (Utf8.decode b pos).2)) }) hl (o' := .sit b (pos + (Utf8.decode b pos).2)) rfl rfl (by simp)
        (fun q hq => by simp [Ne.symm hq]) rfl rfl rfl (fun hK => .sit _ _ (by have := (Array.getElem?_eq_some_iff.1 hb).1; simp [this]))
      refine ⟨_, .tuple #[.bool true, .int .i64 pos, .int .i32 (Utf8.decode b pos).1], _, _, _, _, h, Nat.le_refl _, r1, r2, r3, ?_, .inl ?_, fun h => by cases h⟩
      · refine .tup _ [.bool true, .int .i64 pos, .int .i32 (Utf8.decode b pos).1] rfl (fun i v y h1 h2 => ?_)
        match i with
        | 0 => simp at h1 h2; subst h1; subst h2; exact vlit' true
        | 1 => simp at h1 h2; subst h1; subst h2; exact vint _ _
        | 2 => simp at h1 h2; subst h1; subst h2; exact vint _ _
        | i + 3 => simp at h1
      · rw [hy]
        simp only [Instr.next, getObj, setObj, Sem.run_bind, Sem.run, hb, Result.andThen, hlt, if_true]
        simp [goInt]
    · have h := h.2 (by simp [real, hlt])
      refine ⟨_, .tuple #[.bool false], _, _, _, _, h, Nat.le_refl _, hR, Stp.refl _ _ _ _, fun _ h => .inl h, ?_, .inl ?_, fun h => by cases h⟩
      · refine .tup _ [.bool false] rfl (fun i v y h1 h2 => ?_)
        match i with
        | 0 => simp at h1 h2; subst h1; subst h2; exact vlit' false
        | i + 1 => simp at h1
      · rw [hy]
        simp [Instr.next, getObj, Sem.run, hb, hlt]

/-! ### maps -/
theorem vlB_of {v : AV} {y : Value} {cs : List CV} (h : VRel g nx w v y) (hc : cellsOf v = some cs) : y = vlB (isAggV v) y.cells.toList := by
  cases h with
  | c x y h =>
    have := crel_one h
    cases y <;> first | rfl | (simp [Value.oneCell'] at this)
  | agg xs ys h => simp [vlB, isAggV, Value.cells]
  | tup => simp [cellsOf] at hc
  | un => simp [cellsOf] at hc
theorem ofV_d {fz : Nat → Nat → Prop} {x : Value} {v : AV} {cs : List CV} (h : ofV x = some v) (hc : cellsOf v = some cs) : Pw (DRel fz w) cs x.cells.toList := by
  unfold ofV at h
  split at h
  · rename_i cs'
    cases hcs : ofCs cs'.toList with
    | none => simp [hcs] at h
    | some l =>
      simp only [hcs] at h
      injection h with h
      subst h
      simp only [cellsOf] at hc
      injection hc with hc
      subst hc
      exact ofCs_rel hcs
  · cases h
  · rename_i h1 h2
    injection h with h
    subst h
    simp only [cellsOf] at hc
    injection hc with hc
    subst hc
    have ho : Am.one x = true := by cases x <;> first | rfl | exact (h1 _ rfl).elim | exact (h2 _ rfl).elim
    have e : x.cells = #[x] := by cases x <;> first | rfl | exact (h1 _ rfl).elim | exact (h2 _ rfl).elim
    rw [e]
    refine ⟨rfl, fun i c y hc hy => ?_⟩
    cases i with
    | zero => simp at hc hy; subst hc; subst hy; exact ofC_rel ho
    | succ i => simp at hc

theorem makeMap_sound (hT : TabOk P T) (hR : Rel P g nx s w) {t : Nat} (h : (aop (real tri weak) T (.makeMap t none) e s nx).sat K) :
    Does false P g nx s w K (do pure (.value (← Instr.makeMap t none))) := by
  simp only [aop] at h
  split at h
  case h_2 => exact h.elim
  rename_i k u hk
  split at h
  case h_2 => exact h.elim
  rename_i q ti ag hkq hl hag
  split at h
  case h_2 => exact h.elim
  rename_i z hz
  split at h
  case h_2 => exact h.elim
  rename_i cs hc
  split at h
  case h_2 => exact h.elim
  rename_i hza
  have hza : isAggV z = ag := by simpa using hza
  obtain ⟨inf, hi, _, _, hiz⟩ := (hT u ti hl).info
  obtain ⟨r1, r2, r3⟩ := hR.fresh 0 (w' := w.alloc (.map #[] 0)) (o := .map k u ag (fun _ => false) (fun _ => cs)) rfl rfl rfl rfl (fun hK => by
    refine .map k u ag _ _ #[] 0 (by simp only [Gh.add, if_true]; rw [heap_alloc_new]) ⟨⟨q, kind_int hT hkq, by simp⟩, by simp, by simp, by simp, inf, ti.zero.cells.toList, hi, ?_, fun n _ => ofV_d hz hc⟩
    rw [hiz, ← hza, ← vlB_of (ofV_rel (g := g) (nx := nx) (w := w) hz) hc])
  refine ⟨_, .map (some w.heap.size), _, _, _, _, h, Nat.le_succ _, r1, r2, r3, .c _ _ ?_, .inl (by simp [Instr.makeMap]), fun _ => same_alloc _ _⟩
  have : CRel (g.add nx w.heap.size 0 false) (nx + 1) (w.alloc (.map #[] 0)) (.mp nx) (.map (some ((g.add nx w.heap.size 0 false).β nx))) := .mp nx (Nat.lt_succ_self _)
  have e1 : (g.add nx w.heap.size 0 false).β nx = w.heap.size := by simp [Gh.add]
  rw [e1] at this
  exact this

theorem heap_put {w : World} {r : Nat} {o o' : Go.Obj} (hb : w.heap[r]? = some o) : (w.heap.setIfInBounds r o')[r]? = some o' ∧ ∀ r', r' ≠ r → (w.heap.setIfInBounds r o')[r']? = w.heap[r']? := by
  have hlt : r < w.heap.size := (Array.getElem?_eq_some_iff.1 hb).1
  exact ⟨by simp [hlt], fun r' hne => by simp [Ne.symm hne]⟩
theorem run_setMap {r : Nat} {es : Array MapEntry} {clock : Nat} (o : Go.Obj) (hb : w.heap[r]? = some (.map es clock)) : (setObj r o).run P w = .ok () { w with heap := w.heap.setIfInBounds r o } := by
  simp [setObj, Sem.run, hb]

theorem MRel.set {fz : Nat → Nat → Prop} {k u : Nat} {ag : Bool} {dom : Int → Bool} {val : Int → List CV} {es : List MapEntry} (h : MRel fz w P k u ag dom val es) {q : IntKind} (hq : P.underlying k = some (.int q)) {n : Int} {cs : List CV} {ys : List Value}
    (hv : Pw (DRel fz w) cs ys) {j : Nat} {en : MapEntry} (hj : es[j]? = some en) (hen : en.key = .int q n) :
    MRel fz w P k u ag (fun i => if i = n then true else dom i) (fun i => if i = n then cs else val i) (es.modify j fun e => { e with key := .int q n, val := vlB ag ys }) := by
  obtain ⟨q', hq', hkeys⟩ := h.keys
  have : q' = q := by rw [hq] at hq'; simpa using hq'.symm
  subst this
  have hkey : ∀ i : Nat, ((es.modify j fun e => { e with key := .int q' n, val := vlB ag ys })[i]?).map (·.key) = (es[i]?).map (·.key) := by
    intro i
    rw [List.getElem?_modify]
    by_cases hij : j = i
    · subst hij; simp [hj, hen]
    · simp [hij]
  have mem : ∀ e ∈ es.modify j (fun e => { e with key := .int q' n, val := vlB ag ys }), (e.key = .int q' n ∧ e.val = vlB ag ys) ∨ (e ∈ es ∧ e.key ≠ .int q' n) := by
    intro e he
    obtain ⟨i, hi⟩ := List.getElem?_of_mem he
    rw [List.getElem?_modify] at hi
    by_cases hij : j = i
    · subst hij
      simp [hj] at hi
      subst hi
      exact .inl ⟨rfl, rfl⟩
    · simp [hij] at hi
      refine .inr ⟨List.mem_of_getElem? hi, fun hk => hij ?_⟩
      exact h.nodup j i en e hj hi (hen.trans hk.symm)
  refine ⟨⟨q', hq, fun e he => ?_⟩, fun i i' e e' h1 h2 hk => ?_, fun e he q2 m hk => ?_, fun m hm => ?_, ?_⟩
  · rcases mem e he with ⟨h1, _⟩ | ⟨h1, _⟩
    · exact ⟨n, h1⟩
    · exact hkeys e h1
  · have e1 := hkey i
    have e2 := hkey i'
    rw [h1] at e1
    rw [h2] at e2
    simp only [Option.map_some] at e1 e2
    cases ha : es[i]? with
    | none => simp [ha] at e1
    | some x =>
      cases hb : es[i']? with
      | none => simp [hb] at e2
      | some y =>
        simp [ha] at e1
        simp [hb] at e2
        exact h.nodup i i' x y ha hb (by rw [← e1, ← e2]; exact hk)
  · rcases mem e he with ⟨h1, h2⟩ | ⟨h1, h2⟩
    · rw [h1] at hk
      injection hk with hk1 hk2
      subst hk2
      exact ⟨by simp, ys, h2, by simpa using hv⟩
    · obtain ⟨m', hm'⟩ := hkeys e h1
      have hne : m ≠ n := fun hmn => by
        subst hmn
        rw [hm'] at hk
        injection hk with hk1 hk2
        subst hk2
        exact h2 hm'
      simp only [hne, if_false]
      exact h.here e h1 q2 m hk
  · by_cases hmn : m = n
    · subst hmn
      refine ⟨{ en with key := .int q' m, val := vlB ag ys }, List.mem_of_getElem? (i := j) (by rw [List.getElem?_modify]; simp [hj]), q', rfl⟩
    · simp only [hmn, if_false] at hm
      obtain ⟨e, he, q2, hk⟩ := h.shut m hm
      obtain ⟨i, hi⟩ := List.getElem?_of_mem he
      have hij : j ≠ i := fun hij => by
        subst hij
        rw [hj] at hi
        injection hi with hi
        subst hi
        rw [hen] at hk
        injection hk with hk1 hk2
        exact hmn hk2.symm
      exact ⟨e, List.mem_of_getElem? (i := i) (by rw [List.getElem?_modify]; simp [hij, hi]), q2, hk⟩
  · obtain ⟨i, zs, h1, h2, h3⟩ := h.zero
    refine ⟨i, zs, h1, h2, fun m hm => ?_⟩
    by_cases hmn : m = n
    · simp [hmn] at hm
    · simp only [hmn, if_false] at hm ⊢
      exact h3 m hm

theorem MRel.push {fz : Nat → Nat → Prop} {k u : Nat} {ag : Bool} {dom : Int → Bool} {val : Int → List CV} {es : List MapEntry} (h : MRel fz w P k u ag dom val es) {q : IntKind} (hq : P.underlying k = some (.int q)) {n : Int} {cs : List CV} {ys : List Value}
    (hv : Pw (DRel fz w) cs ys) (hno : ∀ e ∈ es, e.key ≠ .int q n) (b : Nat) :
    MRel fz w P k u ag (fun i => if i = n then true else dom i) (fun i => if i = n then cs else val i) (es ++ [⟨.int q n, vlB ag ys, b⟩]) := by
  obtain ⟨q', hq', hkeys⟩ := h.keys
  have : q' = q := by rw [hq] at hq'; simpa using hq'.symm
  subst this
  refine ⟨⟨q', hq, fun e he => ?_⟩, fun i i' e e' h1 h2 hk => ?_, fun e he q2 m hk => ?_, fun m hm => ?_, ?_⟩
  · rcases List.mem_append.1 he with he | he
    · exact hkeys e he
    · simp at he; subst he; exact ⟨n, rfl⟩
  · rw [List.getElem?_append] at h1 h2
    by_cases hi : i < es.length
    · rw [if_pos hi] at h1
      by_cases hi' : i' < es.length
      · rw [if_pos hi'] at h2
        exact h.nodup i i' e e' h1 h2 hk
      · rw [if_neg hi'] at h2
        have := List.mem_of_getElem? h2
        simp at this
        subst this
        exact absurd hk (hno e (List.mem_of_getElem? h1))
    · rw [if_neg hi] at h1
      by_cases hi' : i' < es.length
      · rw [if_pos hi'] at h2
        have := List.mem_of_getElem? h1
        simp at this
        subst this
        exact absurd hk.symm (hno e' (List.mem_of_getElem? h2))
      · rw [if_neg hi'] at h2
        have a1 := (List.getElem?_eq_some_iff.1 h1).1
        have a2 := (List.getElem?_eq_some_iff.1 h2).1
        simp at a1 a2
        omega
  · rcases List.mem_append.1 he with he | he
    · obtain ⟨m', hm'⟩ := hkeys e he
      have hne : m ≠ n := fun hmn => by
        rw [hm'] at hk
        injection hk with hk1 hk2
        exact hno e he (by rw [hm', hk2, hmn])
      simp only [hne, if_false]
      exact h.here e he q2 m hk
    · simp at he
      subst he
      simp at hk
      obtain ⟨_, rfl⟩ := hk
      exact ⟨by simp, ys, rfl, by simpa using hv⟩
  · by_cases hmn : m = n
    · subst hmn
      exact ⟨⟨.int q' m, vlB ag ys, b⟩, List.mem_append.2 (.inr (by simp)), q', rfl⟩
    · simp only [hmn, if_false] at hm
      obtain ⟨e, he, q2, hk⟩ := h.shut m hm
      exact ⟨e, List.mem_append.2 (.inl he), q2, hk⟩
  · obtain ⟨i, zs, h1, h2, h3⟩ := h.zero
    refine ⟨i, zs, h1, h2, fun m hm => ?_⟩
    by_cases hmn : m = n
    · simp [hmn] at hm
    · simp only [hmn, if_false] at hm ⊢
      exact h3 m hm

theorem mapUpdate_sound (hT : TabOk P T) (hR : Rel P g nx s w) (hE : EnvRel g nx w e a.tmps) {t : Nat} {m x y : Operand} (h : (aop (real tri weak) T (.mapUpdate t m x y) e s nx).sat K) :
    Does true P g nx s w K (do Instr.mapUpdate t (a.eval m) (a.eval x) (a.eval y); pure .skip) := by
  simp only [aop] at h
  split at h
  case h_2 => exact h.elim
  rename_i id q n v kt u hm hx hy hk
  obtain ⟨hmv, hid⟩ := vmp (ev_rel hE hm)
  have hxv := vv (ev_rel hE hx)
  split at h
  case h_2 => exact h.elim
  rename_i kt2 u2 ag dom val cs q2 ti hlk hcs hkt hl
  split at h
  case isFalse => exact h.elim
  rename_i hc
  obtain ⟨rfl, rfl, rfl, hag, hlen⟩ := hc
  split at h
  case h_2 => exact h.elim
  rename_i hno
  have hu := kind_map hT hk
  have hq := kind_int hT hkt
  have hvy := ev_rel hE hy
  have hd := noIds_d hno (vcells hvy hcs)
  have hyv : a.eval y = vlB ag (a.eval y).cells.toList := by rw [← hag]; exact vlB_of hvy hcs
  cases hR.obj id _ hlk with
  | map _ _ _ _ _ es clock hb hM =>
    obtain ⟨q3, hq3, hkeys⟩ := hM.keys
    have e3 : q3 = q := by rw [hq] at hq3; simpa using hq3.symm
    subst e3
    have hlt : g.β id < w.heap.size := (Array.getElem?_eq_some_iff.1 hb).1
    have fin : ∀ (es' : Array MapEntry) (c' : Nat), MRel g.fz w P kt u ag (fun i => if i = n then true else dom i) (fun i => if i = n then cs else val i) es'.toList →
        (Instr.mapUpdate t (a.eval m) (a.eval x) (a.eval y)).run P w = .ok () { w with heap := w.heap.setIfInBounds (g.β id) (.map es' c') } →
        Does true P g nx s w K (do Instr.mapUpdate t (a.eval m) (a.eval x) (a.eval y); pure .skip) := by
      intro es' c' hM' hrun
      obtain ⟨r1, r2, r3⟩ := hR.turn (w' := { w with heap := w.heap.setIfInBounds (g.β id) (.map es' c') }) hlk (o' := .map kt u ag (fun i => if i = n then true else dom i) (fun i => if i = n then cs else val i)) rfl rfl (by simp)
        (fun b hb' => (heap_put hb).2 b hb') rfl rfl rfl (fun hK => .map _ _ _ _ _ es' c' (heap_put hb).1 (hM'.mono hK.fz hK.cell))
      exact ⟨_, _, _, _, _, _, h, Nat.le_refl _, r1, r2, r3, undef_rel, .inr ⟨rfl, by simp [hrun]⟩, fun h => by cases h⟩
    rcases findNow_run (n := n) es.toList 0 hkeys with ⟨j, en, h1, h2, h3⟩ | ⟨h1, h2⟩
    · refine fin (es.modify j fun e => { e with key := .int q3 n, val := a.eval y }) clock ?_ ?_
      · rw [Array.toList_modify, hyv]
        have := hM.set hq hd h2 h3
        simpa using this
      · rw [hmv, hxv]
        have h2' : es[j]? = some en := by simpa using h2
        have hst : ∀ w', (Instr.keyThatStays (.int q3 n) (.int q3 n)).run P w' = .ok (.int q3 n) w' := fun w' => by simp [Instr.keyThatStays, Instr.sameBits]
        simp only [Instr.mapUpdate, Sem.run_bind, run_underlying hu, Result.andThen_ok, run_getObj_other hb, checkKey_run hq 9999, findKey_run hq h1, Nat.zero_add, h2', h3, Option.map_some, Option.getD_some, hst, run_setMap _ hb]
    · refine fin (es.push ⟨.int q3 n, a.eval y, clock⟩) (clock + 1) ?_ ?_
      · rw [Array.toList_push, hyv]
        have := hM.push hq hd h2 clock
        simpa using this
      · rw [hmv, hxv]
        simp only [Instr.mapUpdate, Sem.run_bind, run_underlying hu, Result.andThen_ok, run_getObj_other hb, checkKey_run hq 9999, findKey_run hq h1, run_setMap _ hb]
end
end Am
