/-
  Operations that leave the store alone: what the evaluator says, the run does.
-/
import Derived.Test.YtijphjckgdomlaaAm3
set_option linter.all false
namespace Am
open Go

section
variable {P : Program} {T : Tab} {g : Gh} {nx : Nat} {w : World} {s : Sto} {e : Env} {a : Act}

theorem vlit {b : Bool} {y : Value} (h : VRel g nx w (.c (.lit b)) y) : y = .bool b := by
  cases h with | c _ _ h => cases h with | d _ _ h => cases h; rfl
theorem vv {x y : Value} (h : VRel g nx w (.c (.v x)) y) : y = x := by
  cases h with | c _ _ h => cases h with | d _ _ h => cases h; rfl
theorem vptr {id off : Nat} {y : Value} (h : VRel g nx w (.c (.ptr id off)) y) : y = .pointer (some ⟨g.β id, off, none⟩) ∧ id < nx := by
  cases h with | c _ _ h => cases h with
  | d _ _ h => cases h
  | ptr _ _ h => exact ⟨rfl, h⟩
theorem verp {id sz i off : Nat} {y : Value} (h : VRel g nx w (.c (.erp id sz i off)) y) : y = .pointer (some ⟨g.β id, i * sz + off, none⟩) ∧ id < nx ∧ g.nl id = false := by
  cases h with | c _ _ h => cases h with
  | d _ _ h => cases h
  | erp _ _ _ _ h hn => exact ⟨rfl, h, hn⟩
theorem velp {xs : List CV} {off : Nat} {y : Value} (h : VRel g nx w (.c (.elp xs off)) y) : ∃ (b o : Nat) (vals : Nat → Value), y = .pointer (some ⟨b, o + off, none⟩) ∧
    (∀ (j : Nat) (c : CV), xs[j]? = some c → w.cell? ⟨b, o + j, none⟩ = some (vals j)) ∧ (∀ (j : Nat) (c : CV), xs[j]? = some c → g.fz b (o + j)) ∧ (∀ (j : Nat) (c : CV), xs[j]? = some c → DRel g.fz w c (vals j)) := by
  cases h with | c _ _ h => cases h with | d _ _ h => cases h with | elp _ _ b o vals hc hf hr => exact ⟨b, o, vals, rfl, hc, hf, hr⟩
theorem vsl {sz n m : Nat} {f : Nat → List CV} {y : Value} (h : VRel g nx w (.c (.sl sz n m f)) y) : (y = .slice none 0 0 ∧ n = 0 ∧ m = 0) ∨
    ∃ (b o cap : Nat) (vals : Nat → Nat → Value), y = .slice (some ⟨b, o, none⟩) n cap ∧ n + m ≤ cap ∧ cap ≤ maxLen ∧ (∀ i, i < n + m → (f i).length = sz) ∧
      (∀ (i j : Nat) (c : CV), i < n + m → (f i)[j]? = some c → w.cell? ⟨b, o + (i * sz + j), none⟩ = some (vals i j)) ∧
      (∀ (i j : Nat) (c : CV), i < n + m → (f i)[j]? = some c → g.fz b (o + (i * sz + j))) ∧ (∀ (i j : Nat) (c : CV), i < n + m → (f i)[j]? = some c → DRel g.fz w c (vals i j)) := by
  cases h with | c _ _ h => cases h with | d _ _ h => cases h with
  | nilsl => exact .inl ⟨rfl, rfl, rfl⟩
  | sl _ _ _ _ b o cap vals hcap hmax hlen hc hf hr => exact .inr ⟨b, o, cap, vals, rfl, hcap, hmax, hlen, hc, hf, hr⟩
theorem vref {id sz off n : Nat} {y : Value} (h : VRel g nx w (.c (.ref id sz off n)) y) : id < nx ∧ ((y = .slice none 0 0 ∧ off = 0 ∧ n = 0 ∧ g.nl id = true) ∨
    ∃ cap, y = .slice (some ⟨g.β id, off * sz, none⟩) n cap ∧ g.nl id = false ∧ off + cap = g.κ id ∧ n ≤ cap) := by
  cases h with | c _ _ h => cases h with
  | d _ _ h => cases h
  | refnil _ _ h hn => exact ⟨h, .inl ⟨rfl, rfl, rfl, hn⟩⟩
  | ref _ _ _ _ cap h hn hc hl => exact ⟨h, .inr ⟨cap, rfl, hn, hc, hl⟩⟩
theorem vmp {id : Nat} {y : Value} (h : VRel g nx w (.c (.mp id)) y) : y = .map (some (g.β id)) ∧ id < nx := by
  cases h with | c _ _ h => cases h with
  | d _ _ h => cases h
  | mp _ h => exact ⟨rfl, h⟩
theorem vz {y : Value} (h : VRel g nx w (.c .z) y) : ∃ A, y = .slice A 0 0 := by
  cases h with | c _ _ h => cases h with | d _ _ h => cases h with | z A => exact ⟨A, rfl⟩
theorem vagg {xs : List CV} {y : Value} (h : VRel g nx w (.agg xs) y) : ∃ ys : List Value, y = .agg ys.toArray ∧ Pw (CRel g nx w) xs ys := by
  cases h with | agg _ ys h => exact ⟨ys, rfl, h⟩
theorem vtup {vs : List AV} {y : Value} (h : VRel g nx w (.tup vs) y) : ∃ ys : List Value, y = .tuple ys.toArray ∧ vs.length = ys.length ∧
    ∀ (i : Nat) (v : AV) (y : Value), vs[i]? = some v → ys[i]? = some y → VRel g nx w v y := by
  cases h with | tup _ ys hl h => exact ⟨ys, rfl, hl, h⟩
theorem vcells {v : AV} {y : Value} {cs : List CV} (h : VRel g nx w v y) (hc : cellsOf v = some cs) : Pw (CRel g nx w) cs y.cells.toList := by
  cases h with
  | c x y h =>
    simp only [cellsOf] at hc
    injection hc with hc
    subst hc
    have hy : y.cells = #[y] := by
      cases h with
      | d _ _ h => cases h with
        | v _ h => cases y <;> simp_all [Value.cells, Value.oneCell']
        | _ => rfl
      | _ => rfl
    rw [hy]
    refine ⟨rfl, fun i c z h1 h2 => ?_⟩
    cases i with
    | zero => simp at h1 h2; subst h1; subst h2; exact h
    | succ i => simp at h1
  | agg xs ys h =>
    simp only [cellsOf] at hc
    injection hc with hc
    subst hc
    simpa [Value.cells] using h
  | tup => simp [cellsOf] at hc
  | un => simp [cellsOf] at hc
theorem crel_one {c : CV} {y : Value} (h : CRel g nx w c y) : y.oneCell' = true := by
  cases h with
  | d _ _ h => cases h <;> first | assumption | rfl
  | _ => rfl
theorem pw_one {cs : List CV} {ys : List Value} (h : Pw (CRel g nx w) cs ys) : ∀ y ∈ ys, y.oneCell' = true := by
  intro y hy
  obtain ⟨i, hi⟩ := List.getElem?_of_mem hy
  have hl : i < cs.length := by rw [h.len]; exact (List.getElem?_eq_some_iff.1 hi).1
  exact crel_one (h.at_ i cs[i] y (List.getElem?_eq_getElem hl) hi)

/-- The part that was found: a value that fits. -/
theorem part_rel (hT : TabOk P T) {t : Nat} {cs : List CV} {ys : List Value} {off : Nat} {v : AV} (h : part T t cs off = some v) (hp : Pw (CRel g nx w) cs ys) :
    ∃ x, (∀ w', (Go.part t ys.toArray off).run P w' = .ok x w') ∧ VRel g nx w v x := by
  obtain ⟨x, hx, h⟩ := part_run hT h hp
  refine ⟨x, hx, ?_⟩
  rcases h with ⟨c, rfl, hc⟩ | ⟨xs, zs, rfl, rfl, hz⟩
  · exact .c _ _ hc
  · have : VRel g nx w (.agg xs) (.agg zs.toList.toArray) := .agg xs _ hz
    simpa using this

theorem add_none (b o n : Nat) : (⟨b, o, none⟩ : Addr).add n = ⟨b, o + n, none⟩ := by
  unfold Addr.add
  split
  · simp_all
  · rfl

theorem loadFrom_run (w' : World) (a0 : Addr) : ∀ (ys : List Value) (i : Nat) (acc : Array Value), (∀ (j : Nat) (y : Value), ys[j]? = some y → w'.cell? (a0.add (i + j)) = some y) →
    (loadCellsFrom a0 i ys.length acc).run P w' = .ok (acc ++ ys.toArray) w' := by
  intro ys
  induction ys with
  | nil => intro i acc _; simp [loadCellsFrom]
  | cons y r ih =>
    intro i acc h
    have h0 := h 0 y rfl
    simp only [Nat.add_zero] at h0
    have hi := ih (i + 1) (acc.push y) (fun j z hz => by
      have := h (j + 1) z (by simpa using hz)
      rw [show i + 1 + j = i + (j + 1) by omega]
      exact this)
    simp only [List.length_cons, loadCellsFrom, Sem.run_bind, run_load, h0, Result.andThen_ok, hi]
    simp

/-- A load of a part of cells that lie in a row. -/
theorem load_part (hT : TabOk P T) {R : CV → Value → Prop} {t : Nat} {cs : List CV} {ys : List Value} {off b o : Nat} {v : AV} (h : part T t cs off = some v) (hp : Pw R cs ys)
    {w' : World} (hc : ∀ (j : Nat) (y : Value), ys[j]? = some y → w'.cell? ⟨b, o + j, none⟩ = some y) :
    ∃ x, (Go.part t ys.toArray off).run P w' = .ok x w' ∧ (loadVar t ⟨b, o + off, none⟩).run P w' = .ok x w' := by
  have h' := h
  unfold part at h'
  split at h'
  · rename_i ti ha hl
    split at h'
    case h_2 => cases h'
    rename_i hb
    have hle' := Nat.le_of_ble_eq_true hb
    rw [hp.len] at hle'
    refine ⟨.agg (ys.toArray.extract off (off + ti.size)), by simp [Go.part, isAgg_run hT ha, (hT t ti hl).size], ?_⟩
    have hr := loadFrom_run (P := P) w' ⟨b, o + off, none⟩ ((ys.drop off).take ti.size) 0 #[] (fun j y hj => by
      simp only [List.getElem?_take, List.getElem?_drop] at hj
      split at hj
      · rw [add_none, show o + off + (0 + j) = o + (off + j) by omega]
        exact hc _ _ hj
      · cases hj)
    have hlen : ((ys.drop off).take ti.size).length = ti.size := by simp; omega
    rw [hlen] at hr
    simp only [loadVar, Sem.run_bind, isAgg_run hT ha, Result.andThen_ok, if_true, (hT t ti hl).size, loadCells, hr, Sem.run_pure]
    simp
  · rename_i ha
    cases hn : nth cs off with
    | none => simp [hn] at h'
    | some c =>
      rw [nth_eq] at hn
      have hlt : off < ys.length := by rw [← hp.len]; exact (List.getElem?_eq_some_iff.1 hn).1
      have e : ys[off]? = some ys[off] := List.getElem?_eq_getElem hlt
      refine ⟨ys[off], by simp [Go.part, isAgg_run hT ha, e], ?_⟩
      simp [loadVar, isAgg_run hT ha, hc _ _ e]
  · cases h'
end
end Am
