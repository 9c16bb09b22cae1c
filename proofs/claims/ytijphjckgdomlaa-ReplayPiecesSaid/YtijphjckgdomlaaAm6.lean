/-
  Comparisons: what the evaluator says, the run does.
-/
import Derived.Test.YtijphjckgdomlaaAm5
import Derived.Laws.Small
import Derived.Lib.MinMax
set_option linter.all false
namespace Am
open Go

section
variable {P : Program} {T : Tab} {g : Gh} {nx : Nat} {w : World} {s : Sto} {e : Env} {a : Act}
variable {tri : FuncId → List AV → Sto → Nat → (AV → Sto → Nat → Prop) → Prop} {weak : St → St → Prop} {K : AV → Prop}

theorem vbool (b : Bool) : VRel g nx w (.c (.v (.bool b))) (.bool b) := .c _ _ (.d _ _ (.v _ rfl))
theorem vlit' (b : Bool) : VRel g nx w (.c (.lit b)) (.bool b) := .c _ _ (.d _ _ (.lit b))
theorem vint (k : IntKind) (n : Int) : VRel g nx w (.c (.v (.int k n))) (.int k n) := .c _ _ (.d _ _ (.v _ rfl))
theorem vstr (x : ByteArray) : VRel g nx w (.c (.v (.string x))) (.string x) := .c _ _ (.d _ _ (.v _ rfl))

theorem cv {x y : Value} (h : CRel g nx w (.v x) y) : y = x := vv (.c _ _ h)
theorem clit {b : Bool} {y : Value} (h : CRel g nx w (.lit b) y) : y = .bool b := vlit (.c _ _ h)

/-- '==' of two cells of a plain type. -/
theorem eqc_sound {t : Nat} {p q : CV} {x y : Value} {b : Bool} {td : TD} (htd : TDok P t td) (h : eqc (real tri weak) td p q = some b) (hx : CRel g nx w p x) (hy : CRel g nx w q y) (d : Nat) (w' : World) :
    (Op.equalIn (d + 1) t x y).run P w' = .ok b w' := by
  unfold eqc at h
  split at h
  · split at h
    · split at h
      · rename_i hk
        subst hk
        injection h with h
        subst h
        rw [cv hx, cv hy]
        exact run_equalIn_int _ d t _ _ _ _ htd
      · cases h
    · cases h
  · split at h
    · injection h with h
      subst h
      rw [cv hx, cv hy]
      exact run_equalIn_string _ d t _ _ htd
    · cases h
  · split at h
    · injection h with h
      subst h
      rw [clit hx, clit hy]
      exact run_equalIn_bool _ d t _ _ htd
    · injection h with h
      subst h
      rw [cv hx, cv hy]
      exact run_equalIn_bool _ d t _ _ htd
    · injection h with h
      subst h
      rw [clit hx, cv hy]
      exact run_equalIn_bool _ d t _ _ htd
    · injection h with h
      subst h
      rw [cv hx, clit hy]
      exact run_equalIn_bool _ d t _ _ htd
    · cases h
  · cases h

/-- A value of a type out of its cells. -/
def vl (td : TD) (us : List Value) : Value := match td with
  | .struct _ _ => .agg us.toArray
  | _ => us.headD undef

theorem Pw.cut {R : CV → Value → Prop} {xs : List CV} {us : List Value} (h : Pw R xs us) (a n : Nat) : Pw R (cut xs a n) ((us.drop a).take n) := by
  rw [cut_eq]
  refine ⟨by simp [h.len], fun i c y hc hy => ?_⟩
  simp only [List.getElem?_take, List.getElem?_drop] at hc hy
  split at hc
  · rename_i hi
    rw [if_pos hi] at hy
    exact h.at_ _ _ _ hc hy
  · cases hc

theorem eqc_td {A : Ar} {td : TD} {p q : CV} {b : Bool} (h : eqc A td p q = some b) : (∃ k, td = .int k) ∨ td = .string ∨ td = .bool := by
  cases td <;> simp [eqc] at h ⊢

/-- A field's part, and what is compared of it. -/
theorem part_vl (hT : TabOk P T) {u : Nat} {ti : TI} (hl : look u T = some ti) {A : Ar} {d : Nat} {xs ys : List CV} {us : List Value} {off : Nat} {b : Bool} {R : CV → Value → Prop} (hp : Pw R xs us)
    (h : eqT A T d u (cut xs off ti.size) (cut ys off ti.size) = some b ∨ eqT A T d u (cut ys off ti.size) (cut xs off ti.size) = some b) (w' : World) :
    (Go.part u us.toArray off).run P w' = .ok (vl ti.td ((us.drop off).take ti.size)) w' := by
  have hag := (hT u ti hl).agg (P := P) w'
  cases htd : ti.td with
  | struct fs cm =>
    rw [htd] at hag
    simp only [Go.part, Sem.run_bind, hag, Result.andThen_ok, if_true, (hT u ti hl).size, Sem.run_pure]
    simp [vl]
  | array n e =>
    rcases h with h | h <;> (cases d with
      | zero => simp [eqT] at h
      | succ d =>
        simp only [eqT, hl, htd] at h
        split at h
        · simp [eqc] at h
        · cases h)
  | _ =>
    have hone : ∃ p, cut xs off ti.size = [p] := by
      rcases h with h | h <;> (cases d with
      | zero => simp [eqT] at h
      | succ d =>
        simp only [eqT, hl, htd] at h
        split at h
        · first | exact ⟨_, by assumption⟩
        · cases h)
    obtain ⟨p, hp1⟩ := hone
    have hlen := congrArg List.length hp1
    rw [cut_eq] at hlen hp1
    simp at hlen
    have hlt : off < us.length := by rw [← hp.len]; omega
    have h1 : 1 ≤ ti.size := by omega
    have e : us[off]? = some us[off] := List.getElem?_eq_getElem hlt
    rw [htd] at hag
    simp only [Go.part, Sem.run_bind, hag, Result.andThen_ok]
    have e2 : ((us.drop off).take ti.size).headD undef = us[off] := by
      rw [List.drop_eq_getElem_cons hlt]
      obtain ⟨k, hk⟩ : ∃ k, ti.size = k + 1 := ⟨ti.size - 1, by omega⟩
      rw [hk]
      rfl
    simp only [vl, e2]
    simp [e]

theorem eqFields_sound (hT : TabOk P T) {D : Nat} {us vs : List Value} {xs ys : List CV} (hx : Pw (CRel g nx w) xs us) (hy : Pw (CRel g nx w) ys vs) {f : Nat → List CV → List CV → Option Bool} {A : Ar} {d : Nat}
    (hA : A = real tri weak) (hf : f = eqT A T d) (w' : World)
    (ih : ∀ u ti off b, look u T = some ti → f u (cut xs off ti.size) (cut ys off ti.size) = some b →
      (Op.equalIn D u (vl ti.td ((us.drop off).take ti.size)) (vl ti.td ((vs.drop off).take ti.size))).run P w' = .ok b w') :
    ∀ (fl : List Field) (fs : List (Nat × Nat)) (b : Bool), fl.map (fun f => (f.offset, f.type)) = fs → (∀ f ∈ fl, f.name ≠ "_") → eqF A T f fs xs ys = some b →
      (Op.eqFields D us.toArray vs.toArray fl).run P w' = .ok b w' := by
  intro fl
  induction fl with
  | nil => intro fs b he _ h; subst he; simp [eqF] at h; subst h; simp [Op.eqFields]
  | cons fd r ihr =>
    intro fs b he hn h
    have hnm : fd.name ≠ "_" := hn fd (by simp)
    have step : ∀ ti b1, look fd.type T = some ti → f fd.type (cut xs fd.offset ti.size) (cut ys fd.offset ti.size) = some b1 →
        (Op.eqFields D us.toArray vs.toArray (fd :: r)).run P w' = if b1 then (Op.eqFields D us.toArray vs.toArray r).run P w' else .ok false w' := by
      intro ti b1 hl hb
      have p1 := part_vl hT hl hx (.inl (hf ▸ hb)) w'
      have p2 := part_vl hT hl hy (.inr (hf ▸ hb)) w'
      have p3 := ih _ ti _ b1 hl hb
      simp only [Op.eqFields, if_pos hnm, Sem.run_bind, p1, p2, Result.andThen_ok, p3]
      cases b1 <;> simp
    cases r with
    | nil =>
      subst he
      simp only [List.map, eqF] at h
      cases hl : look fd.type T with
      | none => simp [hl] at h
      | some ti =>
        simp only [hl] at h
        rw [step ti b hl h]
        cases b <;> simp [Op.eqFields]
    | cons fd2 r2 =>
      subst he
      simp only [List.map, eqF] at h
      cases hl : look fd.type T with
      | none => simp [hl] at h
      | some ti =>
        simp only [hl] at h
        split at h
        · rename_i p q hp hq
          injection h with h
          have := ihr _ q rfl (fun f hf => hn f (by simp [hf])) (by simpa [List.map] using hq)
          rw [step ti p hl hp, this, ← h, hA]
          cases p <;> simp [real]
        · cases h

/-- '==' of two values of a type. -/
theorem eqT_sound (hT : TabOk P T) : ∀ (d t : Nat) (xs ys : List CV) (us vs : List Value) (b : Bool) (ti : TI) (D : Nat), d ≤ D → look t T = some ti → eqT (real tri weak) T d t xs ys = some b →
    Pw (CRel g nx w) xs us → Pw (CRel g nx w) ys vs → ∀ w', (Op.equalIn D t (vl ti.td us) (vl ti.td vs)).run P w' = .ok b w' := by
  intro d
  induction d with
  | zero => intro t xs ys us vs b ti D _ _ h; simp [eqT] at h
  | succ d ih =>
    intro t xs ys us vs b ti D hD hl h hx hy w'
    obtain ⟨D, rfl⟩ : ∃ k, D = k + 1 := ⟨D - 1, by omega⟩
    have htd := (hT t ti hl).td
    by_cases hs : ∃ fs cm, ti.td = .struct fs cm
    · obtain ⟨fs, cm, hs⟩ := hs
      obtain ⟨a, ha, he, hc⟩ := TDok.struct (hT t ti hl) hs
      simp only [eqT, hl, hs] at h
      cases cm with
      | false => simp at h
      | true =>
        simp only at h
        obtain ⟨_, hsh, hnm⟩ := hc rfl
        have hfo : P.fieldsOf t = a := by simp [Program.fieldsOf, ha]
        rw [hs]
        simp only [vl]
        rw [run_equalIn_agg w' D t _ _ (by rw [hfo]; exact ha) hsh, hfo]
        exact eqFields_sound hT hx hy rfl rfl w' (fun u tj off b1 hlj hb1 => ih u _ _ _ _ b1 tj D (by omega) hlj hb1 (hx.cut _ _) (hy.cut _ _) w') a.toList fs b he hnm h
    · have h' : ∃ p q, xs = [p] ∧ ys = [q] ∧ eqc (real tri weak) ti.td p q = some b := by
        cases htd' : ti.td with
        | struct fs cm => exact absurd ⟨fs, cm, htd'⟩ hs
        | _ =>
          simp only [eqT, hl, htd'] at h
          split at h
          · exact ⟨_, _, rfl, rfl, h⟩
          · cases h
      obtain ⟨p, q, rfl, rfl, hb⟩ := h'
      have hu : ∃ u, us = [u] ∧ CRel g nx w p u := by
        match us, hx.len with
        | [u], _ => exact ⟨u, rfl, hx.at_ 0 p u rfl rfl⟩
      have hv : ∃ v, vs = [v] ∧ CRel g nx w q v := by
        match vs, hy.len with
        | [v], _ => exact ⟨v, rfl, hy.at_ 0 q v rfl rfl⟩
      obtain ⟨u, rfl, hu⟩ := hu
      obtain ⟨v, rfl, hv⟩ := hv
      have e : ∀ z : Value, vl ti.td [z] = z := by
        intro z
        cases htd' : ti.td with
        | struct fs cm => exact absurd ⟨fs, cm, htd'⟩ hs
        | _ => rfl
      rw [e, e]
      exact eqc_sound htd hb hu hv D w'
end
end Am
