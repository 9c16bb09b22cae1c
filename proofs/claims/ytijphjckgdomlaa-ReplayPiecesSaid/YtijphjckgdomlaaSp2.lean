/-
  What statements 3 and 4 say of the plain law: what has ended never lives again; pieces.
-/
import Derived.Test.YtijphjckgdomlaaSp
set_option linter.all false
namespace Am

/-- Of a state behind an event: sessions that were there, or the new one. -/
theorem apply_mem {st : State} {e : Ev} (h : (apply st e).2 = 0) : st.births ≤ (apply st e).1.births ∧ ∀ s ∈ (apply st e).1.l, s ∈ st.l ∨ s.birth = st.births + 1 := by
  unfold apply at h ⊢
  split at h; · simp at h
  rename_i hm
  rw [if_neg hm]
  split at h
  · rename_i hk
    rw [if_pos hk]
    split at h
    · rename_i hr
      rw [if_pos hr]
      refine ⟨by simp only; omega, fun s hs => ?_⟩
      rcases List.mem_append.1 hs with hs | hs
      · exact .inl hs
      · simp only [List.mem_singleton] at hs
        subst hs
        unfold refuse at hr
        split at hr; · omega
        exact .inr (by omega)
    · rename_i hr; exact absurd h hr
  rename_i hk
  rw [if_neg hk]
  split at h
  · rename_i hk1
    rw [if_pos hk1]
    split at h
    · rename_i hr
      rw [if_pos hr]
      exact ⟨Int.le_refl _, fun s hs => .inl (wo_sub s hs)⟩
    · simp at h
  rename_i hk1
  rw [if_neg hk1]
  split at h
  · simp at h
  rename_i hc
  rw [if_neg hc]
  exact ⟨Int.le_refl _, fun s hs => .inl (wo_sub s hs)⟩

/-- Birth numbers that have ended. -/
def Over (st : State) (E : List Int) : Prop := ∀ b ∈ E, b ≤ st.births ∧ ∀ s ∈ st.l, s.birth ≠ b
theorem over_step {st : State} {e : Ev} {E : List Int} (h : (apply st e).2 = 0) (hE : Over st E) : Over (apply st e).1 E := fun b hb => by
  obtain ⟨h1, h2⟩ := apply_mem h
  obtain ⟨e1, e2⟩ := hE b hb
  refine ⟨by omega, fun s hs he => ?_⟩
  rcases h2 s hs with h3 | h3
  · exact e2 s h3 he
  · omega

theorem apply_sound {st : State} {e : Ev} (h : Sound st) : Sound (apply st e).1 := sound_apply h e
theorem sound_all : ∀ (l : List Ev) {st : State}, Sound st → Sound (all st l).1 := by
  intro l
  induction l with
  | nil => intro st h; exact h
  | cons e r ih =>
    intro st h
    simp only [all]
    split
    · exact ih (sound_apply h e)
    · exact h
theorem all_le : ∀ (l : List Ev) (st : State), (all st l).2 ≤ l.length := by
  intro l
  induction l with
  | nil => intro st; exact Nat.le_refl _
  | cons e r ih =>
    intro st
    simp only [all]
    split
    · have := ih (apply st e).1; simp only [List.length_cons]; omega
    · simp
theorem all_append : ∀ (l m : List Ev) (st : State), (all st l).2 = l.length → all st (l ++ m) = ((all (all st l).1 m).1, l.length + (all (all st l).1 m).2) := by
  intro l
  induction l with
  | nil => intro m st _; simp [all]
  | cons e r ih =>
    intro m st h
    simp only [all] at h
    split at h
    · rename_i he
      simp only [List.cons_append, all, if_pos he]
      rw [ih m _ (by simpa using h)]
      simp only [List.length_cons]
      congr 1
      omega
    · simp at h
/-- One event behind others. -/
theorem all_snoc (l : List Ev) (e : Ev) (st : State) (h : (all st l).2 = l.length) : all st (l ++ [e]) = if (apply (all st l).1 e).2 = 0 then ((apply (all st l).1 e).1, l.length + 1) else ((all st l).1, l.length) := by
  rw [all_append l [e] st h]
  simp only [all]
  split <;> rfl
/-- What follows one that is refused says nothing. -/
theorem all_cut : ∀ (l m : List Ev) (st : State), (all st l).2 < l.length → all st (l ++ m) = all st l := by
  intro l
  induction l with
  | nil => intro m st h; simp [all] at h
  | cons e r ih =>
    intro m st h
    simp only [List.cons_append, all] at h ⊢
    split
    · rename_i he
      rw [if_pos he] at h
      rw [ih m _ (by simpa using h)]
    · rfl

theorem gone_mono {p q : Sess → Bool} {l m : List Sess} (hp : ∀ s ∈ l, p s = true → q s = true) (hl : ∀ s ∈ l, s ∈ m) {b : Int} (h : Gone p l b) : Gone q m b := by
  induction h with
  | self s hs h => exact .self s (hl s hs) (hp s hs h)
  | up s hs h h0 ih => exact .up s (hl s hs) ih h0
theorem gone_split {p q : Sess → Bool} {l : List Sess} {b : Int} (h : Gone q l b) : Gone q (wo p l) b ∨ Gone p l b := by
  have hn : ∀ s ∈ l, s ∈ wo p l ∨ Gone p l s.birth := fun s hs => by
    by_cases h : Stays p l s
    · exact .inl (mem_wo.2 ⟨hs, h⟩)
    · refine .inr ?_
      cases hp : p s with
      | true => exact .self s hs hp
      | false =>
        have h1 : Gone p l s.upbirth ∧ s.upbirth ≠ 0 := Classical.not_not.1 fun hg => h ⟨hp, hg⟩
        exact .up s hs h1.1 h1.2
  induction h with
  | self s hs h =>
    rcases hn s hs with h1 | h1
    · exact .inl (.self s h1 h)
    · exact .inr h1
  | up s hs h h0 ih =>
    rcases hn s hs with h1 | h1
    · rcases ih with ih | ih
      · exact .inl (.up s h1 ih h0)
      · exact .inr (.up s hs ih h0)
    · exact .inr h1
open Classical in
/-- First some, then more, is more at once. -/
theorem wo_wo {p q : Sess → Bool} {l : List Sess} (hpq : ∀ s ∈ l, p s = true → q s = true) : wo q (wo p l) = wo q l := by
  unfold wo
  rw [List.filter_filter]
  refine List.filter_congr fun s hs => ?_
  have e : (Stays q (wo p l) s ∧ Stays p l s) ↔ Stays q l s := by
    constructor
    · rintro ⟨⟨h1, h2⟩, h3, h4⟩
      refine ⟨h1, fun ⟨h, h0⟩ => ?_⟩
      rcases gone_split (p := p) h with h | h
      · exact h2 ⟨h, h0⟩
      · exact h4 ⟨h, h0⟩
    · rintro ⟨h1, h2⟩
      refine ⟨⟨h1, fun ⟨h, h0⟩ => h2 ⟨gone_mono (fun _ _ h => h) wo_sub h, h0⟩⟩, ?_, fun ⟨h, h0⟩ => h2 ⟨gone_mono hpq (fun _ h => h) h, h0⟩⟩
      cases hp : p s with
      | false => rfl
      | true => rw [hpq s hs hp] at h1; cases h1
  show (decide (Stays q (wo p l) s) && decide (Stays p l s)) = decide (Stays q l s)
  rw [Bool.eq_iff_iff]
  simpa using e

def tickEv (t : Int) : Ev := ⟨2, .zero, 0, t⟩
theorem same_refl (s : Sess) : s.same s = true := Sess.same_iff.2 rfl
theorem tick_may {t : Int} (h1 : 1 ≤ t) (h2 : t ≤ 1073741824) : evMay (tickEv t) = true := by
  simp [evMay, tickEv, same_refl, frm_iff, h1, h2]
theorem apply_tick {st : State} {t : Int} (h1 : 1 ≤ t) (h2 : t ≤ 1073741824) : apply st (tickEv t) = if st.clock < 0 ∨ 1099511627776 - t < st.clock then (.zero, 12) else (⟨st.clock + t, st.births, wo (fun s => decide (s.deadline ≤ st.clock + t)) st.l⟩, 0) := by
  have hm := tick_may h1 h2
  unfold apply
  rw [if_neg (by simp [hm])]
  rfl
/-- Ticks cut in two. -/
theorem tick_two {st : State} {t h : Int} (h0 : 0 ≤ st.clock) (h1 : 1 ≤ h) (h2 : h < t) (h3 : t ≤ 1073741824) (hc : st.clock + t ≤ 1099511627776) :
    (apply st (tickEv t)).2 = 0 ∧ (apply st (tickEv h)).2 = 0 ∧ (apply (apply st (tickEv h)).1 (tickEv (t - h))).2 = 0 ∧ (apply (apply st (tickEv h)).1 (tickEv (t - h))).1 = (apply st (tickEv t)).1 := by
  have e1 := apply_tick (st := st) (t := t) (by omega) h3
  rw [if_neg (by omega)] at e1
  have e2 := apply_tick (st := st) (t := h) h1 (by omega)
  rw [if_neg (by omega)] at e2
  have e3 := apply_tick (st := ⟨st.clock + h, st.births, wo (fun s => decide (s.deadline ≤ st.clock + h)) st.l⟩) (t := t - h) (by omega) (by omega)
  rw [if_neg (by simp only; omega)] at e3
  rw [e1, e2, e3]
  have hs : st.clock + h + (t - h) = st.clock + t := by omega
  refine ⟨rfl, rfl, rfl, ?_⟩
  simp only [hs]
  rw [wo_wo]
  intro s _ h
  simp only [decide_eq_true_eq] at h ⊢
  omega
end Am
