/-
  replay.without: the plain law, and the walk.
-/
import Derived.Test.YtijphjckgdomlaaW1
set_option linter.all false
namespace Am
open Go Go.Proofs
set_option maxRecDepth 10000

/-- Birth numbers of those that go: they go themselves, or what they stem from goes. -/
inductive GoneI (p : Sess → Bool) (n : Nat) (g : Nat → Sess) : Int → Prop
  | self (i : Nat) (hi : i < n) (h : p (g i) = true) : GoneI p n g (g i).birth
  | up (i : Nat) (hi : i < n) (h : GoneI p n g (g i).upbirth) (h0 : (g i).upbirth ≠ 0) : GoneI p n g (g i).birth

/-- How many are not marked. -/
def cntN (n : Nat) (g : Nat → Sess) (d : Int → Bool) : Nat := ((List.range n).filter fun i => !d (g i).birth).length
theorem filter_le {α : Type} {P Q : α → Bool} : ∀ {l : List α}, (∀ x ∈ l, Q x = true → P x = true) → (l.filter Q).length ≤ (l.filter P).length := by
  intro l
  induction l with
  | nil => intro _; simp
  | cons x r ih =>
    intro h
    have := ih (fun y hy => h y (List.mem_cons_of_mem _ hy))
    have hx := h x (by simp)
    cases hq : Q x <;> cases hp : P x <;> simp [hq, hp] at hx ⊢ <;> omega
theorem filter_lt {α : Type} {P Q : α → Bool} : ∀ {l : List α}, (∀ x ∈ l, Q x = true → P x = true) → (∃ x ∈ l, P x = true ∧ Q x = false) → (l.filter Q).length < (l.filter P).length := by
  intro l
  induction l with
  | nil => intro _ ⟨x, h, _⟩; simp at h
  | cons x r ih =>
    intro h ⟨y, hy, h1, h2⟩
    have hr : ∀ x ∈ r, Q x = true → P x = true := fun z hz => h z (List.mem_cons_of_mem _ hz)
    have hx := h x (by simp)
    rcases List.mem_cons.1 hy with rfl | hy
    · have := filter_le hr
      simp [h1, h2]; omega
    · have := ih hr ⟨y, hy, h1, h2⟩
      cases hq : Q x <;> cases hp : P x <;> simp [hq, hp] at hx ⊢ <;> omega
theorem cntN_le {n : Nat} {g : Nat → Sess} {d d' : Int → Bool} (h : ∀ b, d b = true → d' b = true) : cntN n g d' ≤ cntN n g d := by
  refine filter_le (fun i _ hq => ?_)
  cases hd : d (g i).birth with
  | false => simp
  | true => simp [h _ hd] at hq
theorem cntN_lt {n : Nat} {g : Nat → Sess} {d d' : Int → Bool} (h : ∀ b, d b = true → d' b = true) {i : Nat} (hi : i < n) (h1 : d (g i).birth = false) (h2 : d' (g i).birth = true) : cntN n g d' < cntN n g d := by
  refine filter_lt (fun i _ hq => ?_) ⟨i, by simpa using hi, by simp [h1], by simp [h2]⟩
  cases hd : d (g i).birth with
  | false => simp
  | true => simp [h _ hd] at hq

/-- A pass marks nothing new: then all are marked. -/
theorem gone_iff {p : Sess → Bool} {n : Nat} {g : Nat → Sess} {d : Int → Bool} (h1 : ∀ b, d b = true → GoneI p n g b) (h2 : ∀ i, i < n → (p (g i) = true ∨ (d (g i).upbirth = true ∧ (g i).upbirth ≠ 0)) → d (g i).birth = true) (b : Int) : d b = true ↔ GoneI p n g b := by
  refine ⟨h1 b, fun h => ?_⟩
  induction h with
  | self i hi h => exact h2 i hi (.inl h)
  | up i hi h h0 ih => exact h2 i hi (.inr ⟨ih, h0⟩)
end Am
