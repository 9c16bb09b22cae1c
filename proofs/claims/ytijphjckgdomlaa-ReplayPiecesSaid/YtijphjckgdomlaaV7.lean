/-
  slices.Clone, slices.ContainsFunc, replay.without over lists of sessions.
-/
import Derived.Test.YtijphjckgdomlaaW3
import Derived.Test.YtijphjckgdomlaaW4
set_option linter.all false
namespace Am
open Go Go.Proofs
set_option maxRecDepth 10000
set_option maxHeartbeats 400000

theorem clone_s (l : List Sess) (n : Nat) (f : Nat → List CV) (h : IsS l n f) (hn : n ≤ 1048576) :
    TriS Try.prog 22 [.c (.sl 12 n 0 f)] [] 0
      (fun v s' nx => ∃ f', IsS l n f' ∧ v = .c (.ref 0 12 0 n) ∧ s' = [(0, .arr 45 12 n f')] ∧ nx = 1) := by
  refine TriS.args (TriS.mono (clone_ n 0 (fun i => l.getD i .zero) hn) ?_) ?_
  · rintro v s nx ⟨fr, h1, rfl, rfl, rfl⟩
    exact ⟨fr, ⟨h.1, h1⟩, rfl, rfl, rfl⟩
  · refine ⟨⟨rfl, rfl, rfl, fun i hi => ?_⟩, trivial⟩
    exact (h.2 i (by omega)).symm

theorem any_s (l : List Sess) (n : Nat) (f : Nat → List CV) (h : IsS l n f) (hn : n ≤ 1048576) (c : FuncId) (xs : List CV) (p : Sess → Bool)
    (hf : ∀ s : Sess, TriS Try.prog c [.agg s.cells, .c (.elp xs 0)] [] 0 (fun v s' nx => v = .c (.v (.bool (p s))) ∧ s' = [] ∧ nx = 0)) :
    TriS Try.prog 32 [.c (.sl 12 n 0 f), .c (.clo c [.elp xs 0])] [] 0 (RetB (l.any p)) := by
  refine TriS.args (TriS.say (containsFunc c xs p hf n 0 (fun i => l.getD i .zero) (by omega)) ?_) ?_
  · rintro v s nx ⟨⟨b, rfl, hb⟩, rfl, rfl⟩
    refine ⟨_, _, _, ⟨b, ?_, rfl, rfl, rfl⟩, weak_of ⟨[], [], []⟩ ⟨by simp [ckE, look, ckV, ckC], trivial, trivial, by simp⟩⟩
    rw [Bool.eq_iff_iff, hb, List.any_eq_true]
    constructor
    · rintro ⟨i, hi, hp⟩
      have hi' : i < l.length := by rw [← h.1]; exact hi
      exact ⟨l[i], List.getElem_mem _, by simpa [List.getD_eq_getElem?_getD, hi'] using hp⟩
    · rintro ⟨x, hx, hp⟩
      obtain ⟨i, hi, rfl⟩ := List.getElem_of_mem hx
      exact ⟨i, by rw [h.1]; exact hi, by simpa [List.getD_eq_getElem?_getD, hi] using hp⟩
  · refine ⟨⟨rfl, rfl, rfl, fun i hi => (h.2 i (by omega)).symm⟩, ?_, trivial⟩
    exact ⟨rfl, ⟨rfl, rfl⟩, trivial⟩

theorem gone_n {p : Sess → Bool} {l : List Sess} {n : Nat} (h : n = l.length) (b : Int) : GoneI p n (fun i => l.getD i .zero) b ↔ Gone p l b := by
  subst h
  have e : ∀ i, i < l.length → l.getD i .zero ∈ l := fun i hi => by simp [List.getD_eq_getElem?_getD, hi]
  constructor
  · intro h
    induction h with
    | self i hi h => exact .self _ (e i hi) h
    | up i hi h h0 ih => exact .up _ (e i hi) ih h0
  · intro h
    induction h with
    | self s hs h =>
      obtain ⟨i, hi, rfl⟩ := List.getElem_of_mem hs
      have := GoneI.self (p := p) (g := fun i => l.getD i .zero) i hi (by simpa [List.getD_eq_getElem?_getD, hi] using h)
      simpa [List.getD_eq_getElem?_getD, hi] using this
    | up s hs h h0 ih =>
      obtain ⟨i, hi, rfl⟩ := List.getElem_of_mem hs
      have := GoneI.up (p := p) (g := fun i => l.getD i .zero) i hi (by simpa [List.getD_eq_getElem?_getD, hi] using ih) (by simpa [List.getD_eq_getElem?_getD, hi] using h0)
      simpa [List.getD_eq_getElem?_getD, hi] using this
open Classical in
theorem wo_kp {p : Sess → Bool} {l : List Sess} {d : Int → Bool} (hd : ∀ b, d b = true ↔ Gone p l b) : wo p l = (kp p (fun i => l.getD i .zero) d l.length).map (fun i => l.getD i .zero) := by
  have e : l = (List.range l.length).map (fun i => l.getD i .zero) := by
    refine List.ext_getElem (by simp) fun i h1 h2 => ?_
    simp [List.getD_eq_getElem?_getD, h1]
  conv => lhs; rw [wo, e, List.filter_map]
  rw [kp]
  congr 1
  refine List.filter_congr fun i hi => ?_
  have hi : i < l.length := by simpa using hi
  have e2 : ((fun s => decide (Stays p ((List.range l.length).map (fun i => l.getD i .zero)) s)) ∘ fun i => l.getD i .zero) i = decide (Stays p l (l.getD i .zero)) := by
    rw [← e]; rfl
  rw [e2, Bool.eq_iff_iff]
  generalize l.getD i .zero = s
  rw [decide_eq_true_iff]
  unfold Stays
  rw [← hd]
  simp only [Bool.and_eq_true, Bool.not_eq_true', Bool.and_eq_false_iff, bne_eq_false_iff_eq]
  cases hds : d s.upbirth with
  | false => simp
  | true => simp [Classical.not_not]

theorem without_s (l : List Sess) (n : Nat) (f : Nat → List CV) (h : IsS l n f) (hn : n ≤ 1048576) (ck bt : Int) (c : FuncId) (xs : List CV) (p : Sess → Bool)
    (hf : ∀ s : Sess, TriS Try.prog c [.agg s.cells, .c (.elp xs 0)] [] 0 (fun v s' nx => v = .c (.v (.bool (p s))) ∧ s' = [] ∧ nx = 0)) :
    TriS Try.prog 34 [.agg (stc ck bt (.sl 12 n 0 f)), .c (.clo c [.elp xs 0])] [] 0
      (fun v s' nx => ∃ n' f', IsS (wo p l) n' f' ∧ v = .agg (stc ck bt (.ref 0 12 0 n')) ∧ s' = [(0, .arr 45 12 n' f')] ∧ nx = 1) := by
  refine TriS.args (TriS.mono (without_ c xs p hf ck bt n 0 (fun i => l.getD i .zero) hn) ?_) ?_
  · rintro v s nx ⟨d, rn, fr, h1, h2, h3, rfl, rfl, rfl⟩
    have hd : ∀ b, d b = true ↔ Gone p l b := fun b => (h1 b).trans (gone_n h.1 b)
    have hw := wo_kp hd
    rw [← h.1] at hw
    refine ⟨rn, fr, ⟨by rw [hw, List.length_map]; exact h2, fun i hi => ?_⟩, rfl, rfl, rfl⟩
    rw [h3 i hi, hw]
    have hi' : i < (kp p (fun i => l.getD i .zero) d n).length := by rw [← h2]; exact hi
    generalize kp p (fun i => l.getD i .zero) d n = q at hi'
    refine congrArg Sess.cells ?_
    rw [List.getD_eq_getElem?_getD (l := q), List.getD_eq_getElem?_getD (l := q.map _), List.getElem?_map, List.getElem?_eq_getElem hi']
    rfl
  · refine ⟨⟨rfl, rfl, ⟨rfl, rfl, rfl, fun i hi => (h.2 i (by omega)).symm⟩, trivial⟩, ?_, trivial⟩
    exact ⟨rfl, ⟨rfl, rfl⟩, trivial⟩
end Am
