/-
  slices.Clone at sessions.
-/
import Derived.Test.YtijphjckgdomlaaW1
set_option linter.all false
namespace Am
open Go Go.Proofs
set_option maxRecDepth 10000
set_option maxHeartbeats 400000

theorem clone_ (n m : Nat) (g : Nat → Sess) (hn1 : n ≤ 1048576) :
    TriS Try.prog 22 [.c (.sl 12 n m (sess g))] [] 0
      (fun v s' nx => ∃ (fr : Nat → List CV), (∀ i, i < n → fr i = (g i).cells) ∧ v = .c (.ref 0 12 0 n) ∧ s' = [(0, .arr 45 12 n fr)] ∧ nx = 1) := by
  refine walk tab_ok mixed (noMeths rfl) (C := cfg33) (fn := Try.f22) (c := Try.f22.body.getD .skip) (by kernel_rfl) (by kernel_rfl) (by kernel_rfl) (by kernel_rfl) (by kernel_rfl) 60 ?_
  intro ari shf cmp scmp band beq bnot neg unx wrap slen sat ssub cat bstr toN sub add shift join setf bytes updb updv rng idx isb le3 nz room nil0 catok rune rnext more rstr nid safe tri weak Kx hK F
  cbv
  intro b hb
  cases b with
  | true =>
    cbv
    have h0 : n = 0 := by
      rw [F.nil0] at hb
      exact hb rfl
    subst h0
    refine hK _ _ _ ⟨.c (.ref 0 12 0 0), [(0, .arr 45 12 0 (fun _ => []))], 1, ⟨_, fun i hi => by omega, rfl, rfl, rfl⟩, weak_of ⟨[], [0], []⟩ ⟨?_, ?_, ?_, by simp⟩⟩
    · refine ⟨?_, trivial⟩
      simp [look, resOne, ckV, ckC, mem]
    · simp [ckS, mem]
    · simp [ckN]
  | false =>
    cbv
    have hroom : 0 + n ≤ maxLen ∧ (0 + n) * 112 ≤ 140737488355328 := ⟨by simp only [maxLen]; omega, by omega⟩
    refine ⟨by rw [F.le3]; exact ⟨by decide, by decide, by decide⟩, by rw [F.room, F.add]; exact hroom, ?_⟩
    cbv
    refine hK _ _ _ ⟨.c (.ref 0 12 0 n), [(0, .arr 45 12 n (sess g))], 1, ⟨_, fun i hi => rfl, rfl, rfl, rfl⟩, weak_of ⟨[(0, 1)], [], []⟩ ⟨?_, ?_, ?_, by simp⟩⟩
    · refine ⟨?_, trivial⟩
      simp [look, resOne, ckV, ckC, mem, F.add, real]
    · simp only [F.join, F.shift, F.add]
      refine ⟨by decide, ?_, trivial⟩
      refine ⟨rfl, rfl, rfl, by simp [real], fun i hi => ?_⟩
      exact noIds_ck rfl
    · simp [ckN]
end Am
