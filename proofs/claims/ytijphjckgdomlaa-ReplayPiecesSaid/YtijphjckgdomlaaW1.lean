/-
  slices.IndexFunc, slices.ContainsFunc at sessions; the closures of Apply.
-/
import Derived.Test.YtijphjckgdomlaaDat
set_option linter.all false
namespace Am
open Go Go.Proofs
set_option maxRecDepth 10000

theorem indexFunc (f : FuncId) (xs : List CV) (p : Sess → Bool) (hf : ∀ s : Sess, TriS Try.prog f [.agg s.cells, .c (.elp xs 0)] [] 0 (fun v s' nx => v = .c (.v (.bool (p s))) ∧ s' = [] ∧ nx = 0)) (n m : Nat) (g : Nat → Sess) (hn : n < 4611686018427387904) :
    TriS Try.prog 55 [.c (.sl 12 n m (sess g)), .c (.clo f [.elp xs 0])] [] 0
      (fun v s' nx => (∃ k : Int, v = .c (i64 k) ∧ (0 ≤ k ↔ ∃ i, i < n ∧ p (g i) = true)) ∧ s' = [] ∧ nx = 0) := by
  refine walk tab_ok mixed (noMeths rfl) (C := cfg33) (fn := Try.f55) (c := Try.f55.body.getD .skip) (by kernel_rfl) (by kernel_rfl) (by kernel_rfl) (by kernel_rfl) (by kernel_rfl) 40 ?_
  intro ari shf cmp scmp band beq bnot neg unx wrap slen sat ssub cat bstr toN sub add shift join setf bytes updb updv rng idx isb le3 nz room nil0 catok rune rnext more rstr nid safe tri weak Kx hK F
  have htoN := F.toN
  cbv
  refine ⟨fun j s => ∃ k, j = n - k ∧ k ≤ n ∧ (∀ i, i < k → p (g i) = false) ∧ s = ⟨[(0, .c (.sl 12 n m (fun i => (g i).cells))), (1, .c (.clo f [.elp xs 0])), (7, .c (i64 n)), (8, .c (i64 k))], [], 0⟩, ⟨n, _, ⟨0, rfl, Nat.zero_le _, fun i hi => by omega, rfl⟩, ?_⟩, ?_⟩
  · rw [F.weak]
    exact weak_of ⟨[], [], []⟩ ⟨by simp [ckE, look, ckV, ckC, ckCs], trivial, trivial, by simp⟩
  rintro mu _ ⟨k, hmu, hk, hno, rfl⟩
  cbv
  refine ⟨fun hlt => ?_, fun hge => ?_⟩
  · have hlt : k < n := by
      rw [F.cmp] at hlt
      simpa [real] using hlt
    subst htoN
    refine ⟨by rw [F.rng]; exact ⟨by simp, by simpa [real] using hlt⟩, ?_⟩
    cbv
    refine F.call (hf (g k)) ?_
    rintro v s2 n2 ⟨rfl, rfl, rfl⟩
    refine ⟨F.lent0, ?_⟩
    cbv
    refine ⟨fun hp => ?_, fun hp => ?_⟩
    · exact hK _ _ _ (said_plain ⟨⟨k, rfl, by simp; exact ⟨k, hlt, hp⟩⟩, rfl, rfl⟩ rfl)
    · refine ⟨n - (k + 1), _, by omega, ⟨k + 1, rfl, hlt, fun i hi => ?_, rfl⟩, ?_⟩
      · rcases Nat.lt_succ_iff_lt_or_eq.1 hi with h | h
        · exact hno i h
        · rw [h]; exact hp
      · cbv
        rw [F.weak, F.ari]
        refine weak_of ⟨[], [], []⟩ ⟨?_, trivial, trivial, by simp⟩
        simp [ckE, look, ckV, ckC, ckCs, real, wrapS hlt hn]
  · have hge : ¬ k < n := by
      rw [F.cmp] at hge
      simpa [real] using hge
    refine hK _ _ _ (said_plain ⟨⟨-1, rfl, by simp; intro i hi; exact hno i (by omega)⟩, rfl, rfl⟩ rfl)

theorem containsFunc (f : FuncId) (xs : List CV) (p : Sess → Bool) (hf : ∀ s : Sess, TriS Try.prog f [.agg s.cells, .c (.elp xs 0)] [] 0 (fun v s' nx => v = .c (.v (.bool (p s))) ∧ s' = [] ∧ nx = 0)) (n m : Nat) (g : Nat → Sess) (hn : n < 4611686018427387904) :
    TriS Try.prog 32 [.c (.sl 12 n m (sess g)), .c (.clo f [.elp xs 0])] [] 0
      (fun v s' nx => (∃ b : Bool, v = .c (.v (.bool b)) ∧ (b = true ↔ ∃ i, i < n ∧ p (g i) = true)) ∧ s' = [] ∧ nx = 0) := by
  refine walk tab_ok mixed (noMeths rfl) (C := cfg33) (fn := Try.f32) (c := Try.f32.body.getD .skip) (by kernel_rfl) (by kernel_rfl) (by kernel_rfl) (by kernel_rfl) (by kernel_rfl) 40 ?_
  intro ari shf cmp scmp band beq bnot neg unx wrap slen sat ssub cat bstr toN sub add shift join setf bytes updb updv rng idx isb le3 nz room nil0 catok rune rnext more rstr nid safe tri weak Kx hK F
  cbv
  refine F.call (indexFunc f xs p hf n m g hn) ?_
  rintro v s2 n2 ⟨⟨k, rfl, hk⟩, rfl, rfl⟩
  refine ⟨F.lent0, ?_⟩
  cbv
  rw [F.cmp]
  exact hK _ _ _ (said_plain ⟨⟨_, rfl, by simpa [real] using hk⟩, rfl, rfl⟩ rfl)

theorem apply1 (s : Sess) (e : Ev) : TriS Try.prog 33 [.agg s.cells, .c (.elp e.cells 0)] [] 0 (fun v s' nx => v = .c (.v (.bool (s.birth == e.birth))) ∧ s' = [] ∧ nx = 0) := by
  refine walk tab_ok mixed (noMeths rfl) (C := cfg33) (fn := Try.f33) (c := Try.f33.body.getD .skip) (by kernel_rfl) (by kernel_rfl) (by kernel_rfl) (by kernel_rfl) (by kernel_rfl) 40 ?_
  intro ari shf cmp scmp band beq bnot neg unx wrap slen sat ssub cat bstr toN sub add shift join setf bytes updb updv rng idx isb le3 nz room nil0 catok rune rnext more rstr nid safe tri weak Kx hK F
  cbv
  rw [F.cmp]
  exact hK _ _ _ (said_plain ⟨rfl, rfl, rfl⟩ rfl)
theorem apply2 (s : Sess) (e : Ev) : TriS Try.prog 35 [.agg s.cells, .c (.elp e.cells 0)] [] 0 (fun v s' nx => v = .c (.v (.bool (s.birth == e.birth))) ∧ s' = [] ∧ nx = 0) := by
  refine walk tab_ok mixed (noMeths rfl) (C := cfg33) (fn := Try.f35) (c := Try.f35.body.getD .skip) (by kernel_rfl) (by kernel_rfl) (by kernel_rfl) (by kernel_rfl) (by kernel_rfl) 40 ?_
  intro ari shf cmp scmp band beq bnot neg unx wrap slen sat ssub cat bstr toN sub add shift join setf bytes updb updv rng idx isb le3 nz room nil0 catok rune rnext more rstr nid safe tri weak Kx hK F
  cbv
  rw [F.cmp]
  exact hK _ _ _ (said_plain ⟨rfl, rfl, rfl⟩ rfl)
theorem apply3 (s : Sess) (clock births : Int) (r : CV) : TriS Try.prog 36 [.agg s.cells, .c (.elp [i64 clock, i64 births, r] 0)] [] 0 (fun v s' nx => v = .c (.v (.bool (decide (s.deadline ≤ clock)))) ∧ s' = [] ∧ nx = 0) := by
  refine walk tab_ok mixed (noMeths rfl) (C := cfg33) (fn := Try.f36) (c := Try.f36.body.getD .skip) (by kernel_rfl) (by kernel_rfl) (by kernel_rfl) (by kernel_rfl) (by kernel_rfl) 40 ?_
  intro ari shf cmp scmp band beq bnot neg unx wrap slen sat ssub cat bstr toN sub add shift join setf bytes updb updv rng idx isb le3 nz room nil0 catok rune rnext more rstr nid safe tri weak Kx hK F
  cbv
  rw [F.cmp]
  exact hK _ _ _ (said_plain ⟨rfl, rfl, rfl⟩ rfl)
end Am
