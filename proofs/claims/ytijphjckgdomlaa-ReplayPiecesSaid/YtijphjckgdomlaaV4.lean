/-
  event.of: what an event is.
-/
import Derived.Test.YtijphjckgdomlaaV1
import Derived.Test.YtijphjckgdomlaaV3
set_option linter.all false
namespace Am
open Go Go.Proofs
set_option maxRecDepth 10000
set_option maxHeartbeats 400000

theorem meths_of {P : Program} {C : Cfg} (h : ∀ p ∈ C.meths, ∀ (v : Value) (w : World), (method (P.types.size + Made.depth) p.1 v C.mname).run P w = .ok (p.2, v) w) : MethsOk P C := fun t f hl v w => h _ (look_mem hl) v w
theorem meths48 : MethsOk Try.prog cfg48 := by
  refine meths_of fun p hp => ?_
  simp only [cfg48, List.mem_cons, List.not_mem_nil, or_false] at hp
  rcases hp with rfl | rfl | rfl <;> (intro v w; kernel_rfl)

/-- What an event is, as an interface value. -/
def kindIf (e : Ev) (x : CV) : Prop := (e.kind = 0 ∧ x = .ifa 85 e.s.cells) ∨ (e.kind = 1 ∧ x = .ifa 88 [i64 e.birth]) ∨ (e.kind = 2 ∧ x = .ifa 90 [i64 e.ticks])

theorem of_ (e : Ev) : TriS Try.prog 48 [.agg e.cells] [] 0 (fun v s' nx => ∃ x, ((evMay e = true ∧ kindIf e x) ∨ (evMay e = false ∧ x = .v .nilIface)) ∧ v = .c x ∧ s' = [] ∧ nx = 0) := by
  refine walk tab_ok mixed meths48 (C := cfg48) (fn := Try.f48) (c := Try.f48.body.getD .skip) (by kernel_rfl) (by kernel_rfl) (by kernel_rfl) (by kernel_rfl) (by kernel_rfl) 60 ?_
  intro ari shf cmp scmp band beq bnot neg unx wrap slen sat ssub cat bstr toN sub add shift join setf bytes updb updv rng idx isb le3 nz room nil0 catok rune rnext more rstr nid safe tri weak Kx hK F
  have htoN := F.toN
  subst htoN
  cbv
  have no : ∀ (s' : Sto) (nx : Nat), evMay e = false → Kx (.c (.v .nilIface)) s' nx := fun s' nx h => hK _ _ _ (said_plain ⟨_, .inr ⟨h, rfl⟩, rfl, rfl, rfl⟩ rfl)
  have yes : ∀ (x : CV) (s' : Sto) (nx : Nat), evMay e = true → kindIf e x → noId x = true → Kx (.c x) s' nx := fun x s' nx h hk hn => hK _ _ _ (said_plain ⟨_, .inl ⟨h, hk⟩, rfl, rfl, rfl⟩ hn)
  have zs : ∀ b : Bool, b = (e.s.slot == 0 && (e.s.birth == 0 && ((e.s.upslot == 0 && e.s.upbirth == 0) && (e.s.kind == 0 && (e.s.user.toList == nob.toList && (e.s.label.toList == nob.toList && (e.s.scopes == 0 && (e.s.level == 0 && (e.s.born == 0 && (e.s.deadline == 0 && e.s.depth == 0))))))))))
      → b = e.s.same .zero := fun b hb => by
    rw [hb]
    simp only [Sess.same, Sess.zero, Bool.and_assoc]
  refine ⟨fun h0 => ?_, fun h0 => ?_⟩ <;> cbv
  · simp only [F.cmp, F.scmp, F.band, F.beq, F.bnot, F.ari, F.shf, F.neg, F.unx, F.wrap, F.slen, F.sat, F.more, F.rune, F.rnext] at h0
    simp [real, ncast, ocast] at h0
    refine ⟨fun h3 => ?_, fun h3 => ?_⟩ <;> cbv
    · rw [F.bnot, F.band, F.cmp, F.scmp] at h3
      simp [real, ncast] at h3
      refine F.call (may_birth e.s name_) ?_
      rintro v s2 n2 ⟨r1, hr1, rfl, rfl, rfl⟩
      refine ⟨F.lent0, ?_⟩
      cases r1 <;> cbv
      · refine no _ _ ?_
        simp [evMay, h0, ← hr1]
      · refine yes _ _ _ ?_ (.inl ⟨h0, rfl⟩) rfl
        simp [evMay, h0, h3, ← hr1]
    · rw [F.bnot, F.band, F.cmp, F.scmp] at h3
      simp [real, ncast] at h3
      refine no _ _ ?_
      simp [evMay, h0]
      intro q1 q2
      rcases h3 with h3 | h3
      · exact absurd q1 h3
      · exact absurd q2 h3
  · simp only [F.cmp, F.scmp, F.band, F.beq, F.bnot, F.ari, F.shf, F.neg, F.unx, F.wrap, F.slen, F.sat, F.more, F.rune, F.rnext] at h0
    simp [real, ncast, ocast] at h0
    have em : ∀ b : Bool, evMay e = true → e.s.same .zero = true := fun _ h => by
      unfold evMay at h
      rw [if_neg h0] at h
      split at h
      · simp only [Bool.and_eq_true] at h; exact h.1.1
      · split at h
        · simp only [Bool.and_eq_true] at h; exact h.1.1
        · cases h
    refine ⟨fun h1 => ?_, fun h1 => ?_⟩ <;> cbv
    · simp only [F.cmp, F.scmp, F.band, F.beq, F.bnot, F.ari, F.shf, F.neg, F.unx, F.wrap, F.slen, F.sat, F.more, F.rune, F.rnext] at h1
      simp [real, ncast, ocast] at h1
      refine ⟨fun h3 => ?_, fun h3 => ?_⟩ <;> cbv
      · rw [F.bnot, F.band, F.cmp, F.scmp] at h3
        simp only [real, Bool.not_eq_false', Bool.and_eq_true] at h3
        obtain ⟨_, hzs, _, ht⟩ := h3
        have hz : e.s.same .zero = true := by
          rw [← zs _ rfl]
          simp only [Bool.and_eq_true]
          exact hzs
        refine F.call (may_revoke e.birth) ?_
        rintro v s2 n2 ⟨r1, hr1, rfl, rfl, rfl⟩
        refine ⟨F.lent0, ?_⟩
        cases r1 <;> cbv
        · refine no _ _ ?_
          simp [evMay, h1, ← hr1]
        · refine yes _ _ _ ?_ (.inr (.inl ⟨h1, rfl⟩)) rfl
          simp only [beq_iff_eq] at ht
          simp [evMay, h1, hz, ht, ← hr1]
      · rw [F.bnot, F.band, F.cmp, F.scmp] at h3
        simp only [real, Bool.not_false, Bool.not_eq_eq_eq_not, Bool.not_true] at h3
        refine no _ _ ?_
        rw [Bool.eq_false_iff]
        intro hc
        have hz := em true hc
        rw [← zs _ rfl] at hz
        rw [hz] at h3
        simp at h3
        simp [evMay, h1] at hc
        exact h3 hc.1.2
    · simp only [F.cmp, F.scmp, F.band, F.beq, F.bnot, F.ari, F.shf, F.neg, F.unx, F.wrap, F.slen, F.sat, F.more, F.rune, F.rnext] at h1
      simp [real, ncast, ocast] at h1
      refine ⟨fun h2 => ?_, fun h2 => ?_⟩ <;> cbv
      · simp only [F.cmp, F.scmp, F.band, F.beq, F.bnot, F.ari, F.shf, F.neg, F.unx, F.wrap, F.slen, F.sat, F.more, F.rune, F.rnext] at h2
        simp [real, ncast, ocast] at h2
        refine ⟨fun h3 => ?_, fun h3 => ?_⟩ <;> cbv
        · rw [F.bnot, F.band, F.cmp, F.scmp] at h3
          simp only [real, Bool.not_eq_false', Bool.and_eq_true] at h3
          obtain ⟨_, hzs, ht, _⟩ := h3
          have hz : e.s.same .zero = true := by
            rw [← zs _ rfl]
            simp only [Bool.and_eq_true]
            exact hzs
          refine F.call (may_tick e.ticks) ?_
          rintro v s2 n2 ⟨r1, hr1, rfl, rfl, rfl⟩
          refine ⟨F.lent0, ?_⟩
          cases r1 <;> cbv
          · refine no _ _ ?_
            simp [evMay, h2, ← hr1]
          · refine yes _ _ _ ?_ (.inr (.inr ⟨h2, rfl⟩)) rfl
            simp only [beq_iff_eq] at ht
            simp [evMay, h2, hz, ht, ← hr1]
        · rw [F.bnot, F.band, F.cmp, F.scmp] at h3
          simp only [real, Bool.not_false, Bool.not_eq_eq_eq_not, Bool.not_true] at h3
          refine no _ _ ?_
          rw [Bool.eq_false_iff]
          intro hc
          have hz := em true hc
          rw [← zs _ rfl] at hz
          rw [hz] at h3
          simp at h3
          simp [evMay, h2] at hc
          exact h3 hc.1.2
      · simp only [F.cmp, F.scmp, F.band, F.beq, F.bnot, F.ari, F.shf, F.neg, F.unx, F.wrap, F.slen, F.sat, F.more, F.rune, F.rnext] at h2
        simp [real, ncast, ocast] at h2
        refine no _ _ ?_
        simp [evMay, h0, h1, h2]
end Am
