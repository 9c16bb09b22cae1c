/-
  lineagekit.Pick, lineageref0.SameSessions, SameState.
-/
import Derived.Test.YtijphjckgdomlaaVa
set_option linter.all false
namespace Am
open Go Go.Proofs
set_option maxRecDepth 10000
set_option maxHeartbeats 1000000

/-- What is handed back: is it so? -/
abbrev RetP (p : Prop) (v : AV) (s : Sto) (nx : Nat) : Prop := ∃ r : Bool, (r = true ↔ p) ∧ v = .c (.lit r) ∧ s = [] ∧ nx = 0
def pickV (k n : Int) : Int := if k.tmod n < 0 then k.tmod n + n else k.tmod n
theorem tmod_range {k n : Int} (hn : 1 ≤ n) : -n < k.tmod n ∧ k.tmod n < n := by
  have h1 := Int.tmod_lt_of_pos k (show 0 < n by omega)
  have h2 := Int.tmod_lt_of_pos (-k) (show 0 < n by omega)
  rw [Int.neg_tmod] at h2
  omega
theorem pickV_range {k n : Int} (hn : 1 ≤ n) : 0 ≤ pickV k n ∧ pickV k n < n := by
  have := tmod_range (k := k) hn
  unfold pickV
  split <;> omega
theorem pick_ (k n : Int) (hn : 1 ≤ n) (hn2 : n < 4611686018427387904) : TriS Try.prog 19 [.c (i64 k), .c (i64 n)] [] 0 (RetI .i64 (pickV k n)) := by
  refine walk tab_ok mixed (noMeths rfl) (C := cfg19) (fn := Try.f19) (c := Try.f19.body.getD .skip) (by kernel_rfl) (by kernel_rfl) (by kernel_rfl) (by kernel_rfl) (by kernel_rfl) 60 ?_
  intro ari shf cmp scmp band beq bnot neg unx wrap slen sat ssub cat bstr toN sub add shift join setf bytes updb updv rng idx isb le3 nz room nil0 catok rune rnext more rstr nid safe tri weak Kx hK F
  have htoN := F.toN
  subst htoN
  cbv
  have hr := tmod_range (k := k) hn
  refine ⟨fun h1 => ?_, fun h1 => ?_⟩ <;> cbv
  · exfalso
    simp only [F.cmp, F.scmp, F.band, F.beq, F.bnot, F.ari, F.shf, F.neg, F.unx, F.wrap, F.slen, F.sat, F.more, F.rune, F.rnext] at h1
    simp [real, ncast, ocast] at h1
    omega
  · refine ⟨by rw [F.nz]; simp only [real]; omega, ?_⟩
    generalize he : ari .rem .i64 k n = q
    have he : q = k.tmod n := by rw [← he, F.ari]; rfl
    cbv
    refine ⟨fun h2 => ?_, fun h2 => ?_⟩ <;> cbv
    · simp only [F.cmp, F.scmp, F.band, F.beq, F.bnot, F.ari, F.shf, F.neg, F.unx, F.wrap, F.slen, F.sat, F.more, F.rune, F.rnext] at h2
      simp [real, ncast, ocast] at h2
      have e : ari .add .i64 q n = pickV k n := by
        rw [F.ari]
        unfold pickV
        rw [← he, if_pos h2]
        exact wrap64 (by omega) (by omega)
      rw [e]
      exact hK _ _ _ (said_plain ⟨_, rfl, rfl, rfl, rfl⟩ rfl)
    · simp only [F.cmp, F.scmp, F.band, F.beq, F.bnot, F.ari, F.shf, F.neg, F.unx, F.wrap, F.slen, F.sat, F.more, F.rune, F.rnext] at h2
      simp [real, ncast, ocast] at h2
      refine hK _ _ _ (said_plain ⟨_, ?_, rfl, rfl, rfl⟩ rfl)
      unfold pickV
      rw [← he, if_neg (by omega)]

theorem sameSessions_ (l l' : List Sess) (n n' : Nat) (f f' : Nat → List CV) (h : IsS l n f) (h' : IsS l' n' f') (hn : n ≤ 1048576) :
    TriS Try.prog 25 [.c (.sl 12 n 0 f), .c (.sl 12 n' 0 f')] [] 0 (RetP (l = l')) := by
  obtain ⟨g, hg⟩ : ∃ g : Nat → Sess, ∀ i, g i = l.getD i .zero := ⟨_, fun _ => rfl⟩
  obtain ⟨g', hg'⟩ : ∃ g : Nat → Sess, ∀ i, g i = l'.getD i .zero := ⟨_, fun _ => rfl⟩
  have hl := h.1
  have hl' := h'.1
  have hat : ∀ k (hk : k < l.length), l[k] = g k := fun k hk => by rw [hg]; simp [List.getD_eq_getElem?_getD, hk]
  have hat' : ∀ k (hk : k < l'.length), l'[k] = g' k := fun k hk => by rw [hg']; simp [List.getD_eq_getElem?_getD, hk]
  refine TriS.args (vs' := [.c (.sl 12 n 0 (sess g)), .c (.sl 12 n' 0 (sess g'))]) ?_ ⟨⟨rfl, rfl, rfl, fun i hi => by rw [h.2 i (by omega), ← hg]⟩, ⟨rfl, rfl, rfl, fun i hi => by rw [h'.2 i (by omega), ← hg']⟩, trivial⟩
  clear h h'
  refine walk tab_ok mixed (noMeths rfl) (C := cfg25) (fn := Try.f25) (c := Try.f25.body.getD .skip) (by kernel_rfl) (by kernel_rfl) (by kernel_rfl) (by kernel_rfl) (by kernel_rfl) 60 ?_
  intro ari shf cmp scmp band beq bnot neg unx wrap slen sat ssub cat bstr toN sub add shift join setf bytes updb updv rng idx isb le3 nz room nil0 catok rune rnext more rstr nid safe tri weak Kx hK F
  have htoN := F.toN
  subst htoN
  cbv
  have no : ∀ (s' : Sto) (nx : Nat), l ≠ l' → Kx (.c (.lit false)) s' nx := fun s' nx h => hK _ _ _ (said_plain ⟨_, by simp [h], rfl, rfl, rfl⟩ rfl)
  refine ⟨fun h1 => ?_, fun h1 => ?_⟩ <;> cbv
  · refine no _ _ fun e => ?_
    rw [F.bnot, F.cmp] at h1
    simp [real] at h1
    rw [e] at hl
    omega
  · rw [F.bnot, F.cmp] at h1
    have h1 : n = n' := by simp [real, ncast, ocast] at h1; omega
    refine ⟨fun mu st => ∃ j : Nat, mu = n - j ∧ j ≤ n ∧ (∀ i, i < j → g i = g' i) ∧ st = ⟨[(0, .c (.sl 12 n 0 (sess g))), (1, .c (.sl 12 n' 0 (sess g'))), (5, .c (i64 j))], [], 0⟩, ⟨_, _, ⟨0, rfl, Nat.zero_le _, fun i hi => by omega, rfl⟩, ?_⟩, ?_⟩
    · cbv
      refine F.say ⟨[], [], []⟩ ⟨?_, ?_, ?_, by simp⟩
      · simp [ckE, look, ckV, ckC, ckCs]
      · simp [ckS]
      · simp [ckN]
    rintro mu _ ⟨j, hmu, hj, hyes, rfl⟩
    cbv
    refine ⟨fun h2 => ?_, fun h2 => ?_⟩ <;> cbv
    · rw [F.cmp] at h2
      have h2 : j < n := by simpa [real, ncast, ocast] using h2
      refine ⟨by rw [F.rng]; exact ⟨by simp, by simpa [real] using h2⟩, by rw [F.rng]; exact ⟨by simp, by simp; omega⟩, ?_⟩
      cbv
      have hx := hat j (by omega)
      have hy := hat' j (by omega)
      generalize hgx : g j = x at hx ⊢
      generalize hgy : g' j = y at hy ⊢
      have hsame : ∀ b : Bool, b = (x.slot == y.slot && (x.birth == y.birth && ((x.upslot == y.upslot && x.upbirth == y.upbirth) && (x.kind == y.kind && (x.user.toList == y.user.toList && (x.label.toList == y.label.toList && (x.scopes == y.scopes && (x.level == y.level && (x.born == y.born && (x.deadline == y.deadline && x.depth == y.depth)))))))))) → (b = true ↔ x = y) := fun b hb => by
        rw [hb, ← Sess.same_iff]
        simp only [Sess.same, Bool.and_assoc]
      refine ⟨fun h3 => ?_, fun h3 => ?_⟩ <;> cbv
      · rw [F.bnot, F.band, F.cmp, F.scmp] at h3
        refine no _ _ fun e => ?_
        have hxy : x = y := by
          rw [← hx, ← hy]
          simp only [e]
        have := (hsame _ rfl).2 hxy
        simp only [real, Bool.not_eq_true'] at h3
        rw [this] at h3
        cases h3
      · rw [F.bnot, F.band, F.cmp, F.scmp] at h3
        simp only [real, Bool.not_eq_false'] at h3
        have hxy : x = y := (hsame _ rfl).1 h3
        refine ⟨n - (j + 1), _, by omega, ⟨j + 1, rfl, h2, fun i hi => ?_, rfl⟩, ?_⟩
        · rcases Nat.lt_succ_iff_lt_or_eq.1 hi with h | h
          · exact hyes i h
          · rw [h, hgx, hgy]; exact hxy
        · cbv
          refine F.say ⟨[], [], []⟩ ⟨?_, ?_, ?_, by simp⟩
          · simp [ckE, look, ckV, ckC, ckCs, F.ari, real, wrapS h2 (show n < 4611686018427387904 by omega)]
          · simp [ckS]
          · simp [ckN]
    · rw [F.cmp] at h2
      have h2 : ¬ j < n := by simpa [real, ncast, ocast] using h2
      refine hK _ _ _ (said_plain ⟨_, ?_, rfl, rfl, rfl⟩ rfl)
      refine ⟨fun _ => List.ext_getElem (by omega) fun i q1 q2 => ?_, fun _ => rfl⟩
      rw [hat i q1, hat' i q2]
      exact hyes i (by omega)

theorem sameState_ (st st' : State) (n n' : Nat) (f f' : Nat → List CV) (h : IsS st.l n f) (h' : IsS st'.l n' f') (hn : n ≤ 1048576) :
    TriS Try.prog 11 [.agg [i64 st.clock, i64 st.births, .sl 12 n 0 f], .agg [i64 st'.clock, i64 st'.births, .sl 12 n' 0 f']] [] 0 (RetP (st = st')) := by
  obtain ⟨ck, bt, l⟩ := st
  obtain ⟨ck', bt', l'⟩ := st'
  simp only at h h'
  refine walk tab_ok mixed (noMeths rfl) (C := cfg11) (fn := Try.f11) (c := Try.f11.body.getD .skip) (by kernel_rfl) (by kernel_rfl) (by kernel_rfl) (by kernel_rfl) (by kernel_rfl) 60 ?_
  intro ari shf cmp scmp band beq bnot neg unx wrap slen sat ssub cat bstr toN sub add shift join setf bytes updb updv rng idx isb le3 nz room nil0 catok rune rnext more rstr nid safe tri weak Kx hK F
  have htoN := F.toN
  subst htoN
  cbv
  have no : ∀ (s' : Sto) (nx : Nat), ¬ (ck = ck' ∧ bt = bt' ∧ l = l') → Kx (.c (.lit false)) s' nx := fun s' nx h => hK _ _ _ (said_plain ⟨_, by simpa using h, rfl, rfl, rfl⟩ rfl)
  refine ⟨fun h1 => ?_, fun h1 => ?_⟩ <;> cbv
  · simp only [F.cmp, F.scmp, F.band, F.beq, F.bnot, F.ari, F.shf, F.neg, F.unx, F.wrap, F.slen, F.sat, F.more, F.rune, F.rnext] at h1
    simp [real, ncast, ocast] at h1
    refine ⟨fun h2 => ?_, fun h2 => ?_⟩ <;> cbv
    · simp only [F.cmp, F.scmp, F.band, F.beq, F.bnot, F.ari, F.shf, F.neg, F.unx, F.wrap, F.slen, F.sat, F.more, F.rune, F.rnext] at h2
      simp [real, ncast, ocast] at h2
      refine F.call (sameSessions_ l l' n n' f f' h h' hn) ?_
      rintro v s2 n2 ⟨r, hr, rfl, rfl, rfl⟩
      refine ⟨F.lent0, ?_⟩
      cases r with
      | true =>
        cbv
        refine hK _ _ _ (said_plain ⟨_, ?_, rfl, rfl, rfl⟩ rfl)
        simp [h1, h2, hr.1 rfl]
      | false =>
        cbv
        refine no _ _ fun ⟨_, _, e⟩ => ?_
        have := hr.2 e
        cases this
    · cbv
      refine no _ _ fun ⟨_, e, _⟩ => ?_
      simp only [F.cmp, F.scmp, F.band, F.beq, F.bnot, F.ari, F.shf, F.neg, F.unx, F.wrap, F.slen, F.sat, F.more, F.rune, F.rnext] at h2
      simp [real, ncast, ocast] at h2
      exact h2 e
  · cbv
    refine no _ _ fun ⟨e, _, _⟩ => ?_
    simp only [F.cmp, F.scmp, F.band, F.beq, F.bnot, F.ari, F.shf, F.neg, F.unx, F.wrap, F.slen, F.sat, F.more, F.rune, F.rnext] at h1
    simp [real, ncast, ocast] at h1
    exact h1 e
end Am
