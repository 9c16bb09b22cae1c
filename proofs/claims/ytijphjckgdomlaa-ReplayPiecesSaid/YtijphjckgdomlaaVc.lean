/-
  lineagelaw24.sound: true of every sound state.
-/
import Derived.Test.YtijphjckgdomlaaVb
set_option linter.all false
namespace Am
open Go Go.Proofs
set_option maxRecDepth 10000
set_option maxHeartbeats 1000000

theorem sound_ (st : State) (hS : Sound st) (n : Nat) (f : Nat → List CV) (h : IsS st.l n f) : TriS Try.prog 17 [.agg [i64 st.clock, i64 st.births, .sl 12 n 0 f]] [] 0 (RetB true) := by
  obtain ⟨ck, bt, l⟩ := st
  simp only at h
  have hn32 : n ≤ 32 := by rw [h.1]; exact hS.len
  obtain ⟨g, hg⟩ : ∃ g : Nat → Sess, ∀ i, g i = l.getD i .zero := ⟨_, fun _ => rfl⟩
  have hl := h.1
  have hat : ∀ k, k < n → l[k]? = some (g k) := fun k hk => by
    have : k < l.length := by omega
    rw [hg, List.getD_eq_getElem?_getD, List.getElem?_eq_getElem this]; rfl
  have hmem : ∀ k, k < n → g k ∈ l := fun k hk => List.mem_of_getElem? (hat k hk)
  have hget : ∀ k (hk : k < l.length), l[k] = g k := fun k hk => by
    have := hat k (by omega)
    rw [List.getElem?_eq_getElem hk] at this
    injection this
  have hinc : ∀ i j, i < j → j < n → (g i).birth < (g j).birth := fun i j hij hj => by
    have := List.pairwise_iff_getElem.1 hS.inc i j (by simp only; omega) (by simp only; omega) hij
    simpa only [hget] using this
  have hslot : ∀ i j, i < j → j < n → (g i).slot ≠ (g j).slot := fun i j hij hj => by
    have := List.pairwise_iff_getElem.1 hS.slots i j (by simp only; omega) (by simp only; omega) hij
    simpa only [hget] using this
  have hall : ∀ k, k < n → Ok1 ⟨ck, bt, l⟩ (g k) := fun k hk => hS.all _ (hmem k hk)
  have h' : IsS l n (sess g) := ⟨hl, fun i _ => by rw [← hg]⟩
  refine TriS.args (vs' := [.agg [i64 ck, i64 bt, .sl 12 n 0 (sess g)]]) ?_ ⟨⟨rfl, rfl, ⟨rfl, rfl, rfl, fun i hi => by rw [h.2 i (by omega), ← hg]⟩, trivial⟩, trivial⟩
  clear h
  refine walk tab_ok mixed (noMeths rfl) (C := cfg17) (fn := Try.f17) (c := Try.f17.body.getD .skip) (by kernel_rfl) (by kernel_rfl) (by kernel_rfl) (by kernel_rfl) (by kernel_rfl) 60 ?_
  intro ari shf cmp scmp band beq bnot neg unx wrap slen sat ssub cat bstr toN sub add shift join setf bytes updb updv rng idx isb le3 nz room nil0 catok rune rnext more rstr nid safe tri weak Kx hK F
  have htoN := F.toN
  subst htoN
  cbv
  refine ⟨fun h0 => ?_, fun h0 => ?_⟩ <;> cbv
  · exfalso
    simp only [F.cmp, F.scmp, F.band, F.beq, F.bnot, F.ari, F.shf, F.neg, F.unx, F.wrap, F.slen, F.sat, F.more, F.rune, F.rnext] at h0
    simp [real, ncast, ocast] at h0
    omega
  refine ⟨fun mu s => ∃ i : Nat, mu = n - i ∧ i ≤ n ∧ s = ⟨[(1, .c (.ptr 0 0)), (3, .c (.sl 12 n 0 (sess g))), (4, .c (i64 i))], [(0, .box [i64 ck, i64 bt, .sl 12 n 0 (sess g)])], 1⟩, ⟨_, _, ⟨0, rfl, Nat.zero_le _, rfl⟩, ?_⟩, ?_⟩
  · cbv
    refine F.say ⟨[(0, 0)], [], []⟩ ⟨?_, ?_, ?_, by simp⟩
    · simp [ckE, look, ckV, ckC, ckCs, mem]
    · simp [ckS, look, ckO, ckC, ckCs, mem]
    · simp [ckN]
  rintro mu _ ⟨i, hmu, hi, rfl⟩
  cbv
  refine ⟨fun h1 => ?_, fun h1 => ?_⟩ <;> cbv
  · rw [F.cmp] at h1
    have h1 : i < n := by simpa [real, ncast, ocast] using h1
    have ri : rng n (Int.ofNat i) := by rw [F.rng]; exact ⟨by simp, by simp; omega⟩
    have hmu' : n - (i + 1) < mu := by omega
    obtain ⟨b1, b2, live, born, born0, dl, dep, root, up⟩ := hall i h1
    simp only at b2 live born up
    refine ⟨ri, ?_⟩
    cbv
    have es : 0 < i → ari .sub .i64 (Int.ofNat i) 1 = Int.ofNat (i - 1) := fun h => by
      rw [F.ari]
      simp only [ocast]
      exact (wrap64 (by omega) (by omega)).trans (by omega)
    refine ⟨fun c1 => ?_, fun c1 => ?_⟩ <;> cbv
    · refine ⟨ri, ?_⟩
      cbv
      refine ⟨fun c2 => ?_, fun c2 => ?_⟩ <;> cbv
      · refine ⟨fun c3 => ?_, fun c3 => ?_⟩ <;> cbv
        · have hi0 : 0 < i := by rw [F.cmp] at c3; simpa [real, ncast, ocast] using c3
          rw [es hi0]
          refine ⟨ri, by rw [F.rng]; exact ⟨by simp, by simp; omega⟩, ?_⟩
          cbv
          refine ⟨fun c4 => ?_, fun c4 => ?_⟩ <;> cbv
          · refine ⟨ri, ?_⟩
            cbv
            refine ⟨fun c5 => ?_, fun c5 => ?_⟩ <;> cbv
            · refine ⟨ri, ?_⟩
              cbv
              refine ⟨fun c6 => ?_, fun c6 => ?_⟩ <;> cbv
              · exfalso
                simp only [F.cmp, F.scmp, F.band, F.beq, F.bnot, F.ari, F.shf, F.neg, F.unx, F.wrap, F.slen, F.sat, F.more, F.rune, F.rnext] at c6
                simp [real, ncast, ocast] at c6
                omega
              · refine ⟨fun mu s => ∃ k : Nat, mu = i - k ∧ k ≤ i ∧ s = ⟨[(1, .c (.ptr 0 0)), (3, .c (.sl 12 n 0 (sess g))), (4, .c (i64 i)), (5, .c (i64 k))], [(0, .box [i64 ck, i64 bt, .sl 12 n 0 (sess g)])], 1⟩, ⟨_, _, ⟨0, rfl, Nat.zero_le _, rfl⟩, ?_⟩, ?_⟩
                · cbv
                  refine F.say ⟨[(0, 0)], [], []⟩ ⟨?_, ?_, ?_, by simp⟩
                  · simp [ckE, look, ckV, ckC, ckCs, mem]
                  · simp [ckS, look, ckO, ckC, ckCs, mem]
                  · simp [ckN]
                rintro mu2 _ ⟨k, hmu2, hk, rfl⟩
                cbv
                refine ⟨fun d1 => ?_, fun d1 => ?_⟩ <;> cbv
                · rw [F.cmp] at d1
                  have d1 : k < i := by simpa [real, ncast, ocast] using d1
                  refine ⟨by rw [F.rng]; exact ⟨by simp, by simp; omega⟩, ri, ?_⟩
                  cbv
                  refine ⟨fun d2 => ?_, fun d2 => ?_⟩ <;> cbv
                  · exfalso
                    simp only [F.cmp, F.scmp, F.band, F.beq, F.bnot, F.ari, F.shf, F.neg, F.unx, F.wrap, F.slen, F.sat, F.more, F.rune, F.rnext] at d2
                    simp [real, ncast, ocast] at d2
                    exact hslot k i d1 h1 d2
                  · refine ⟨i - (k + 1), _, by omega, ⟨k + 1, rfl, d1, rfl⟩, ?_⟩
                    cbv
                    refine F.say ⟨[(0, 0)], [], []⟩ ⟨?_, ?_, ?_, by simp⟩
                    · simp [ckE, look, ckV, ckC, ckCs, mem, F.ari, real, wrapS d1 (show i < 4611686018427387904 by omega)]
                    · simp [ckS, look, ckO, ckC, ckCs, mem]
                    · simp [ckN]
                · refine ⟨ri, ?_⟩
                  cbv
                  refine ⟨fun d3 => ?_, fun d3 => ?_⟩ <;> cbv
                  · rw [F.bnot, F.cmp] at d3
                    simp [real] at d3
                    obtain ⟨u1, p0, u2, u3, u4, u5⟩ := up d3
                    have hex : ∃ k p, k < i ∧ l[k]? = some p ∧ p.birth = (g i).upbirth ∧ p.slot = (g i).upslot := by
                      obtain ⟨k0, hk0, rfl⟩ := List.getElem_of_mem u2
                      refine ⟨k0, l[k0], ?_, List.getElem?_eq_getElem hk0, u3, u4⟩
                      rcases Nat.lt_trichotomy k0 i with h | h | h
                      · exact h
                      · exfalso
                        rw [hget, h] at u3
                        omega
                      · exfalso
                        have := hinc i k0 h (by omega)
                        rw [hget] at u3
                        omega
                    refine F.call (parent_ l n (sess g) h' (by omega) i h1 (g i) (hat i h1) hex) ?_
                    rintro v s2 n2 ⟨p, hp, hpb, rfl, rfl, rfl⟩
                    refine ⟨F.lent0, ?_⟩
                    have hpp : p = p0 := by
                      obtain ⟨k1, hk1, rfl⟩ := List.getElem_of_mem hp
                      obtain ⟨k2, hk2, rfl⟩ := List.getElem_of_mem u2
                      rcases Nat.lt_trichotomy k1 k2 with h | h | h
                      · exfalso
                        have := hinc k1 k2 h (by omega)
                        rw [hget] at u3 hpb
                        omega
                      · subst h; rfl
                      · exfalso
                        have := hinc k2 k1 h (by omega)
                        rw [hget] at u3 hpb
                        omega
                    cbv
                    refine ⟨ri, ?_⟩
                    cbv
                    refine F.call (narrower_ (g i) p (by rw [hpp]; exact u5) (hS.all p hp).dep ⟨born0, by have := hS.clk.2; simp only at this; omega⟩) ?_
                    rintro v s2 n2 ⟨r, rfl, rfl, rfl, rfl⟩
                    refine ⟨F.lent0, ?_⟩
                    cbv
                    refine ⟨n - (i + 1), _, hmu', ⟨i + 1, rfl, h1, rfl⟩, ?_⟩
                    cbv
                    refine F.say ⟨[(0, 0)], [], []⟩ ⟨?_, ?_, ?_, by simp⟩
                    · simp [ckE, look, ckV, ckC, ckCs, mem, F.ari, real, wrapS h1 (show n < 4611686018427387904 by omega)]
                    · simp [ckS, look, ckO, ckC, ckCs, mem]
                    · simp [ckN]
                  · rw [F.bnot, F.cmp] at d3
                    simp [real] at d3
                    obtain ⟨q1, q2⟩ := root d3
                    refine ⟨ri, ?_⟩
                    cbv
                    refine ⟨fun d4 => ?_, fun d4 => ?_⟩ <;> cbv
                    · refine ⟨ri, ?_⟩
                      cbv
                      refine ⟨fun d5 => ?_, fun d5 => ?_⟩ <;> cbv
                      · exfalso
                        rw [F.bnot, F.cmp] at d5
                        simp [real] at d5
                        exact d5 q2
                      · refine ⟨n - (i + 1), _, hmu', ⟨i + 1, rfl, h1, rfl⟩, ?_⟩
                        cbv
                        refine F.say ⟨[(0, 0)], [], []⟩ ⟨?_, ?_, ?_, by simp⟩
                        · simp [ckE, look, ckV, ckC, ckCs, mem, F.ari, real, wrapS h1 (show n < 4611686018427387904 by omega)]
                        · simp [ckS, look, ckO, ckC, ckCs, mem]
                        · simp [ckN]
                    · exfalso
                      rw [F.bnot, F.cmp] at d4
                      simp [real] at d4
                      exact d4 q1
            · exfalso
              simp only [F.cmp, F.scmp, F.band, F.beq, F.bnot, F.ari, F.shf, F.neg, F.unx, F.wrap, F.slen, F.sat, F.more, F.rune, F.rnext] at c5
              simp [real, ncast, ocast] at c5
              omega
          · exfalso
            rw [F.cmp] at c4
            have := hinc (i - 1) i (by omega) h1
            simp [real] at c4
            omega
        · refine ⟨ri, ?_⟩
          cbv
          refine ⟨fun c5 => ?_, fun c5 => ?_⟩ <;> cbv
          · refine ⟨ri, ?_⟩
            cbv
            refine ⟨fun c6 => ?_, fun c6 => ?_⟩ <;> cbv
            · exfalso
              simp only [F.cmp, F.scmp, F.band, F.beq, F.bnot, F.ari, F.shf, F.neg, F.unx, F.wrap, F.slen, F.sat, F.more, F.rune, F.rnext] at c6
              simp [real, ncast, ocast] at c6
              omega
            · refine ⟨fun mu s => ∃ k : Nat, mu = i - k ∧ k ≤ i ∧ s = ⟨[(1, .c (.ptr 0 0)), (3, .c (.sl 12 n 0 (sess g))), (4, .c (i64 i)), (5, .c (i64 k))], [(0, .box [i64 ck, i64 bt, .sl 12 n 0 (sess g)])], 1⟩, ⟨_, _, ⟨0, rfl, Nat.zero_le _, rfl⟩, ?_⟩, ?_⟩
              · cbv
                refine F.say ⟨[(0, 0)], [], []⟩ ⟨?_, ?_, ?_, by simp⟩
                · simp [ckE, look, ckV, ckC, ckCs, mem]
                · simp [ckS, look, ckO, ckC, ckCs, mem]
                · simp [ckN]
              rintro mu2 _ ⟨k, hmu2, hk, rfl⟩
              cbv
              refine ⟨fun d1 => ?_, fun d1 => ?_⟩ <;> cbv
              · rw [F.cmp] at d1
                have d1 : k < i := by simpa [real, ncast, ocast] using d1
                refine ⟨by rw [F.rng]; exact ⟨by simp, by simp; omega⟩, ri, ?_⟩
                cbv
                refine ⟨fun d2 => ?_, fun d2 => ?_⟩ <;> cbv
                · exfalso
                  simp only [F.cmp, F.scmp, F.band, F.beq, F.bnot, F.ari, F.shf, F.neg, F.unx, F.wrap, F.slen, F.sat, F.more, F.rune, F.rnext] at d2
                  simp [real, ncast, ocast] at d2
                  exact hslot k i d1 h1 d2
                · refine ⟨i - (k + 1), _, by omega, ⟨k + 1, rfl, d1, rfl⟩, ?_⟩
                  cbv
                  refine F.say ⟨[(0, 0)], [], []⟩ ⟨?_, ?_, ?_, by simp⟩
                  · simp [ckE, look, ckV, ckC, ckCs, mem, F.ari, real, wrapS d1 (show i < 4611686018427387904 by omega)]
                  · simp [ckS, look, ckO, ckC, ckCs, mem]
                  · simp [ckN]
              · refine ⟨ri, ?_⟩
                cbv
                refine ⟨fun d3 => ?_, fun d3 => ?_⟩ <;> cbv
                · rw [F.bnot, F.cmp] at d3
                  simp [real] at d3
                  obtain ⟨u1, p0, u2, u3, u4, u5⟩ := up d3
                  have hex : ∃ k p, k < i ∧ l[k]? = some p ∧ p.birth = (g i).upbirth ∧ p.slot = (g i).upslot := by
                    obtain ⟨k0, hk0, rfl⟩ := List.getElem_of_mem u2
                    refine ⟨k0, l[k0], ?_, List.getElem?_eq_getElem hk0, u3, u4⟩
                    rcases Nat.lt_trichotomy k0 i with h | h | h
                    · exact h
                    · exfalso
                      rw [hget, h] at u3
                      omega
                    · exfalso
                      have := hinc i k0 h (by omega)
                      rw [hget] at u3
                      omega
                  refine F.call (parent_ l n (sess g) h' (by omega) i h1 (g i) (hat i h1) hex) ?_
                  rintro v s2 n2 ⟨p, hp, hpb, rfl, rfl, rfl⟩
                  refine ⟨F.lent0, ?_⟩
                  have hpp : p = p0 := by
                    obtain ⟨k1, hk1, rfl⟩ := List.getElem_of_mem hp
                    obtain ⟨k2, hk2, rfl⟩ := List.getElem_of_mem u2
                    rcases Nat.lt_trichotomy k1 k2 with h | h | h
                    · exfalso
                      have := hinc k1 k2 h (by omega)
                      rw [hget] at u3 hpb
                      omega
                    · subst h; rfl
                    · exfalso
                      have := hinc k2 k1 h (by omega)
                      rw [hget] at u3 hpb
                      omega
                  cbv
                  refine ⟨ri, ?_⟩
                  cbv
                  refine F.call (narrower_ (g i) p (by rw [hpp]; exact u5) (hS.all p hp).dep ⟨born0, by have := hS.clk.2; simp only at this; omega⟩) ?_
                  rintro v s2 n2 ⟨r, rfl, rfl, rfl, rfl⟩
                  refine ⟨F.lent0, ?_⟩
                  cbv
                  refine ⟨n - (i + 1), _, hmu', ⟨i + 1, rfl, h1, rfl⟩, ?_⟩
                  cbv
                  refine F.say ⟨[(0, 0)], [], []⟩ ⟨?_, ?_, ?_, by simp⟩
                  · simp [ckE, look, ckV, ckC, ckCs, mem, F.ari, real, wrapS h1 (show n < 4611686018427387904 by omega)]
                  · simp [ckS, look, ckO, ckC, ckCs, mem]
                  · simp [ckN]
                · rw [F.bnot, F.cmp] at d3
                  simp [real] at d3
                  obtain ⟨q1, q2⟩ := root d3
                  refine ⟨ri, ?_⟩
                  cbv
                  refine ⟨fun d4 => ?_, fun d4 => ?_⟩ <;> cbv
                  · refine ⟨ri, ?_⟩
                    cbv
                    refine ⟨fun d5 => ?_, fun d5 => ?_⟩ <;> cbv
                    · exfalso
                      rw [F.bnot, F.cmp] at d5
                      simp [real] at d5
                      exact d5 q2
                    · refine ⟨n - (i + 1), _, hmu', ⟨i + 1, rfl, h1, rfl⟩, ?_⟩
                      cbv
                      refine F.say ⟨[(0, 0)], [], []⟩ ⟨?_, ?_, ?_, by simp⟩
                      · simp [ckE, look, ckV, ckC, ckCs, mem, F.ari, real, wrapS h1 (show n < 4611686018427387904 by omega)]
                      · simp [ckS, look, ckO, ckC, ckCs, mem]
                      · simp [ckN]
                  · exfalso
                    rw [F.bnot, F.cmp] at d4
                    simp [real] at d4
                    exact d4 q1
          · exfalso
            simp only [F.cmp, F.scmp, F.band, F.beq, F.bnot, F.ari, F.shf, F.neg, F.unx, F.wrap, F.slen, F.sat, F.more, F.rune, F.rnext] at c5
            simp [real, ncast, ocast] at c5
            omega
      · exfalso
        simp only [F.cmp, F.scmp, F.band, F.beq, F.bnot, F.ari, F.shf, F.neg, F.unx, F.wrap, F.slen, F.sat, F.more, F.rune, F.rnext] at c2
        simp [real, ncast, ocast] at c2
        omega
    · exfalso
      simp only [F.cmp, F.scmp, F.band, F.beq, F.bnot, F.ari, F.shf, F.neg, F.unx, F.wrap, F.slen, F.sat, F.more, F.rune, F.rnext] at c1
      simp [real, ncast, ocast] at c1
      omega
  · refine hK _ _ _ (said_plain ⟨_, rfl, rfl, rfl, rfl⟩ rfl)
end Am
