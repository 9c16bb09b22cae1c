/-
  names.Name.
-/
import Derived.Test.YtijphjckgdomlaaV2
set_option linter.all false
namespace Am
open Go Go.Proofs
set_option maxRecDepth 10000
set_option maxHeartbeats 400000

def okAt (i : Nat) (c : UInt8) : Bool := isLetter c || (i != 0 && isRest c)
theorem nameOk_iff (s : ByteArray) : nameOk s = true ↔ 1 ≤ s.size ∧ s.size ≤ 32 ∧ ∀ (i : Nat) (h : i < s.data.toList.length), okAt i s.data.toList[i] = true := by
  unfold nameOk
  rw [ByteArray.toList_eq]
  have e : s.size = s.data.toList.length := rfl
  rw [e]
  cases s.data.toList with
  | nil => simp
  | cons c r =>
    simp only [Bool.and_eq_true, List.all_eq_true, decide_eq_true_eq, List.length_cons]
    constructor
    · rintro ⟨⟨h1, h2⟩, h3⟩
      refine ⟨by omega, by omega, fun i hi => ?_⟩
      cases i with
      | zero => simp [okAt, h1]
      | succ i =>
        have hi : i < r.length := by omega
        simp [okAt, h2 _ (List.getElem_mem hi)]
    · rintro ⟨_, h2, h3⟩
      refine ⟨⟨?_, fun x hx => ?_⟩, by omega⟩
      · have := h3 0 (by omega)
        simpa [okAt] using this
      · obtain ⟨i, hi, rfl⟩ := List.getElem_of_mem hx
        have := h3 (i + 1) (by omega)
        simp only [List.getElem_cons_succ, okAt, Bool.or_eq_true, Bool.and_eq_true] at this
        rcases this with h | h
        · simp [isRest, h]
        · exact h.2

/-- A rune at a place, and the byte there. -/
theorem okAt_rune (s : ByteArray) (pos : Nat) (h : pos < s.size) :
    (okAt pos (s.data.toList[pos]'h) = true ↔ ((97 ≤ ((Utf8.decode s pos).1 : Int) ∧ ((Utf8.decode s pos).1 : Int) ≤ 122) ∨ (pos ≠ 0 ∧ inDigs ((Utf8.decode s pos).1 : Int) = true))) ∧ (okAt pos (s.data.toList[pos]'h) = true → (Utf8.decode s pos).2 = 1) := by
  have e : (s.data.toList[pos]'h) = s[pos]'h := rfl
  rw [e]
  by_cases ha : (s[pos]'h).toNat < 128
  · have hd := decode_ascii s pos h ha
    rw [hd]
    refine ⟨?_, fun _ => rfl⟩
    generalize hb : s[pos]'h = b at ha ⊢
    simp only [okAt, isRest, isLetter, inDigs, Bool.or_eq_true, Bool.and_eq_true, decide_eq_true_eq, UInt8.le_iff_toNat_le, bne_iff_ne, ne_eq, beq_iff_eq, ← UInt8.toNat_inj]
    simp
    omega
  · have hd := decode_high s pos h (by omega)
    have hn : okAt pos (s[pos]'h) = false := by
      generalize hb : s[pos]'h = b at ha ⊢
      simp only [okAt, isRest, isLetter]
      rw [Bool.eq_false_iff]
      simp only [ne_eq, Bool.or_eq_true, Bool.and_eq_true, decide_eq_true_eq, UInt8.le_iff_toNat_le, bne_iff_ne, beq_iff_eq, ← UInt8.toNat_inj]
      simp
      omega
    rw [hn]
    refine ⟨?_, by simp⟩
    simp [inDigs]
    omega

theorem name_ (s : ByteArray) : TriS Try.prog 82 [.c (str s)] [] 0 (RetB (nameOk s)) := by
  refine walk tab_ok mixed (noMeths rfl) (C := cfg82) (fn := Try.f82) (c := Try.f82.body.getD .skip) (by kernel_rfl) (by kernel_rfl) (by kernel_rfl) (by kernel_rfl) (by kernel_rfl) 60 ?_
  intro ari shf cmp scmp band beq bnot neg unx wrap slen sat ssub cat bstr toN sub add shift join setf bytes updb updv rng idx isb le3 nz room nil0 catok rune rnext more rstr nid safe tri weak Kx hK F
  have htoN := F.toN
  subst htoN
  cbv
  have no : ∀ (s' : Sto) (nx : Nat), nameOk s = false → Kx (.c (.lit false)) s' nx := fun s' nx h => hK _ _ _ (said_plain ⟨_, h.symm, rfl, rfl, rfl⟩ rfl)
  have emp : ∀ q, scmp .eql s ⟨#[]⟩ = q → q = decide (s.size = 0) := fun q hq => by
    rw [← hq, F.scmp]
    simp only [real]
    rw [ByteArray.toList_eq, ByteArray.toList_eq, Bool.eq_iff_iff]
    simp only [beq_iff_eq, decide_eq_true_eq]
    show s.data.toList = [] ↔ s.data.toList.length = 0
    rw [List.length_eq_zero_iff]
  refine ⟨fun h1 => ?_, fun h1 => ?_⟩
  · cbv
    have h1 := emp _ h1
    have h1 : ¬ s.size = 0 := by simpa using h1
    refine ⟨fun h2 => ?_, fun h2 => ?_⟩ <;> cbv
    · refine no _ _ ?_
      rw [F.cmp, F.slen] at h2
      simp [real] at h2
      rw [Bool.eq_false_iff]
      intro h
      have := nameOk_iff s |>.1 h
      omega
    · rw [F.cmp, F.slen] at h2
      simp [real] at h2
      refine ⟨fun mu st => ∃ pos, mu = s.size - pos ∧ pos ≤ s.size ∧ (∀ (i : Nat) (h : i < s.data.toList.length), i < pos → okAt i s.data.toList[i] = true) ∧ st = ⟨[(14, .c (.ptr 0 0))], [(0, .sit s pos)], 1⟩, ⟨_, _, ⟨0, rfl, by omega, fun i _ hi => by omega, rfl⟩, ?_⟩, ?_⟩
      · cbv
        refine F.say ⟨[(0, 0)], [], []⟩ ⟨?_, ?_, ?_, by simp⟩
        · simp [ckE, look, ckV, ckC, mem]
        · simp [ckS, look, mem, ckO]
        · simp [ckN]
      rintro mu _ ⟨pos, hmu, hp, hok, rfl⟩
      cbv
      refine ⟨fun hm => ?_, fun hm => ?_⟩ <;> cbv
      · rw [F.more] at hm
        have hm : pos < s.size := by simpa [real] using hm
        obtain ⟨k1, k2⟩ := okAt_rune s pos hm
        generalize hru : rune s pos = ru
        have hru : ru = ((Utf8.decode s pos).1 : Int) := by rw [← hru, F.rune]; rfl
        rw [← hru] at k1
        refine ⟨fun h3 => ?_, fun h3 => ?_⟩ <;> cbv
        · simp only [F.cmp, F.scmp, F.band, F.beq, F.bnot, F.ari, F.shf, F.neg, F.unx, F.wrap, F.slen, F.sat, F.more, F.rune, F.rnext] at h3
          simp [real, ncast, ocast] at h3
          refine ⟨fun h4 => ?_, fun h4 => ?_⟩ <;> cbv
          · simp only [F.cmp, F.scmp, F.band, F.beq, F.bnot, F.ari, F.shf, F.neg, F.unx, F.wrap, F.slen, F.sat, F.more, F.rune, F.rnext] at h4
            simp [real, ncast, ocast] at h4
            refine ⟨fun h5 => ?_, fun h5 => ?_⟩ <;> cbv
            · rw [F.cmp] at h5
              have h5 : pos ≠ 0 := by simp [real] at h5; omega
              refine F.call (containsRune ru) ?_
              rintro v s2 n2 ⟨r6, hr6, rfl, rfl, rfl⟩
              refine ⟨F.lent0, ?_⟩
              cases r6 <;> cbv
              · refine no _ _ ?_
                rw [Bool.eq_false_iff]
                intro h
                have := k1.1 ((nameOk_iff s |>.1 h).2.2 pos hm)
                rcases this with h | h
                · omega
                · first | exact h.1 h5 | (rw [h.2] at hr6; cases hr6)
              · have k3 := k1.2 (by first | exact .inl ⟨h3, h4⟩ | exact .inr ⟨h5, hr6.symm⟩)
                refine ⟨s.size - (pos + 1), _, by omega, ⟨pos + 1, rfl, by omega, fun i h hi => ?_, rfl⟩, ?_⟩
                · rcases Nat.lt_succ_iff_lt_or_eq.1 hi with h6 | h6
                  · exact hok i h h6
                  · subst h6; exact k3
                · cbv
                  refine F.say ⟨[(0, 0)], [], []⟩ ⟨?_, ?_, ?_, by simp⟩
                  · simp [ckE, look, ckV, ckC, mem]
                  · simp [ckS, look, mem, ckO, F.rnext, real, k2 k3]
                  · simp [ckN]
            · rw [F.cmp] at h5
              have h5 : pos = 0 := by simp [real] at h5; omega
              refine no _ _ ?_
              rw [Bool.eq_false_iff]
              intro h
              have := k1.1 ((nameOk_iff s |>.1 h).2.2 pos hm)
              rcases this with h | h
              · omega
              · first | exact h.1 h5 | (rw [h.2] at hr6; cases hr6)
          · simp only [F.cmp, F.scmp, F.band, F.beq, F.bnot, F.ari, F.shf, F.neg, F.unx, F.wrap, F.slen, F.sat, F.more, F.rune, F.rnext] at h4
            simp [real, ncast, ocast] at h4
            have k3 := k1.2 (by first | exact .inl ⟨h3, h4⟩ | exact .inr ⟨h5, hr6.symm⟩)
            refine ⟨s.size - (pos + 1), _, by omega, ⟨pos + 1, rfl, by omega, fun i h hi => ?_, rfl⟩, ?_⟩
            · rcases Nat.lt_succ_iff_lt_or_eq.1 hi with h6 | h6
              · exact hok i h h6
              · subst h6; exact k3
            · cbv
              refine F.say ⟨[(0, 0)], [], []⟩ ⟨?_, ?_, ?_, by simp⟩
              · simp [ckE, look, ckV, ckC, mem]
              · simp [ckS, look, mem, ckO, F.rnext, real, k2 k3]
              · simp [ckN]
        · simp only [F.cmp, F.scmp, F.band, F.beq, F.bnot, F.ari, F.shf, F.neg, F.unx, F.wrap, F.slen, F.sat, F.more, F.rune, F.rnext] at h3
          simp [real, ncast, ocast] at h3
          refine ⟨fun h5 => ?_, fun h5 => ?_⟩ <;> cbv
          · rw [F.cmp] at h5
            have h5 : pos ≠ 0 := by simp [real] at h5; omega
            refine F.call (containsRune ru) ?_
            rintro v s2 n2 ⟨r6, hr6, rfl, rfl, rfl⟩
            refine ⟨F.lent0, ?_⟩
            cases r6 <;> cbv
            · refine no _ _ ?_
              rw [Bool.eq_false_iff]
              intro h
              have := k1.1 ((nameOk_iff s |>.1 h).2.2 pos hm)
              rcases this with h | h
              · omega
              · first | exact h.1 h5 | (rw [h.2] at hr6; cases hr6)
            · have k3 := k1.2 (by first | exact .inl ⟨h3, h4⟩ | exact .inr ⟨h5, hr6.symm⟩)
              refine ⟨s.size - (pos + 1), _, by omega, ⟨pos + 1, rfl, by omega, fun i h hi => ?_, rfl⟩, ?_⟩
              · rcases Nat.lt_succ_iff_lt_or_eq.1 hi with h6 | h6
                · exact hok i h h6
                · subst h6; exact k3
              · cbv
                refine F.say ⟨[(0, 0)], [], []⟩ ⟨?_, ?_, ?_, by simp⟩
                · simp [ckE, look, ckV, ckC, mem]
                · simp [ckS, look, mem, ckO, F.rnext, real, k2 k3]
                · simp [ckN]
          · rw [F.cmp] at h5
            have h5 : pos = 0 := by simp [real] at h5; omega
            refine no _ _ ?_
            rw [Bool.eq_false_iff]
            intro h
            have := k1.1 ((nameOk_iff s |>.1 h).2.2 pos hm)
            rcases this with h | h
            · omega
            · first | exact h.1 h5 | (rw [h.2] at hr6; cases hr6)
      · rw [F.more] at hm
        have hm : ¬ pos < s.size := by simpa [real] using hm
        have q1 : 1 ≤ s.size := by omega
        have q2 : s.size ≤ 32 := by simp only [ncast] at h2; omega
        have q3 : nameOk s = true := (nameOk_iff s).2 ⟨q1, q2, fun i h => hok i h (by have : i < s.size := h; omega)⟩
        exact hK _ _ _ (said_plain ⟨_, q3.symm, rfl, rfl, rfl⟩ rfl)
  · cbv
    refine no _ _ ?_
    have h1 := emp _ h1
    have h1 : s.size = 0 := by simpa using h1
    rw [Bool.eq_false_iff]
    intro h
    have := nameOk_iff s |>.1 h
    omega
end Am
