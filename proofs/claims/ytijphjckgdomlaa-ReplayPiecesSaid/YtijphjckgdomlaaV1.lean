/-
  event.from, the kinds' may.
-/
import Derived.Test.YtijphjckgdomlaaDat
set_option linter.all false
namespace Am
open Go Go.Proofs
set_option maxRecDepth 10000
set_option maxHeartbeats 400000

theorem from_ (n lo hi : Int) : TriS Try.prog 81 [.c (i64 n), .c (i64 lo), .c (i64 hi)] [] 0 (RetB (frm n lo hi)) := by
  refine walk tab_ok mixed (noMeths rfl) (C := cfg81) (fn := Try.f81) (c := Try.f81.body.getD .skip) (by kernel_rfl) (by kernel_rfl) (by kernel_rfl) (by kernel_rfl) (by kernel_rfl) 60 ?_
  intro ari shf cmp scmp band beq bnot neg unx wrap slen sat ssub cat bstr toN sub add shift join setf bytes updb updv rng idx isb le3 nz room nil0 catok rune rnext more rstr nid safe tri weak Kx hK F
  have htoN := F.toN
  subst htoN
  cbv
  all_goals (first | (refine ⟨fun h1 => ?_, fun h1 => ?_⟩ <;> cbv) | skip)
  all_goals (first | refine hK _ _ _ (said_plain ⟨_, ?_, rfl, rfl, rfl⟩ rfl) | refine hK _ _ _ (said_bool ⟨_, ?_, rfl, rfl, rfl⟩))
  all_goals (try simp only [F.cmp, F.scmp, F.band, F.beq, F.bnot, F.ari, F.shf, F.neg, F.unx, F.wrap, F.slen, F.sat, F.more, F.rune, F.rnext, real] at h1)
  all_goals (try simp only [F.cmp, F.scmp, F.band, F.beq, F.bnot, F.ari, F.shf, F.neg, F.unx, F.wrap, F.slen, F.sat, F.more, F.rune, F.rnext, real])
  · simp at h1; simp [frm, h1]
  · simp at h1; simp [frm]; intro h; omega
theorem within_ (a b : Int) : TriS Try.prog 54 [.c (u64 a), .c (u64 b)] [] 0 (RetB (within a b)) := by
  refine walk tab_ok mixed (noMeths rfl) (C := cfg54) (fn := Try.f54) (c := Try.f54.body.getD .skip) (by kernel_rfl) (by kernel_rfl) (by kernel_rfl) (by kernel_rfl) (by kernel_rfl) 60 ?_
  intro ari shf cmp scmp band beq bnot neg unx wrap slen sat ssub cat bstr toN sub add shift join setf bytes updb updv rng idx isb le3 nz room nil0 catok rune rnext more rstr nid safe tri weak Kx hK F
  have htoN := F.toN
  subst htoN
  cbv
  all_goals (first | refine hK _ _ _ (said_plain ⟨_, ?_, rfl, rfl, rfl⟩ rfl) | refine hK _ _ _ (said_bool ⟨_, ?_, rfl, rfl, rfl⟩))
  all_goals (try simp only [F.cmp, F.scmp, F.band, F.beq, F.bnot, F.ari, F.shf, F.neg, F.unx, F.wrap, F.slen, F.sat, F.more, F.rune, F.rnext, real])
  unfold within
  have e : IntKind.u64.bits = 64 := rfl
  rw [e]
  have h := (BitVec.ofInt 64 a &&& ~~~BitVec.ofInt 64 b).isLt
  rw [wrapU64 (by omega) (by omega), Bool.eq_iff_iff]
  simp only [beq_iff_eq]
  constructor
  · intro h; apply BitVec.eq_of_toNat_eq; simpa using h
  · intro h; rw [h]; rfl
theorem may_revoke (b : Int) : TriS Try.prog 91 [.agg [i64 b]] [] 0 (RetB (frm b 1 1048576)) := by
  refine walk tab_ok mixed (noMeths rfl) (C := cfg91) (fn := Try.f91) (c := Try.f91.body.getD .skip) (by kernel_rfl) (by kernel_rfl) (by kernel_rfl) (by kernel_rfl) (by kernel_rfl) 60 ?_
  intro ari shf cmp scmp band beq bnot neg unx wrap slen sat ssub cat bstr toN sub add shift join setf bytes updb updv rng idx isb le3 nz room nil0 catok rune rnext more rstr nid safe tri weak Kx hK F
  have htoN := F.toN
  subst htoN
  cbv
  refine F.call (from_ _ _ _) ?_
  rintro v s2 n2 ⟨r, hr, rfl, rfl, rfl⟩
  refine ⟨F.lent0, ?_⟩
  cases r <;> cbv
  all_goals exact hK _ _ _ (said_plain ⟨_, hr, rfl, rfl, rfl⟩ rfl)
theorem may_tick (b : Int) : TriS Try.prog 92 [.agg [i64 b]] [] 0 (RetB (frm b 1 1073741824)) := by
  refine walk tab_ok mixed (noMeths rfl) (C := cfg92) (fn := Try.f92) (c := Try.f92.body.getD .skip) (by kernel_rfl) (by kernel_rfl) (by kernel_rfl) (by kernel_rfl) (by kernel_rfl) 60 ?_
  intro ari shf cmp scmp band beq bnot neg unx wrap slen sat ssub cat bstr toN sub add shift join setf bytes updb updv rng idx isb le3 nz room nil0 catok rune rnext more rstr nid safe tri weak Kx hK F
  have htoN := F.toN
  subst htoN
  cbv
  refine F.call (from_ _ _ _) ?_
  rintro v s2 n2 ⟨r, hr, rfl, rfl, rfl⟩
  refine ⟨F.lent0, ?_⟩
  cases r <;> cbv
  all_goals exact hK _ _ _ (said_plain ⟨_, hr, rfl, rfl, rfl⟩ rfl)

/-- A birth: up to the name of the user, up to its end. -/
theorem may_birth (s : Sess) (hN : ∀ t : ByteArray, TriS Try.prog 82 [.c (str t)] [] 0 (RetB (nameOk t))) : TriS Try.prog 80 [.agg s.cells] [] 0 (RetB (birthMay s)) := by
  refine walk tab_ok mixed (noMeths rfl) (C := cfg80) (fn := Try.f80) (c := Try.f80.body.getD .skip) (by kernel_rfl) (by kernel_rfl) (by kernel_rfl) (by kernel_rfl) (by kernel_rfl) 60 ?_
  intro ari shf cmp scmp band beq bnot neg unx wrap slen sat ssub cat bstr toN sub add shift join setf bytes updb updv rng idx isb le3 nz room nil0 catok rune rnext more rstr nid safe tri weak Kx hK F
  have htoN := F.toN
  subst htoN
  cbv
  refine F.call (from_ _ _ _) ?_
  rintro v s2 n2 ⟨r1, hr1, rfl, rfl, rfl⟩
  refine ⟨F.lent0, ?_⟩
  cases r1 <;> cbv
  · exact hK _ _ _ (said_plain ⟨_, (by simp [birthMay, ← hr1]), rfl, rfl, rfl⟩ rfl)
  refine F.call (from_ _ _ _) ?_
  rintro v s2 n2 ⟨r2, hr2, rfl, rfl, rfl⟩
  refine ⟨F.lent0, ?_⟩
  cases r2 <;> cbv
  · exact hK _ _ _ (said_plain ⟨_, (by simp [birthMay, ← hr2]), rfl, rfl, rfl⟩ rfl)
  refine F.call (hN _) ?_
  rintro v s2 n2 ⟨r3, hr3, rfl, rfl, rfl⟩
  refine ⟨F.lent0, ?_⟩
  cases r3 <;> cbv
  · exact hK _ _ _ (said_plain ⟨_, (by simp [birthMay, ← hr3]), rfl, rfl, rfl⟩ rfl)
  refine F.call (from_ _ _ _) ?_
  rintro v s2 n2 ⟨r4, hr4, rfl, rfl, rfl⟩
  refine ⟨F.lent0, ?_⟩
  cases r4 <;> cbv
  · exact hK _ _ _ (said_plain ⟨_, (by simp [birthMay, ← hr4]), rfl, rfl, rfl⟩ rfl)
  refine F.call (from_ _ _ _) ?_
  rintro v s2 n2 ⟨r5, hr5, rfl, rfl, rfl⟩
  refine ⟨F.lent0, ?_⟩
  cases r5 <;> cbv
  · exact hK _ _ _ (said_plain ⟨_, (by simp [birthMay, ← hr5]), rfl, rfl, rfl⟩ rfl)
  have b5 := frm_iff.1 hr5.symm
  have e1 : ari .add .i64 s.born 1 = s.born + 1 := by rw [F.ari]; exact wrap64 (by omega) (by omega)
  rw [e1]
  refine F.call (from_ _ _ _) ?_
  rintro v s2 n2 ⟨r6, hr6, rfl, rfl, rfl⟩
  refine ⟨F.lent0, ?_⟩
  cases r6 <;> cbv
  · exact hK _ _ _ (said_plain ⟨_, (by simp [birthMay, ← hr6]), rfl, rfl, rfl⟩ rfl)
  have b2 := frm_iff.1 hr2.symm
  have e2 : ari .sub .i64 s.birth 1 = s.birth - 1 := by rw [F.ari]; exact wrap64 (by omega) (by omega)
  have b6 := frm_iff.1 hr6.symm
  have e3 : ari .sub .i64 s.deadline s.born = s.deadline - s.born := by rw [F.ari]; exact wrap64 (by omega) (by omega)
  refine ⟨fun k0 => ?_, fun k0 => ?_⟩ <;> cbv
  · rw [F.cmp] at k0
    have k0 : s.kind = 0 := by simpa [real] using k0
    refine ⟨fun k1 => ?_, fun k1 => ?_⟩ <;> cbv
    · refine ⟨fun k2 => ?_, fun k2 => ?_⟩ <;> cbv
      · first | refine hK _ _ _ (said_plain ⟨_, ?_, rfl, rfl, rfl⟩ rfl) | refine hK _ _ _ (said_bool ⟨_, ?_, rfl, rfl, rfl⟩)
        simp only [F.cmp, F.scmp, F.band, F.beq, F.bnot, F.ari, F.shf, F.neg, F.unx, F.wrap, F.slen, F.sat, F.more, F.rune, F.rnext, real] at k1
        simp only [F.cmp, F.scmp, F.band, F.beq, F.bnot, F.ari, F.shf, F.neg, F.unx, F.wrap, F.slen, F.sat, F.more, F.rune, F.rnext, real] at k2
        try simp only [F.cmp, F.scmp, F.band, F.beq, F.bnot, F.ari, F.shf, F.neg, F.unx, F.wrap, F.slen, F.sat, F.more, F.rune, F.rnext, real]
        simp at k1 k2
        simp [birthMay, k0, k1, k2, ← hr1, ← hr2, ← hr3, ← hr4, ← hr5, ← hr6]
      · first | refine hK _ _ _ (said_plain ⟨_, ?_, rfl, rfl, rfl⟩ rfl) | refine hK _ _ _ (said_bool ⟨_, ?_, rfl, rfl, rfl⟩)
        simp only [F.cmp, F.scmp, F.band, F.beq, F.bnot, F.ari, F.shf, F.neg, F.unx, F.wrap, F.slen, F.sat, F.more, F.rune, F.rnext, real] at k1
        simp only [F.cmp, F.scmp, F.band, F.beq, F.bnot, F.ari, F.shf, F.neg, F.unx, F.wrap, F.slen, F.sat, F.more, F.rune, F.rnext, real] at k2
        try simp only [F.cmp, F.scmp, F.band, F.beq, F.bnot, F.ari, F.shf, F.neg, F.unx, F.wrap, F.slen, F.sat, F.more, F.rune, F.rnext, real]
        simp at k1 k2
        simp [birthMay, k0, k1, k2, ← hr1, ← hr2, ← hr3, ← hr4, ← hr5, ← hr6]
    · first | refine hK _ _ _ (said_plain ⟨_, ?_, rfl, rfl, rfl⟩ rfl) | refine hK _ _ _ (said_bool ⟨_, ?_, rfl, rfl, rfl⟩)
      simp only [F.cmp, F.scmp, F.band, F.beq, F.bnot, F.ari, F.shf, F.neg, F.unx, F.wrap, F.slen, F.sat, F.more, F.rune, F.rnext, real] at k1
      try simp only [F.cmp, F.scmp, F.band, F.beq, F.bnot, F.ari, F.shf, F.neg, F.unx, F.wrap, F.slen, F.sat, F.more, F.rune, F.rnext, real]
      simp at k1
      simp [birthMay, k0, ← hr1, ← hr2, ← hr3, ← hr4, ← hr5, ← hr6]
      intros
      omega
  · rw [F.cmp] at k0
    have kk : ¬ s.kind = 0 := by simpa [real] using k0
    refine ⟨fun k3 => ?_, fun k3 => ?_⟩ <;> cbv
    · refine ⟨fun k4 => ?_, fun k4 => ?_⟩ <;> cbv
      · simp only [F.cmp, F.scmp, F.band, F.beq, F.bnot, F.ari, F.shf, F.neg, F.unx, F.wrap, F.slen, F.sat, F.more, F.rune, F.rnext] at k3
        simp [real, ncast, ocast] at k3
        simp only [F.cmp, F.scmp, F.band, F.beq, F.bnot, F.ari, F.shf, F.neg, F.unx, F.wrap, F.slen, F.sat, F.more, F.rune, F.rnext] at k4
        simp [real, ncast, ocast] at k4
        exact hK _ _ _ (said_plain ⟨_, (by simp [birthMay, kk]; intros; omega), rfl, rfl, rfl⟩ rfl)
      · simp only [F.cmp, F.scmp, F.band, F.beq, F.bnot, F.ari, F.shf, F.neg, F.unx, F.wrap, F.slen, F.sat, F.more, F.rune, F.rnext] at k3
        simp [real, ncast, ocast] at k3
        simp only [F.cmp, F.scmp, F.band, F.beq, F.bnot, F.ari, F.shf, F.neg, F.unx, F.wrap, F.slen, F.sat, F.more, F.rune, F.rnext] at k4
        simp [real, ncast, ocast] at k4
        refine ⟨fun k5 => ?_, fun k5 => ?_⟩ <;> cbv
        · refine ⟨fun k6 => ?_, fun k6 => ?_⟩ <;> cbv
          · exact hK _ _ _ (said_plain ⟨_, (by rw [F.cmp] at k5; rw [F.cmp, e3] at k6; simp [real] at k5 k6; simp [birthMay, kk, k5]; omega), rfl, rfl, rfl⟩ rfl)
          · rw [F.cmp] at k5
            rw [F.cmp, e3] at k6
            simp [real] at k5 k6
            refine F.call (from_ _ _ _) ?_
            rintro v s2 n2 ⟨r7, hr7, rfl, rfl, rfl⟩
            refine ⟨F.lent0, ?_⟩
            cases r7 <;> cbv
            · exact hK _ _ _ (said_plain ⟨_, (by simp [birthMay, kk, ← hr7]), rfl, rfl, rfl⟩ rfl)
            rw [e2]
            refine F.call (from_ _ _ _) ?_
            rintro v s2 n2 ⟨r8, hr8, rfl, rfl, rfl⟩
            refine ⟨F.lent0, ?_⟩
            cases r8 <;> cbv
            · exact hK _ _ _ (said_plain ⟨_, (by simp [birthMay, kk, ← hr8]), rfl, rfl, rfl⟩ rfl)
            refine F.call (hN _) ?_
            rintro v s2 n2 ⟨r9, hr9, rfl, rfl, rfl⟩
            refine ⟨F.lent0, ?_⟩
            cases r9 <;> cbv
            · exact hK _ _ _ (said_plain ⟨_, (by simp [birthMay, kk, ← hr9]), rfl, rfl, rfl⟩ rfl)
            refine F.call (from_ _ _ _) ?_
            rintro v s2 n2 ⟨r10, hr10, rfl, rfl, rfl⟩
            refine ⟨F.lent0, ?_⟩
            cases r10 <;> cbv
            · exact hK _ _ _ (said_plain ⟨_, (by simp [birthMay, kk, ← hr10]), rfl, rfl, rfl⟩ rfl)
            exact hK _ _ _ (said_plain ⟨_, (by simp [birthMay, kk, ← hr1, ← hr2, ← hr3, ← hr4, ← hr5, ← hr6, ← hr7, ← hr8, ← hr9, ← hr10]; omega), rfl, rfl, rfl⟩ rfl)
        · rw [F.cmp] at k5
          simp [real] at k5
          refine F.call (from_ _ _ _) ?_
          rintro v s2 n2 ⟨r7, hr7, rfl, rfl, rfl⟩
          refine ⟨F.lent0, ?_⟩
          cases r7 <;> cbv
          · exact hK _ _ _ (said_plain ⟨_, (by simp [birthMay, kk, ← hr7]), rfl, rfl, rfl⟩ rfl)
          rw [e2]
          refine F.call (from_ _ _ _) ?_
          rintro v s2 n2 ⟨r8, hr8, rfl, rfl, rfl⟩
          refine ⟨F.lent0, ?_⟩
          cases r8 <;> cbv
          · exact hK _ _ _ (said_plain ⟨_, (by simp [birthMay, kk, ← hr8]), rfl, rfl, rfl⟩ rfl)
          refine F.call (hN _) ?_
          rintro v s2 n2 ⟨r9, hr9, rfl, rfl, rfl⟩
          refine ⟨F.lent0, ?_⟩
          cases r9 <;> cbv
          · exact hK _ _ _ (said_plain ⟨_, (by simp [birthMay, kk, ← hr9]), rfl, rfl, rfl⟩ rfl)
          refine F.call (from_ _ _ _) ?_
          rintro v s2 n2 ⟨r10, hr10, rfl, rfl, rfl⟩
          refine ⟨F.lent0, ?_⟩
          cases r10 <;> cbv
          · exact hK _ _ _ (said_plain ⟨_, (by simp [birthMay, kk, ← hr10]), rfl, rfl, rfl⟩ rfl)
          exact hK _ _ _ (said_plain ⟨_, (by simp [birthMay, kk, ← hr1, ← hr2, ← hr3, ← hr4, ← hr5, ← hr6, ← hr7, ← hr8, ← hr9, ← hr10]; omega), rfl, rfl, rfl⟩ rfl)
    · simp only [F.cmp, F.scmp, F.band, F.beq, F.bnot, F.ari, F.shf, F.neg, F.unx, F.wrap, F.slen, F.sat, F.more, F.rune, F.rnext] at k3
      simp [real, ncast, ocast] at k3
      refine ⟨fun k5 => ?_, fun k5 => ?_⟩ <;> cbv
      · refine ⟨fun k6 => ?_, fun k6 => ?_⟩ <;> cbv
        · exact hK _ _ _ (said_plain ⟨_, (by rw [F.cmp] at k5; rw [F.cmp, e3] at k6; simp [real] at k5 k6; simp [birthMay, kk, k5]; omega), rfl, rfl, rfl⟩ rfl)
        · rw [F.cmp] at k5
          rw [F.cmp, e3] at k6
          simp [real] at k5 k6
          refine F.call (from_ _ _ _) ?_
          rintro v s2 n2 ⟨r7, hr7, rfl, rfl, rfl⟩
          refine ⟨F.lent0, ?_⟩
          cases r7 <;> cbv
          · exact hK _ _ _ (said_plain ⟨_, (by simp [birthMay, kk, ← hr7]), rfl, rfl, rfl⟩ rfl)
          rw [e2]
          refine F.call (from_ _ _ _) ?_
          rintro v s2 n2 ⟨r8, hr8, rfl, rfl, rfl⟩
          refine ⟨F.lent0, ?_⟩
          cases r8 <;> cbv
          · exact hK _ _ _ (said_plain ⟨_, (by simp [birthMay, kk, ← hr8]), rfl, rfl, rfl⟩ rfl)
          refine F.call (hN _) ?_
          rintro v s2 n2 ⟨r9, hr9, rfl, rfl, rfl⟩
          refine ⟨F.lent0, ?_⟩
          cases r9 <;> cbv
          · exact hK _ _ _ (said_plain ⟨_, (by simp [birthMay, kk, ← hr9]), rfl, rfl, rfl⟩ rfl)
          refine F.call (from_ _ _ _) ?_
          rintro v s2 n2 ⟨r10, hr10, rfl, rfl, rfl⟩
          refine ⟨F.lent0, ?_⟩
          cases r10 <;> cbv
          · exact hK _ _ _ (said_plain ⟨_, (by simp [birthMay, kk, ← hr10]), rfl, rfl, rfl⟩ rfl)
          exact hK _ _ _ (said_plain ⟨_, (by simp [birthMay, kk, ← hr1, ← hr2, ← hr3, ← hr4, ← hr5, ← hr6, ← hr7, ← hr8, ← hr9, ← hr10]; omega), rfl, rfl, rfl⟩ rfl)
      · rw [F.cmp] at k5
        simp [real] at k5
        refine F.call (from_ _ _ _) ?_
        rintro v s2 n2 ⟨r7, hr7, rfl, rfl, rfl⟩
        refine ⟨F.lent0, ?_⟩
        cases r7 <;> cbv
        · exact hK _ _ _ (said_plain ⟨_, (by simp [birthMay, kk, ← hr7]), rfl, rfl, rfl⟩ rfl)
        rw [e2]
        refine F.call (from_ _ _ _) ?_
        rintro v s2 n2 ⟨r8, hr8, rfl, rfl, rfl⟩
        refine ⟨F.lent0, ?_⟩
        cases r8 <;> cbv
        · exact hK _ _ _ (said_plain ⟨_, (by simp [birthMay, kk, ← hr8]), rfl, rfl, rfl⟩ rfl)
        refine F.call (hN _) ?_
        rintro v s2 n2 ⟨r9, hr9, rfl, rfl, rfl⟩
        refine ⟨F.lent0, ?_⟩
        cases r9 <;> cbv
        · exact hK _ _ _ (said_plain ⟨_, (by simp [birthMay, kk, ← hr9]), rfl, rfl, rfl⟩ rfl)
        refine F.call (from_ _ _ _) ?_
        rintro v s2 n2 ⟨r10, hr10, rfl, rfl, rfl⟩
        refine ⟨F.lent0, ?_⟩
        cases r10 <;> cbv
        · exact hK _ _ _ (said_plain ⟨_, (by simp [birthMay, kk, ← hr10]), rfl, rfl, rfl⟩ rfl)
        exact hK _ _ _ (said_plain ⟨_, (by simp [birthMay, kk, ← hr1, ← hr2, ← hr3, ← hr4, ← hr5, ← hr6, ← hr7, ← hr8, ← hr9, ← hr10]; omega), rfl, rfl, rfl⟩ rfl)
end Am
