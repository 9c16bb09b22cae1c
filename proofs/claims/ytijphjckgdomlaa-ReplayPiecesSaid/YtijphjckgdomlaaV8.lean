/-
  replay.refused: what refuses a birth.
-/
import Derived.Test.YtijphjckgdomlaaV7
import Derived.Test.YtijphjckgdomlaaV1
set_option linter.all false
namespace Am
open Go Go.Proofs
set_option maxRecDepth 10000
set_option maxHeartbeats 1000000

/-- Numbers that fit. -/
def in64 (n : Int) : Prop := -9223372036854775808 ≤ n ∧ n < 9223372036854775808
structure Sess.wf (s : Sess) : Prop where
  slot : in64 s.slot
  birth : in64 s.birth
  upslot : in64 s.upslot
  upbirth : in64 s.upbirth
  kind : in64 s.kind
  scopes : 0 ≤ s.scopes ∧ s.scopes < 18446744073709551616
  level : in64 s.level
  born : in64 s.born
  deadline : in64 s.deadline
  depth : in64 s.depth
theorem wrap_eq {a b : Int} (ha : in64 a) (hb : -9223372036854775808 < b ∧ b < 9223372036854775808) : b = IntKind.i64.wrap (a + 1) ↔ b = a + 1 := by
  by_cases h : a + 1 < 9223372036854775808
  · rw [wrap64 (by have := ha.1; omega) h]
  · have e : a = 9223372036854775807 := by have := ha.2; omega
    subst e
    have : IntKind.i64.wrap (9223372036854775807 + 1) = -9223372036854775808 := by decide
    rw [this]
    omega

theorem refused_ (ck bt : Int) (l : List Sess) (n : Nat) (f : Nat → List CV) (h : IsS l n f) (hn : n ≤ 1048576) (s : Sess) (hbt : in64 bt) (hw : ∀ x ∈ l, x.wf) (hsb : 0 ≤ s.birth ∧ s.birth ≤ 1048576) (hsd : 0 ≤ s.depth ∧ s.depth ≤ 6) :
    TriS Try.prog 31 [.agg [i64 ck, i64 bt, .sl 12 n 0 f], .agg s.cells] [] 0 (RetE (refuse ⟨ck, bt, l⟩ s)) := by
  have hl := h.1
  obtain ⟨g, hg⟩ : ∃ g : Nat → Sess, ∀ i, g i = l.getD i .zero := ⟨_, fun _ => rfl⟩
  have hat : ∀ k, k < n → l[k]? = some (g k) := fun k hk => by
    have : k < l.length := by omega
    rw [hg, List.getD_eq_getElem?_getD, List.getElem?_eq_getElem this]; rfl
  refine TriS.args (vs' := [.agg [i64 ck, i64 bt, .sl 12 n 0 (sess g)], .agg s.cells]) ?_ ⟨⟨rfl, rfl, ⟨rfl, rfl, rfl, fun i hi => by rw [h.2 i (by omega), ← hg]⟩, trivial⟩, noIds_ck rfl, trivial⟩
  clear h
  refine walk tab_ok mixed (noMeths rfl) (C := cfg31) (fn := Try.f31) (c := Try.f31.body.getD .skip) (by kernel_rfl) (by kernel_rfl) (by kernel_rfl) (by kernel_rfl) (by kernel_rfl) 60 ?_
  intro ari shf cmp scmp band beq bnot neg unx wrap slen sat ssub cat bstr toN sub add shift join setf bytes updb updv rng idx isb le3 nz room nil0 catok rune rnext more rstr nid safe tri weak Kx hK F
  have htoN := F.toN
  subst htoN
  cbv
  have no : ∀ (k : Int), refuse ⟨ck, bt, l⟩ s = k → k ≠ 0 → ∀ (s' : Sto) (nx : Nat), Kx (.c (.if1 62 (i64 k))) s' nx := fun k hk h0 s' nx => hK _ _ _ (said_plain ⟨_, .inr ⟨by rw [hk]; exact h0, by rw [hk]⟩, rfl, rfl, rfl⟩ rfl)
  have yes : refuse ⟨ck, bt, l⟩ s = 0 → ∀ (s' : Sto) (nx : Nat), Kx (.c (.v .nilIface)) s' nx := fun h s' nx => hK _ _ _ (said_plain ⟨_, .inl ⟨h, rfl⟩, rfl, rfl, rfl⟩ rfl)
  refine ⟨fun h1 => ?_, fun h1 => ?_⟩ <;> cbv
  · refine no 18 ?_ (by omega) _ _
    rw [F.bnot, F.cmp, F.ari] at h1
    simp [real] at h1
    rw [wrap_eq hbt (by omega)] at h1
    simp [refuse, h1]
  · rw [F.bnot, F.cmp, F.ari] at h1
    simp [real] at h1
    rw [wrap_eq hbt (by omega)] at h1
    refine ⟨fun h2 => ?_, fun h2 => ?_⟩ <;> cbv
    · simp only [F.cmp, F.scmp, F.band, F.beq, F.bnot, F.ari, F.shf, F.neg, F.unx, F.wrap, F.slen, F.sat, F.more, F.rune, F.rnext] at h2
      simp [real, ncast, ocast] at h2
      refine no 12 ?_ (by omega) _ _
      simp [refuse, h1, h2]
    · simp only [F.cmp, F.scmp, F.band, F.beq, F.bnot, F.ari, F.shf, F.neg, F.unx, F.wrap, F.slen, F.sat, F.more, F.rune, F.rnext] at h2
      simp [real, ncast, ocast] at h2
      refine ⟨fun h3 => ?_, fun h3 => ?_⟩ <;> cbv
      · simp only [F.cmp, F.scmp, F.band, F.beq, F.bnot, F.ari, F.shf, F.neg, F.unx, F.wrap, F.slen, F.sat, F.more, F.rune, F.rnext] at h3
        simp [real, ncast, ocast] at h3
        refine no 19 ?_ (by omega) _ _
        have h3 : 32 ≤ l.length := by omega
        simp [refuse, h1, h2, h3]
      · simp only [F.cmp, F.scmp, F.band, F.beq, F.bnot, F.ari, F.shf, F.neg, F.unx, F.wrap, F.slen, F.sat, F.more, F.rune, F.rnext] at h3
        simp [real, ncast, ocast] at h3
        have h3 : ¬ 32 ≤ l.length := by omega
        refine ⟨fun mu st => ∃ (k : Nat) (d : Int → Bool) (gs : Int → Sess), mu = n - k ∧ k ≤ n ∧ (∀ x ∈ l.take k, x.slot ≠ s.slot) ∧ (∀ b, (l.take k).find? (fun x => x.birth == b) = if d b then some (gs b) else none) ∧
            st = ⟨[(2, .c (.ptr 0 0)), (3, .c (.ptr 1 0)), (5, .c (.mp 2)), (36, .c (.sl 12 n 0 (sess g))), (37, .c (i64 n)), (38, .c (i64 k))],
              [(0, .box [i64 ck, i64 bt, .sl 12 n 0 (sess g)]), (1, .box s.cells), (2, .map 3 45 true d (fun b => (gs b).cells))], 3⟩,
          ⟨n, _, ⟨0, fun _ => false, fun _ => Sess.zero, rfl, Nat.zero_le _, by simp, by simp, rfl⟩, ?_⟩, ?_⟩
        · cbv
          refine F.say ⟨[(0, 0), (1, 1), (2, 2)], [], []⟩ ⟨?_, ?_, ?_, by simp⟩
          · simp [ckE, look, ckV, ckC, ckCs, mem]
          · simp [ckS, look, mem, ckO, ckC, ckCs, Sess.zero]
          · simp [ckN]
        rintro mu _ ⟨k, d, gs, hmu, hk, hsl, hfi, rfl⟩
        cbv
        refine ⟨fun hlt => ?_, fun hge => ?_⟩
        · rw [F.cmp] at hlt
          have hlt : k < n := by simpa [real, ncast, ocast] using hlt
          cbv
          refine ⟨by rw [F.rng]; exact ⟨by simp, by simpa [real] using hlt⟩, ?_⟩
          obtain ⟨x, hgx⟩ : ∃ x, g k = x := ⟨_, rfl⟩
          have hx := hat k hlt
          cbv
          rw [hgx] at hx ⊢
          have htk : l.take (k + 1) = l.take k ++ [x] := by rw [List.take_add_one, hx]; rfl
          have hxl : x ∈ l := List.mem_of_getElem? hx
          cbv
          refine ⟨fun h4 => ?_, fun h4 => ?_⟩ <;> cbv
          · simp only [F.cmp, F.scmp, F.band, F.beq, F.bnot, F.ari, F.shf, F.neg, F.unx, F.wrap, F.slen, F.sat, F.more, F.rune, F.rnext] at h4
            simp [real, ncast, ocast] at h4
            refine no 9 ?_ (by omega) _ _
            have : l.any (fun y => y.slot == s.slot) = true := List.any_eq_true.2 ⟨x, hxl, by simpa using h4⟩
            simp only [refuse, if_neg (show ¬ s.birth ≠ bt + 1 from fun h => h h1), if_neg (show ¬ s.born ≠ ck from fun h => h h2), if_neg h3, this, if_true]
          · simp only [F.cmp, F.scmp, F.band, F.beq, F.bnot, F.ari, F.shf, F.neg, F.unx, F.wrap, F.slen, F.sat, F.more, F.rune, F.rnext] at h4
            simp [real, ncast, ocast] at h4
            have hsl' : ∀ y ∈ l.take (k + 1), y.slot ≠ s.slot := fun y hy => by
              rw [htk] at hy
              rcases List.mem_append.1 hy with hy | hy
              · exact hsl y hy
              · simp only [List.mem_singleton] at hy; rw [hy]; exact h4
            have hfi' : ∀ b, (l.take (k + 1)).find? (fun y => y.birth == b) = (((l.take k).find? (fun y => y.birth == b)).or (if x.birth == b then some x else none)) := fun b => by
              rw [htk, List.find?_append]
              simp only [List.find?_cons, List.find?_nil]
              cases x.birth == b <;> rfl
            refine ⟨fun h5 => ?_, fun h5 => ?_⟩ <;> cbv
            · simp only [F.cmp, F.scmp, F.band, F.beq, F.bnot, F.ari, F.shf, F.neg, F.unx, F.wrap, F.slen, F.sat, F.more, F.rune, F.rnext] at h5
              simp [real, ncast, ocast] at h5
              obtain ⟨d2, hd2⟩ : ∃ d2 : Int → Bool, ∀ j, d2 j = if j = x.birth then true else d j := ⟨_, fun _ => rfl⟩
              obtain ⟨gs2, hgs2⟩ : ∃ gs2 : Int → Sess, ∀ j, gs2 j = if j = x.birth then x else gs j := ⟨_, fun _ => rfl⟩
              refine ⟨n - (k + 1), _, by omega, ⟨k + 1, d2, gs2, rfl, hlt, hsl', fun b => ?_, rfl⟩, ?_⟩
              · rw [hfi', hfi, hd2, hgs2]
                by_cases hb : b = x.birth
                · subst hb
                  simp [h5]
                · have hb2 : (x.birth == b) = false := by simpa using fun e => hb e.symm
                  rw [if_neg hb, if_neg hb, hb2]
                  cases d b <;> rfl
              · cbv
                refine F.say ⟨[(0, 0), (1, 1), (2, 2)], [], []⟩ ⟨?_, ?_, ?_, by simp⟩
                · simp [ckE, look, ckV, ckC, ckCs, mem, F.ari, real, wrapS hlt (show n < 4611686018427387904 by omega)]
                · refine ⟨ltn rfl, ?_, ltn rfl, ?_, ltn rfl, ⟨rfl, rfl, rfl, rfl, fun q => ?_, fun q => ?_⟩, trivial⟩
                  · simp [look, mem, ckO, ckC, ckCs]
                  · simp [look, mem, ckO, ckC, ckCs]
                  · rw [hd2, F.updb]; rfl
                  · show (gs2 q).cells = _
                    rw [hgs2, F.updv]
                    by_cases hq : q = x.birth
                    · rw [if_pos hq]; simp [real, hq]
                    · rw [if_neg hq]; simp [real, hq]
                · simp [ckN]
            · simp only [F.cmp, F.scmp, F.band, F.beq, F.bnot, F.ari, F.shf, F.neg, F.unx, F.wrap, F.slen, F.sat, F.more, F.rune, F.rnext] at h5
              simp [real, ncast, ocast] at h5
              refine ⟨n - (k + 1), _, by omega, ⟨k + 1, d, gs, rfl, hlt, hsl', fun b => ?_, rfl⟩, ?_⟩
              · rw [hfi', hfi]
                by_cases hb : b = x.birth
                · subst hb
                  simp [h5]
                · have hb2 : (x.birth == b) = false := by simpa using fun e => hb e.symm
                  rw [hb2]
                  cases d b <;> rfl
              · cbv
                refine F.say ⟨[(0, 0), (1, 1), (2, 2)], [], []⟩ ⟨?_, ?_, ?_, by simp⟩
                · simp [ckE, look, ckV, ckC, ckCs, mem, F.ari, real, wrapS hlt (show n < 4611686018427387904 by omega)]
                · simp [ckS, look, mem, ckO, ckC, ckCs]
                · simp [ckN]
        · rw [F.cmp] at hge
          have hge : ¬ k < n := by simpa [real, ncast, ocast] using hge
          have hkn : k = n := by omega
          rw [hkn, hl, List.take_length] at hsl hfi
          have hany : l.any (fun y => y.slot == s.slot) = false := by
            rw [List.any_eq_false]
            intro y hy hc
            exact hsl y hy (by simpa using hc)
          have hre : refuse ⟨ck, bt, l⟩ s = if s.upbirth = 0 then 0 else match l.find? (fun x => x.birth == s.upbirth) with
              | none => 16
              | some p => if p.slot ≠ s.upslot then 16 else if parentOk s p then 0 else 24 := by
            simp only [refuse, if_neg (show ¬ s.birth ≠ bt + 1 from fun h => h h1), if_neg (show ¬ s.born ≠ ck from fun h => h h2), if_neg h3, hany, Bool.false_eq_true, if_false]
            rfl
          cbv
          refine ⟨fun h4 => ?_, fun h4 => ?_⟩ <;> cbv
          · simp only [F.cmp, F.scmp, F.band, F.beq, F.bnot, F.ari, F.shf, F.neg, F.unx, F.wrap, F.slen, F.sat, F.more, F.rune, F.rnext] at h4
            simp [real, ncast, ocast] at h4
            refine yes ?_ _ _
            rw [hre, if_pos h4]
          · simp only [F.cmp, F.scmp, F.band, F.beq, F.bnot, F.ari, F.shf, F.neg, F.unx, F.wrap, F.slen, F.sat, F.more, F.rune, F.rnext] at h4
            simp [real, ncast, ocast] at h4
            rw [if_neg h4, hfi] at hre
            have hpk : ∀ p, l.find? (fun x => x.birth == s.upbirth) = some p → p ∈ l := fun p hp => List.mem_of_find?_eq_some hp
            refine ⟨fun h5 => ?_, fun h5 => ?_⟩ <;> cbv
            · rw [F.bnot] at h5
              have h5 : d s.upbirth = true := by simpa [real] using h5
              have hp := hfi s.upbirth
              rw [if_pos h5] at hre hp
              generalize gs s.upbirth = p at hre hp ⊢
              have hpw := (hw p (hpk p hp)).depth
              simp only at hre
              refine ⟨fun h6 => ?_, fun h6 => ?_⟩
              · cbv
                simp only [F.cmp, F.scmp, F.band, F.beq, F.bnot, F.ari, F.shf, F.neg, F.unx, F.wrap, F.slen, F.sat, F.more, F.rune, F.rnext] at h6
                simp [real, ncast, ocast] at h6
                refine no 16 ?_ (by omega) _ _
                rw [hre, if_pos h6]
              · cbv
                simp only [F.cmp, F.scmp, F.band, F.beq, F.bnot, F.ari, F.shf, F.neg, F.unx, F.wrap, F.slen, F.sat, F.more, F.rune, F.rnext] at h6
                simp [real, ncast, ocast] at h6
                rw [if_neg (fun h => h h6)] at hre
                have hd : s.depth = IntKind.i64.wrap (p.depth + 1) ↔ s.depth = p.depth + 1 := wrap_eq hpw (by omega)
                refine ⟨fun k2 => ?_, fun k2 => ?_⟩ <;> cbv
                · simp only [F.cmp, F.scmp, F.band, F.beq, F.bnot, F.ari, F.shf, F.neg, F.unx, F.wrap, F.slen, F.sat, F.more, F.rune, F.rnext] at k2
                  simp [real, ncast, ocast] at k2
                  refine ⟨fun c1 => ?_, fun c1 => ?_⟩ <;> cbv
                  · rw [F.bnot, F.cmp, F.ari] at c1
                    simp [real] at c1
                    rw [hd] at c1
                    refine ⟨fun c2 => ?_, fun c2 => ?_⟩ <;> cbv
                    · rw [F.bnot, F.scmp] at c2
                      simp [real] at c2
                      refine F.call (within_ _ _) ?_
                      rintro v s2 n2 ⟨w1, hw1, rfl, rfl, rfl⟩
                      refine ⟨F.lent0, ?_⟩
                      cases w1 <;> cbv
                      · refine no 24 ?_ (by omega) _ _
                        rw [hre, if_neg]
                        intro hc
                        simp only [parentOk, Bool.and_eq_true, beq_iff_eq, decide_eq_true_eq] at hc
                        obtain ⟨⟨⟨⟨a1, a2⟩, a3⟩, a4⟩, a5⟩ := hc
                        rw [a3] at hw1
                        cases hw1
                      · refine ⟨fun c3 => ?_, fun c3 => ?_⟩ <;> cbv
                        · simp only [F.cmp, F.scmp, F.band, F.beq, F.bnot, F.ari, F.shf, F.neg, F.unx, F.wrap, F.slen, F.sat, F.more, F.rune, F.rnext] at c3
                          simp [real, ncast, ocast] at c3
                          refine ⟨fun c4 => ?_, fun c4 => ?_⟩ <;> cbv
                          · rw [F.bnot, F.cmp] at c4
                            simp [real] at c4
                            refine no 24 ?_ (by omega) _ _
                            rw [hre, if_neg]
                            intro hc
                            simp only [parentOk, Bool.and_eq_true, beq_iff_eq, decide_eq_true_eq] at hc
                            obtain ⟨⟨⟨⟨a1, a2⟩, a3⟩, a4⟩, a5⟩ := hc
                            rw [if_pos k2] at a5
                            simp at a5
                            omega
                          · rw [F.bnot, F.cmp] at c4
                            simp [real] at c4
                            refine yes ?_ _ _
                            rw [hre, if_pos]
                            simp only [parentOk, Bool.and_eq_true, beq_iff_eq, decide_eq_true_eq]
                            refine ⟨⟨⟨⟨c1, c2⟩, hw1.symm⟩, c3⟩, ?_⟩
                            rw [if_pos k2]
                            simp
                            omega
                        · simp only [F.cmp, F.scmp, F.band, F.beq, F.bnot, F.ari, F.shf, F.neg, F.unx, F.wrap, F.slen, F.sat, F.more, F.rune, F.rnext] at c3
                          simp [real, ncast, ocast] at c3
                          refine no 24 ?_ (by omega) _ _
                          rw [hre, if_neg]
                          intro hc
                          simp only [parentOk, Bool.and_eq_true, beq_iff_eq, decide_eq_true_eq] at hc
                          obtain ⟨⟨⟨⟨a1, a2⟩, a3⟩, a4⟩, a5⟩ := hc
                          omega
                    · rw [F.bnot, F.scmp] at c2
                      simp [real] at c2
                      refine no 24 ?_ (by omega) _ _
                      rw [hre, if_neg]
                      intro hc
                      simp only [parentOk, Bool.and_eq_true, beq_iff_eq, decide_eq_true_eq] at hc
                      obtain ⟨⟨⟨⟨a1, a2⟩, a3⟩, a4⟩, a5⟩ := hc
                      exact c2 a2
                  · rw [F.bnot, F.cmp, F.ari] at c1
                    simp [real] at c1
                    rw [hd] at c1
                    refine no 24 ?_ (by omega) _ _
                    rw [hre, if_neg]
                    intro hc
                    simp only [parentOk, Bool.and_eq_true, beq_iff_eq, decide_eq_true_eq] at hc
                    obtain ⟨⟨⟨⟨a1, a2⟩, a3⟩, a4⟩, a5⟩ := hc
                    exact c1 a1
                · simp only [F.cmp, F.scmp, F.band, F.beq, F.bnot, F.ari, F.shf, F.neg, F.unx, F.wrap, F.slen, F.sat, F.more, F.rune, F.rnext] at k2
                  simp [real, ncast, ocast] at k2
                  refine ⟨fun c1 => ?_, fun c1 => ?_⟩ <;> cbv
                  · rw [F.bnot, F.cmp, F.ari] at c1
                    simp [real] at c1
                    rw [hd] at c1
                    refine ⟨fun c2 => ?_, fun c2 => ?_⟩ <;> cbv
                    · rw [F.bnot, F.scmp] at c2
                      simp [real] at c2
                      refine F.call (within_ _ _) ?_
                      rintro v s2 n2 ⟨w1, hw1, rfl, rfl, rfl⟩
                      refine ⟨F.lent0, ?_⟩
                      cases w1 <;> cbv
                      · refine no 24 ?_ (by omega) _ _
                        rw [hre, if_neg]
                        intro hc
                        simp only [parentOk, Bool.and_eq_true, beq_iff_eq, decide_eq_true_eq] at hc
                        obtain ⟨⟨⟨⟨a1, a2⟩, a3⟩, a4⟩, a5⟩ := hc
                        rw [a3] at hw1
                        cases hw1
                      · refine ⟨fun c3 => ?_, fun c3 => ?_⟩ <;> cbv
                        · simp only [F.cmp, F.scmp, F.band, F.beq, F.bnot, F.ari, F.shf, F.neg, F.unx, F.wrap, F.slen, F.sat, F.more, F.rune, F.rnext] at c3
                          simp [real, ncast, ocast] at c3
                          refine ⟨fun c4 => ?_, fun c4 => ?_⟩ <;> cbv
                          · rw [F.bnot, F.cmp] at c4
                            simp [real] at c4
                            refine no 24 ?_ (by omega) _ _
                            rw [hre, if_neg]
                            intro hc
                            simp only [parentOk, Bool.and_eq_true, beq_iff_eq, decide_eq_true_eq] at hc
                            obtain ⟨⟨⟨⟨a1, a2⟩, a3⟩, a4⟩, a5⟩ := hc
                            rw [if_neg k2] at a5
                            simp at a5
                            omega
                          · rw [F.bnot, F.cmp] at c4
                            simp [real] at c4
                            refine yes ?_ _ _
                            rw [hre, if_pos]
                            simp only [parentOk, Bool.and_eq_true, beq_iff_eq, decide_eq_true_eq]
                            refine ⟨⟨⟨⟨c1, c2⟩, hw1.symm⟩, c3⟩, ?_⟩
                            rw [if_neg k2]
                            simp
                            omega
                        · simp only [F.cmp, F.scmp, F.band, F.beq, F.bnot, F.ari, F.shf, F.neg, F.unx, F.wrap, F.slen, F.sat, F.more, F.rune, F.rnext] at c3
                          simp [real, ncast, ocast] at c3
                          refine no 24 ?_ (by omega) _ _
                          rw [hre, if_neg]
                          intro hc
                          simp only [parentOk, Bool.and_eq_true, beq_iff_eq, decide_eq_true_eq] at hc
                          obtain ⟨⟨⟨⟨a1, a2⟩, a3⟩, a4⟩, a5⟩ := hc
                          omega
                    · rw [F.bnot, F.scmp] at c2
                      simp [real] at c2
                      refine no 24 ?_ (by omega) _ _
                      rw [hre, if_neg]
                      intro hc
                      simp only [parentOk, Bool.and_eq_true, beq_iff_eq, decide_eq_true_eq] at hc
                      obtain ⟨⟨⟨⟨a1, a2⟩, a3⟩, a4⟩, a5⟩ := hc
                      exact c2 a2
                  · rw [F.bnot, F.cmp, F.ari] at c1
                    simp [real] at c1
                    rw [hd] at c1
                    refine no 24 ?_ (by omega) _ _
                    rw [hre, if_neg]
                    intro hc
                    simp only [parentOk, Bool.and_eq_true, beq_iff_eq, decide_eq_true_eq] at hc
                    obtain ⟨⟨⟨⟨a1, a2⟩, a3⟩, a4⟩, a5⟩ := hc
                    exact c1 a1
            · rw [F.bnot] at h5
              have h5 : d s.upbirth = false := by simpa [real] using h5
              refine no 16 ?_ (by omega) _ _
              rw [hre, if_neg (by rw [h5]; simp)]
end Am
