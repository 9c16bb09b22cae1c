/-
  replay.without: the walk.
-/
import Derived.Test.YtijphjckgdomlaaW2
set_option linter.all false
namespace Am
open Go Go.Proofs
set_option maxRecDepth 10000
set_option maxHeartbeats 400000

def rule (p : Sess → Bool) (g : Nat → Sess) (d : Int → Bool) (i : Nat) : Prop := (p (g i) = true ∨ (d (g i).upbirth = true ∧ (g i).upbirth ≠ 0)) → d (g i).birth = true
/-- The places of those that stay, of the first k. -/
def kp (p : Sess → Bool) (g : Nat → Sess) (d : Int → Bool) (k : Nat) : List Nat := (List.range k).filter fun i => !p (g i) && !(d (g i).upbirth && (g i).upbirth != 0)
theorem kp_succ (p : Sess → Bool) (g : Nat → Sess) (d : Int → Bool) (k : Nat) : kp p g d (k + 1) = kp p g d k ++ (if (!p (g k) && !(d (g k).upbirth && (g k).upbirth != 0)) = true then [k] else []) := by
  unfold kp
  rw [List.range_succ, List.filter_append]
  congr 1
  simp only [List.filter_cons, List.filter_nil]
abbrev stc (ck bt : Int) (r : CV) : List CV := [i64 ck, i64 bt, r]

theorem without_ (f : FuncId) (xs : List CV) (p : Sess → Bool) (hf : ∀ s : Sess, TriS Try.prog f [.agg s.cells, .c (.elp xs 0)] [] 0 (fun v s' nx => v = .c (.v (.bool (p s))) ∧ s' = [] ∧ nx = 0)) (ck bt : Int) (n m : Nat) (g : Nat → Sess) (hn1 : n ≤ 1048576) :
    TriS Try.prog 34 [.agg (stc ck bt (.sl 12 n m (sess g))), .c (.clo f [.elp xs 0])] [] 0
      (fun v s' nx => ∃ (d : Int → Bool) (rn : Nat) (fr : Nat → List CV), (∀ b, d b = true ↔ GoneI p n g b) ∧ rn = (kp p g d n).length ∧ (∀ i, i < rn → fr i = (g ((kp p g d n).getD i 0)).cells) ∧
        v = .agg (stc ck bt (.ref 0 12 0 rn)) ∧ s' = [(0, .arr 45 12 rn fr)] ∧ nx = 1) := by
  refine walk tab_ok mixed (noMeths rfl) (C := cfg34) (fn := Try.f34) (c := Try.f34.body.getD .skip) (by kernel_rfl) (by kernel_rfl) (by kernel_rfl) (by kernel_rfl) (by kernel_rfl) 60 ?_
  intro ari shf cmp scmp band beq bnot neg unx wrap slen sat ssub cat bstr toN sub add shift join setf bytes updb updv rng idx isb le3 nz room nil0 catok rune rnext more rstr nid safe tri weak Kx hK F
  have htoN := F.toN
  have hn : n < 4611686018427387904 := by omega
  cbv
  refine ⟨fun mu s => ∃ (d : Int → Bool) (v : Int → Int) (more : Bool), mu = 2 * cntN n g d + (if more then 1 else 0) ∧ (∀ b, d b = true → GoneI p n g b) ∧ (more = false → ∀ i, i < n → rule p g d i) ∧
    s = ⟨[(1, .c (.clo f [.elp xs 0])), (2, .c (.ptr 0 0)), (4, .c (.ptr 1 0)), (5, .c (.mp 2)), (6, .c (.v (.bool more)))],
      [(0, .box (stc ck bt (.sl 12 n m (sess g)))), (1, .box (stc 0 0 (.v (.slice none 0 0)))), (2, .map 3 3 false d (fun k => [i64 (v k)]))], 3⟩,
    ⟨_, _, ⟨fun _ => false, fun _ => 0, true, rfl, by simp, by simp, rfl⟩, ?_⟩, ?_⟩
  · cbv
    refine F.say ⟨[(0, 0), (1, 1), (2, 2)], [], []⟩ ⟨?_, ?_, ?_, by simp⟩
    · simp [ckE, look, ckV, ckC, ckCs, mem]
    · simp [ckS, look, mem, ckO, ckC, ckCs]
    · simp [ckN]
  rintro mu _ ⟨d, v, mr, hmu, hd, hcl, rfl⟩
  cbv
  refine ⟨fun hmr => ?_, fun hmr => ?_⟩
  · cbv
    subst hmr
    refine ⟨fun mu s => ∃ (k : Nat) (d' : Int → Bool) (v : Int → Int) (more : Bool), mu = n - k ∧ k ≤ n ∧ (∀ b, d' b = true → GoneI p n g b) ∧ (∀ b, d b = true → d' b = true) ∧ (more = true → cntN n g d' < cntN n g d) ∧ (more = false → ∀ i, i < k → rule p g d' i) ∧
      s = ⟨[(1, .c (.clo f [.elp xs 0])), (2, .c (.ptr 0 0)), (4, .c (.ptr 1 0)), (5, .c (.mp 2)), (6, .c (.v (.bool more))), (21, .c (.sl 12 n m (sess g))), (22, .c (i64 n)), (23, .c (i64 k))],
        [(0, .box (stc ck bt (.sl 12 n m (sess g)))), (1, .box (stc 0 0 (.v (.slice none 0 0)))), (2, .map 3 3 false d' (fun k => [i64 (v k)]))], 3⟩,
      ⟨n, _, ⟨0, d, v, false, rfl, Nat.zero_le _, hd, fun _ h => h, by simp, by intro _ i hi; omega, rfl⟩, ?_⟩, ?_⟩
    · cbv
      refine F.say ⟨[(0, 0), (1, 1), (2, 2)], [], []⟩ ⟨?_, ?_, ?_, by simp⟩
      · simp [ckE, look, ckV, ckC, ckCs, mem]
      · simp [ckS, look, mem, ckO, ckC, ckCs]
      · simp [ckN]
    rintro mu2 _ ⟨k, d', v', mr, hmu2, hk, hd', hdd, hlt1, hcl', rfl⟩
    cbv
    refine ⟨fun hlt => ?_, fun hge => ?_⟩
    · have hlt : k < n := by
        rw [F.cmp] at hlt
        simpa [real] using hlt
      subst htoN
      cbv
      refine ⟨by rw [F.rng]; exact ⟨by simp, by simpa [real] using hlt⟩, ?_⟩
      cbv
      refine ⟨fun h1 => ?_, fun h1 => ?_⟩
      · cbv
        have hnot : d' (g k).birth = false := by
          rw [F.bnot] at h1
          simpa [real] using h1
        refine F.call (hf (g k)) ?_
        rintro v s2 n2 ⟨rfl, rfl, rfl⟩
        refine ⟨F.lent0, ?_⟩
        cbv
        refine ⟨fun h2 => ?_, fun h2 => ?_⟩
        · cbv
          refine ⟨fun h3 => ?_, fun h3 => ?_⟩
          · cbv
            refine ⟨fun h4 => ?_, fun h4 => ?_⟩
            · cbv
              have h5 : (g k).upbirth ≠ 0 := by
                rw [F.bnot, F.cmp] at h4
                simpa [real] using h4
              have hgone : GoneI p n g (g k).birth := GoneI.up k hlt (hd' _ h3) h5
              refine ⟨n - (k + 1), _, by omega, ⟨k + 1, fun j => if j = (g k).birth then true else d' j, fun j => if j = (g k).birth then (g k).slot else v' j, true, rfl, hlt, fun b hb => ?_, fun b hb => ?_, fun _ => ?_, by simp, rfl⟩, ?_⟩
              · by_cases hbk : b = (g k).birth
                · rw [hbk]; exact hgone
                · simp only [hbk, if_false] at hb; exact hd' b hb
              · by_cases hbk : b = (g k).birth
                · simp [hbk]
                · simp only [hbk, if_false]; exact hdd b hb
              · refine Nat.lt_of_lt_of_le (cntN_lt (d := d') (fun b hb => ?_) hlt hnot (by simp)) (cntN_le hdd)
                by_cases hbk : b = (g k).birth
                · simp [hbk]
                · simp only [hbk, if_false]; exact hb
              · cbv
                refine F.say ⟨[(0, 0), (1, 1), (2, 2)], [], []⟩ ⟨?_, ?_, ?_, by simp⟩
                · simp [ckE, look, ckV, ckC, ckCs, mem, F.ari, real, wrapS hlt hn]
                · simp only [F.updb, F.updv]
                  simp [ckS, look, mem, ckO, ckC, ckCs, real]
                  intro q
                  split <;> rfl
                · simp [ckN]
            · cbv
              have h5 : (g k).upbirth = 0 := by
                rw [F.bnot, F.cmp] at h4
                simpa [real] using h4
              refine ⟨n - (k + 1), _, by omega, ⟨k + 1, d', v', mr, rfl, hlt, hd', hdd, hlt1, fun hm i hi => ?_, rfl⟩, ?_⟩
              · rcases Nat.lt_succ_iff_lt_or_eq.1 hi with h | h
                · exact hcl' hm i h
                · rw [h]
                  exact fun hr => by rcases hr with hr | hr; exact absurd hr (by simp [show p (g k) = false from h2]); exact absurd h5 hr.2
              · cbv
                refine F.say ⟨[(0, 0), (1, 1), (2, 2)], [], []⟩ ⟨?_, ?_, ?_, by simp⟩
                · simp [ckE, look, ckV, ckC, ckCs, mem, F.ari, real, wrapS hlt hn]
                · simp [ckS, look, mem, ckO, ckC, ckCs]
                · simp [ckN]
          · cbv
            refine ⟨n - (k + 1), _, by omega, ⟨k + 1, d', v', mr, rfl, hlt, hd', hdd, hlt1, fun hm i hi => ?_, rfl⟩, ?_⟩
            · rcases Nat.lt_succ_iff_lt_or_eq.1 hi with h | h
              · exact hcl' hm i h
              · rw [h]
                exact fun hr => by rcases hr with hr | hr; exact absurd hr (by simp [show p (g k) = false from h2]); exact absurd hr.1 (by simp [show d' (g k).upbirth = false from h3])
            · cbv
              refine F.say ⟨[(0, 0), (1, 1), (2, 2)], [], []⟩ ⟨?_, ?_, ?_, by simp⟩
              · simp [ckE, look, ckV, ckC, ckCs, mem, F.ari, real, wrapS hlt hn]
              · simp [ckS, look, mem, ckO, ckC, ckCs]
              · simp [ckN]
        · cbv
          have hgone : GoneI p n g (g k).birth := GoneI.self k hlt h2
          refine ⟨n - (k + 1), _, by omega, ⟨k + 1, fun j => if j = (g k).birth then true else d' j, fun j => if j = (g k).birth then (g k).slot else v' j, true, rfl, hlt, fun b hb => ?_, fun b hb => ?_, fun _ => ?_, by simp, rfl⟩, ?_⟩
          · by_cases hbk : b = (g k).birth
            · rw [hbk]; exact hgone
            · simp only [hbk, if_false] at hb; exact hd' b hb
          · by_cases hbk : b = (g k).birth
            · simp [hbk]
            · simp only [hbk, if_false]; exact hdd b hb
          · refine Nat.lt_of_lt_of_le (cntN_lt (d := d') (fun b hb => ?_) hlt hnot (by simp)) (cntN_le hdd)
            by_cases hbk : b = (g k).birth
            · simp [hbk]
            · simp only [hbk, if_false]; exact hb
          · cbv
            refine F.say ⟨[(0, 0), (1, 1), (2, 2)], [], []⟩ ⟨?_, ?_, ?_, by simp⟩
            · simp [ckE, look, ckV, ckC, ckCs, mem, F.ari, real, wrapS hlt hn]
            · simp only [F.updb, F.updv]
              simp [ckS, look, mem, ckO, ckC, ckCs, real]
              intro q
              split <;> rfl
            · simp [ckN]
      · cbv
        have hthere : d' (g k).birth = true := by
          rw [F.bnot] at h1
          simpa [real] using h1
        refine ⟨n - (k + 1), _, by omega, ⟨k + 1, d', v', mr, rfl, hlt, hd', hdd, hlt1, fun hm i hi => ?_, rfl⟩, ?_⟩
        · rcases Nat.lt_succ_iff_lt_or_eq.1 hi with h | h
          · exact hcl' hm i h
          · rw [h]
            exact fun _ => hthere
        · cbv
          refine F.say ⟨[(0, 0), (1, 1), (2, 2)], [], []⟩ ⟨?_, ?_, ?_, by simp⟩
          · simp [ckE, look, ckV, ckC, ckCs, mem, F.ari, real, wrapS hlt hn]
          · simp [ckS, look, mem, ckO, ckC, ckCs]
          · simp [ckN]
    · have hge : ¬ k < n := by
        rw [F.cmp] at hge
        simpa [real] using hge
      have hkn : k = n := by omega
      subst hkn
      cbv
      refine ⟨2 * cntN k g d' + (if mr then 1 else 0), _, ?_, ⟨d', v', mr, rfl, hd', hcl', rfl⟩, ?_⟩
      · cases mr with
        | true => have := hlt1 rfl; simp at hmu ⊢; omega
        | false => have := cntN_le (n := k) (g := g) hdd; simp at hmu ⊢; omega
      · cbv
        refine F.say ⟨[(0, 0), (1, 1), (2, 2)], [], []⟩ ⟨?_, ?_, ?_, by simp⟩
        · simp [ckE, look, ckV, ckC, ckCs, mem]
        · simp [ckS, look, mem, ckO, ckC, ckCs]
        · simp [ckN]
  · subst hmr
    have hiff := gone_iff hd (fun i hi h => hcl rfl i hi h)
    cbv
    refine ⟨fun mu s => ∃ (k rn : Nat) (fr : Nat → List CV), mu = n - k ∧ k ≤ n ∧ rn = (kp p g d k).length ∧ (∀ i, i < rn → fr i = (g ((kp p g d k).getD i 0)).cells) ∧
      s = ⟨[(1, .c (.clo f [.elp xs 0])), (2, .c (.ptr 0 0)), (4, .c (.ptr 1 0)), (5, .c (.mp 2)), (13, .c (.ref 3 12 0 rn)), (65, .c (.sl 12 n m (sess g))), (66, .c (i64 n)), (67, .c (i64 k))],
        [(0, .box (stc ck bt (.sl 12 n m (sess g)))), (1, .box (stc 0 0 (.v (.slice none 0 0)))), (2, .map 3 3 false d (fun k => [i64 (v k)])),
          (3, .arr 45 12 rn fr)], 4⟩,
      ⟨n, _, ⟨0, 0, fun _ => [], rfl, Nat.zero_le _, rfl, fun i hi => by omega, rfl⟩, ?_⟩, ?_⟩
    · cbv
      refine F.say ⟨[(0, 0), (1, 1), (2, 2)], [3], []⟩ ⟨?_, ?_, ?_, by simp⟩
      · simp [ckE, look, ckV, ckC, ckCs, mem]
      · simp [ckS, look, mem, ckO, ckC, ckCs]
      · simp [ckN]
    rintro mu3 _ ⟨k, rn, fr, hmu3, hk, hrn, hfr, rfl⟩
    cbv
    refine ⟨fun hlt => ?_, fun hge => ?_⟩
    · have hlt : k < n := by
        rw [F.cmp] at hlt
        simpa [real] using hlt
      subst htoN
      cbv
      refine ⟨by rw [F.rng]; exact ⟨by simp, by simpa [real] using hlt⟩, ?_⟩
      cbv
      refine F.call (hf (g k)) ?_
      rintro v2 s2 n2 ⟨rfl, rfl, rfl⟩
      refine ⟨F.lent0, ?_⟩
      cbv
      refine ⟨fun h2 => ?_, fun h2 => ?_⟩
      · cbv
        have hp : p (g k) = false := by
          rw [F.bnot] at h2
          simpa [real] using h2
        refine ⟨fun h3 => ?_, fun h3 => ?_⟩
        · cbv
          refine ⟨fun h4 => ?_, fun h4 => ?_⟩
          · cbv
            have h5 : (g k).upbirth = 0 := by
              rw [F.bnot, F.cmp] at h4
              simpa [real] using h4
            have hup : (d (g k).upbirth && (g k).upbirth != 0) = false := by simp [h5]
            have hkp : kp p g d (k + 1) = kp p g d k ++ [k] := by rw [kp_succ, if_pos (by simp [hp, hup])]
            have hrnk : rn ≤ n := by
              have h9 : (kp p g d k).length ≤ k := Nat.le_trans (List.length_filter_le _ _) (by simp)
              omega
            obtain ⟨fr2, hfr2⟩ : ∃ fr2 : Nat → List CV, ∀ i, fr2 i = (g ((kp p g d (k + 1)).getD i 0)).cells := ⟨_, fun _ => rfl⟩
            have hroom : rn + 1 ≤ maxLen ∧ (rn + 1) * 112 ≤ 140737488355328 := ⟨by simp only [maxLen]; omega, by omega⟩
            refine ⟨by rw [F.le3, F.add]; exact ⟨by decide, by decide, by decide⟩, by rw [F.le3]; exact ⟨by simp, by simp, by simp⟩, by rw [F.room, F.add]; exact hroom,
              n - (k + 1), _, by omega, ⟨k + 1, rn + 1, fr2, rfl, hlt, by rw [hkp]; simp [hrn], fun i _ => hfr2 i, rfl⟩, ?_⟩
            cbv
            refine F.say ⟨[(0, 0), (1, 1), (2, 2), (3, 6)], [], []⟩ ⟨?_, ?_, ?_, by simp⟩
            · simp [ckE, look, ckV, ckC, ckCs, mem, F.ari, F.add, real, wrapS hlt hn]
            · simp only [F.join, F.shift, F.add]
              refine ⟨by decide, ?_, by decide, ?_, by decide, ?_, by decide, ?_, trivial⟩
              · simp [look, mem, ckO, ckC, ckCs]
              · simp [look, mem, ckO, ckC, ckCs]
              · simp [look, mem, ckO, ckC, ckCs]
              · refine ⟨rfl, rfl, rfl, Nat.le_refl _, fun i hi => ?_⟩
                by_cases hir : i < rn
                · have e : (kp p g d (k + 1)).getD i 0 = (kp p g d k).getD i 0 := by rw [hkp]; simp [List.getElem?_append_left (by omega : i < (kp p g d k).length)]
                  have e2 : (if i < rn then fr i else pickR [(g k).cells] (i - rn + 0)) = (g ((kp p g d k).getD i 0)).cells := by rw [if_pos hir, hfr i hir]
                  rw [hfr2, e]
                  exact (congrArg (fun c => ckCs _ _ c (g ((kp p g d k).getD i 0)).cells) e2).mpr (noIds_ck rfl)
                · have hi : i < rn + 1 := hi
                  have hir2 : i = rn := by omega
                  subst hir2
                  have e : (kp p g d (k + 1)).getD i 0 = k := by rw [hkp]; simp [hrn]
                  have e2 : (if i < i then fr i else pickR [(g k).cells] (i - i + 0)) = (g k).cells := by rw [if_neg hir, Nat.sub_self]; rfl
                  rw [hfr2, e]
                  exact (congrArg (fun c => ckCs _ _ c (g k).cells) e2).mpr (noIds_ck rfl)
            · simp [ckN]
          · cbv
            have h5 : (g k).upbirth ≠ 0 := by
              rw [F.bnot, F.cmp] at h4
              simpa [real] using h4
            have hkp : kp p g d (k + 1) = kp p g d k := by rw [kp_succ]; simp [show d (g k).upbirth = true from h3, h5]
            refine ⟨n - (k + 1), _, by omega, ⟨k + 1, rn, fr, rfl, hlt, by rw [hkp]; exact hrn, by rw [hkp]; exact hfr, rfl⟩, ?_⟩
            cbv
            refine F.say ⟨[(0, 0), (1, 1), (2, 2), (3, 3)], [], []⟩ ⟨?_, ?_, ?_, by simp⟩
            · simp [ckE, look, ckV, ckC, ckCs, mem, F.ari, real, wrapS hlt hn]
            · simp [ckS, look, mem, ckO, ckC, ckCs]
              intro i hi
              rw [hfr i hi]
              exact noIds_ck rfl
            · simp [ckN]
        · cbv
          have hup : (d (g k).upbirth && (g k).upbirth != 0) = false := by simp [show d (g k).upbirth = false from h3]
          have hkp : kp p g d (k + 1) = kp p g d k ++ [k] := by rw [kp_succ, if_pos (by simp [hp, hup])]
          have hrnk : rn ≤ n := by
            have h9 : (kp p g d k).length ≤ k := Nat.le_trans (List.length_filter_le _ _) (by simp)
            omega
          obtain ⟨fr2, hfr2⟩ : ∃ fr2 : Nat → List CV, ∀ i, fr2 i = (g ((kp p g d (k + 1)).getD i 0)).cells := ⟨_, fun _ => rfl⟩
          have hroom : rn + 1 ≤ maxLen ∧ (rn + 1) * 112 ≤ 140737488355328 := ⟨by simp only [maxLen]; omega, by omega⟩
          refine ⟨by rw [F.le3, F.add]; exact ⟨by decide, by decide, by decide⟩, by rw [F.le3]; exact ⟨by simp, by simp, by simp⟩, by rw [F.room, F.add]; exact hroom,
            n - (k + 1), _, by omega, ⟨k + 1, rn + 1, fr2, rfl, hlt, by rw [hkp]; simp [hrn], fun i _ => hfr2 i, rfl⟩, ?_⟩
          cbv
          refine F.say ⟨[(0, 0), (1, 1), (2, 2), (3, 6)], [], []⟩ ⟨?_, ?_, ?_, by simp⟩
          · simp [ckE, look, ckV, ckC, ckCs, mem, F.ari, F.add, real, wrapS hlt hn]
          · simp only [F.join, F.shift, F.add]
            refine ⟨by decide, ?_, by decide, ?_, by decide, ?_, by decide, ?_, trivial⟩
            · simp [look, mem, ckO, ckC, ckCs]
            · simp [look, mem, ckO, ckC, ckCs]
            · simp [look, mem, ckO, ckC, ckCs]
            · refine ⟨rfl, rfl, rfl, Nat.le_refl _, fun i hi => ?_⟩
              by_cases hir : i < rn
              · have e : (kp p g d (k + 1)).getD i 0 = (kp p g d k).getD i 0 := by rw [hkp]; simp [List.getElem?_append_left (by omega : i < (kp p g d k).length)]
                have e2 : (if i < rn then fr i else pickR [(g k).cells] (i - rn + 0)) = (g ((kp p g d k).getD i 0)).cells := by rw [if_pos hir, hfr i hir]
                rw [hfr2, e]
                exact (congrArg (fun c => ckCs _ _ c (g ((kp p g d k).getD i 0)).cells) e2).mpr (noIds_ck rfl)
              · have hi : i < rn + 1 := hi
                have hir2 : i = rn := by omega
                subst hir2
                have e : (kp p g d (k + 1)).getD i 0 = k := by rw [hkp]; simp [hrn]
                have e2 : (if i < i then fr i else pickR [(g k).cells] (i - i + 0)) = (g k).cells := by rw [if_neg hir, Nat.sub_self]; rfl
                rw [hfr2, e]
                exact (congrArg (fun c => ckCs _ _ c (g k).cells) e2).mpr (noIds_ck rfl)
          · simp [ckN]
      · cbv
        have hp : p (g k) = true := by
          rw [F.bnot] at h2
          simpa [real] using h2
        have hkp : kp p g d (k + 1) = kp p g d k := by rw [kp_succ]; simp [hp]
        refine ⟨n - (k + 1), _, by omega, ⟨k + 1, rn, fr, rfl, hlt, by rw [hkp]; exact hrn, by rw [hkp]; exact hfr, rfl⟩, ?_⟩
        cbv
        refine F.say ⟨[(0, 0), (1, 1), (2, 2), (3, 3)], [], []⟩ ⟨?_, ?_, ?_, by simp⟩
        · simp [ckE, look, ckV, ckC, ckCs, mem, F.ari, real, wrapS hlt hn]
        · simp [ckS, look, mem, ckO, ckC, ckCs]
          intro i hi
          rw [hfr i hi]
          exact noIds_ck rfl
        · simp [ckN]
    · have hge : ¬ k < n := by
        rw [F.cmp] at hge
        simpa [real] using hge
      have hkn : k = n := by omega
      subst hkn
      cbv
      refine hK _ _ _ ⟨.agg (stc ck bt (.ref 0 12 0 rn)), [(0, .arr 45 12 rn fr)], 1, ⟨d, rn, fr, hiff, hrn, hfr, rfl, rfl, rfl⟩, weak_of ⟨[(0, 3)], [], []⟩ ⟨?_, ?_, ?_, by simp⟩⟩
      · refine ⟨?_, trivial⟩
        simp [look, resOne, ckV, ckC, ckCs, mem]
      · simp [ckS, look, mem, ckO]
        intro i hi
        rw [hfr i hi]
        exact noIds_ck rfl
      · simp [ckN]
end Am
