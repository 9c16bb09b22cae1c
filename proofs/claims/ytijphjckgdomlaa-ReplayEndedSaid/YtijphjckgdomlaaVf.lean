/-
  lineagelaw24.ReplayEnded: the walk.
-/
import Derived.Test.YtijphjckgdomlaaVe
set_option linter.all false
namespace Am
open Go Go.Proofs
set_option maxRecDepth 10000
set_option maxHeartbeats 1000000

/-- A row of numbers. -/
def IsI (E : List Int) (m : Nat) (q : Nat → List CV) : Prop := m = E.length ∧ ∀ i, i < m → q i = [i64 (E.getD i 0)]
theorem isI_snoc {E : List Int} {m : Nat} {q : Nat → List CV} (h : IsI E m q) (x : Int) {i : Nat} (hi : i < m + 1) :
    (if i < m then q i else pickR [[i64 x]] (i - m + 0)) = [i64 ((E ++ [x]).getD i 0)] := by
  obtain ⟨rfl, hf⟩ := h
  by_cases h1 : i < E.length
  · rw [if_pos h1, hf i h1]
    simp only [List.getD_eq_getElem?_getD, List.getElem?_append_left h1]
  · rw [if_neg h1]
    have : i = E.length := by omega
    subst this
    simp [pickR, List.getD_eq_getElem?_getD]

theorem replayEnded (es : List Ev) (ne : Nat) (fe : Nat → List CV) (he : IsE es ne fe) (hwe : ∀ e ∈ es, e.s.wf) :
    TriS Try.prog 5 [.c (.sl 15 ne 0 fe)] [] 0 (RetB true) := by
  obtain ⟨g, hg⟩ : ∃ g : Nat → Ev, ∀ i, g i = es.getD i .zero := ⟨_, fun _ => rfl⟩
  have hat : ∀ k, k < ne → es[k]? = some (g k) := fun k hk => by
    have : k < es.length := by rw [← he.1]; exact hk
    rw [hg, List.getD_eq_getElem?_getD, List.getElem?_eq_getElem this]; rfl
  have hne' := he.1
  refine TriS.args (vs' := [.c (.sl 15 ne 0 fun i => (g i).cells)]) ?_ ⟨⟨rfl, rfl, rfl, fun i hi => by rw [he.2 i (by omega), ← hg]⟩, trivial⟩
  clear he
  refine walk tab_ok mixed (noMeths rfl) (C := cfg5) (fn := Try.f5) (c := Try.f5.body.getD .skip) (by kernel_rfl) (by kernel_rfl) (by kernel_rfl) (by kernel_rfl) (by kernel_rfl) 60 ?_
  intro ari shf cmp scmp band beq bnot neg unx wrap slen sat ssub cat bstr toN sub add shift join setf bytes updb updv rng idx isb le3 nz room nil0 catok rune rnext more rstr nid safe tri weak Kx hK F
  have htoN := F.toN
  subst htoN
  cbv
  refine F.call works_ ?_
  rintro v s2 n2 ⟨r, rfl, rfl, rfl, rfl⟩
  refine ⟨F.lent0, ?_⟩
  cbv
  refine ⟨fun h0 => ?_, fun h0 => ?_⟩ <;> cbv
  · refine F.call works_ ?_
    rintro v s2 n2 ⟨r, rfl, rfl, rfl, rfl⟩
    refine ⟨F.lent0, ?_⟩
    cbv
    exact hK _ _ _ (said_plain ⟨_, rfl, rfl, rfl, rfl⟩ rfl)
  have hne : ne ≤ 200 := by
    rw [F.cmp] at h0
    simp [real, ncast, ocast] at h0
    omega
  have hne2 : ne < 4611686018427387904 := by omega
  refine ⟨fun mu s => ∃ (j : Nat) (ck bt : Int) (l : List Sess) (n : Nat) (f : Nat → List CV) (E : List Int) (m : Nat) (q : Nat → List CV), mu = ne - j ∧ j ≤ ne ∧ IsS l n f ∧ Sound ⟨ck, bt, l⟩ ∧ (∀ x ∈ l, x.wf) ∧ IsI E m q ∧ Over ⟨ck, bt, l⟩ E ∧ m ≤ 32 * j ∧
      s = ⟨[(0, .c (.sl 15 ne 0 fun i => (g i).cells)), (3, .c (.ptr 0 0)), (4, .c (.ref 2 1 0 m)), (5, .c (i64 j))], [(0, .box [i64 ck, i64 bt, .ref 1 12 0 n]), (1, .arr 45 12 n f), (2, .arr 3 1 m q)], 3⟩,
    ⟨_, _, ⟨0, 0, 0, [], 0, fun _ => [], [], 0, fun _ => [], rfl, Nat.zero_le _, ⟨rfl, fun i hi => by omega⟩, sound_zero, by simp, ⟨rfl, fun i hi => by omega⟩, by simp [Over], by omega, rfl⟩, ?_⟩, ?_⟩
  · cbv
    refine F.say ⟨[(0, 0)], [1, 2], []⟩ ⟨?_, ?_, ?_, by simp⟩
    · simp [ckE, look, ckV, ckC, ckCs, mem]
    · simp [ckS, look, ckO, ckC, ckCs, mem]
    · simp [ckN]
  rintro mu _ ⟨j, ck, bt, l, n, f, E, m, q, hmu, hj, h, hS, hw, hE, hO, hm, rfl⟩
  cbv
  refine ⟨fun h1 => ?_, fun h1 => ?_⟩ <;> cbv
  · rw [F.cmp] at h1
    have h1 : j < ne := by simpa [real, ncast, ocast] using h1
    have hmu' : ne - (j + 1) < mu := by omega
    have hn32 : n ≤ 32 := by rw [h.1]; exact hS.len
    have hn' := h.1
    have hxj := hat j h1
    generalize g j = ej at hxj ⊢
    have hmem : ej ∈ es := List.mem_of_getElem? hxj
    refine ⟨by rw [F.rng]; exact ⟨by simp, by simpa [real] using h1⟩, ?_⟩
    cbv
    have hle : le3 0 (Int.ofNat (add 0 n)) (Int.ofNat n) := by rw [F.le3, F.add]; exact ⟨by simp, by simp [real], by simp [real]⟩
    have hnid : nid n f := by rw [F.nid]; exact fun i hi => by rw [h.2 i hi]; rfl
    have hsh : IsS l n (shift f 0) := ⟨h.1, fun i hi => by rw [F.shift]; exact h.2 i hi⟩
    have hwf : WfSt ⟨ck, bt, l⟩ := wf_of_sound hS hw
    have hap := apply_ ck bt l n (shift f 0) hsh (by omega) ej hwf.clock hwf.births hw (hwe _ hmem).scopes
    have hS2 := sound_apply hS ej
    have hw2 := (apply_wf (e := ej) hwf (hwe _ hmem)).l
    have hmm : (apply ⟨ck, bt, l⟩ ej).2 = 0 → bt ≤ (apply ⟨ck, bt, l⟩ ej).1.births := fun h => (apply_mem h).1
    have hov : (apply ⟨ck, bt, l⟩ ej).2 = 0 → Over (apply ⟨ck, bt, l⟩ ej).1 E := fun h => over_step h hO
    generalize apply ⟨ck, bt, l⟩ ej = r at hap hS2 hw2 hmm hov
    obtain ⟨⟨c2, b2, l2⟩, no⟩ := r
    simp only at hS2 hw2 hmm hov
    have hb1 : ∀ x ∈ l, x.birth ≤ bt := fun x hx => (hS.all x hx).b2
    refine ⟨?_, ?_⟩
    · -- 3 the new row's number, 4 the number of next's box
      refine ⟨⟨hle, hnid⟩, ?_⟩
      refine F.call hap ?_
      rintro v s2 n2 ⟨x, n3, f3, h3, hx, rfl, rfl, rfl⟩
      refine ⟨by rw [F.safe]; exact ⟨fun _ => (by rcases hx with ⟨_, rfl⟩ | ⟨_, rfl⟩ <;> rfl), safe_row fun i hi => by rw [h3.2 i hi]; exact ⟨rfl, fun _ => rfl⟩⟩, ?_⟩
      rcases hx with ⟨hx, rfl⟩ | ⟨hx, rfl⟩
      · cbv
        have hov := hov hx
        have hmm := hmm hx
        have hn3 : n3 ≤ 32 := by rw [h3.1]; exact hS2.len
        refine ⟨fun mu2 s => ∃ (k : Nat) (E' : List Int) (m' : Nat) (q' : Nat → List CV), mu2 = n - k ∧ k ≤ n ∧ IsI E' m' q' ∧ Over ⟨c2, b2, l2⟩ E' ∧ m' ≤ 32 * j + k ∧
            s = ⟨[(0, .c (.sl 15 ne 0 fun i => (g i).cells)), (3, .c (.ptr 0 0)), (4, .c (.ref 4 1 0 m')), (5, .c (i64 j)), (6, .c (.ptr 3 0)), (8, .c (i64 k))],
              [(0, .box [i64 ck, i64 bt, .ref 1 12 0 n]), (1, .arr 45 12 n f), (2, .arr 45 12 n3 f3), (3, .box [i64 c2, i64 b2, .ref 2 12 0 n3]), (4, .arr 3 1 m' q')], 5⟩,
          ⟨_, _, ⟨0, E, m, q, rfl, Nat.zero_le _, hE, hov, by omega, rfl⟩, ?_⟩, ?_⟩
        · cbv
          refine F.say ⟨[(0, 0), (1, 1), (2, 3), (3, 4), (4, 2)], [], []⟩ ⟨?_, ?_, ?_, by simp⟩
          · simp [ckE, look, ckV, ckC, ckCs, mem]
          · refine ⟨ltn rfl, ?_, ltn rfl, ?_, ltn rfl, ?_, ltn rfl, ?_, ltn rfl, ?_, trivial⟩
            · simp [look, mem, ckO, ckC, ckCs]
            · refine ⟨rfl, rfl, rfl, Nat.le_refl _, fun i hi => ?_⟩
              rw [h.2 i hi]
              exact noIds_ck rfl
            · refine ⟨rfl, rfl, rfl, Nat.le_refl _, fun i hi => ?_⟩
              rw [h3.2 i hi]
              exact noIds_ck rfl
            · simp [look, mem, ckO, ckC, ckCs]
            · refine ⟨rfl, rfl, rfl, Nat.le_refl _, fun i hi => ?_⟩
              rw [hE.2 i hi]
              exact noIds_ck rfl
          · simp [ckN]
        rintro mu2 _ ⟨k, E', m', q', hmu2, hk, hE', hO', hm', rfl⟩
        have hle3 : le3 0 (Int.ofNat (add 0 n3)) (Int.ofNat n3) := by rw [F.le3, F.add]; exact ⟨by simp, by simp [real], by simp [real]⟩
        have hnid3 : nid n3 f3 := by rw [F.nid]; exact fun i hi => by rw [h3.2 i hi]; rfl
        have hsh3 : IsS l2 n3 (shift f3 0) := ⟨h3.1, fun i hi => by rw [F.shift]; exact h3.2 i hi⟩
        have hm2 : m' ≤ 8000 := by omega
        cbv
        refine ⟨fun d1 => ?_, fun d1 => ?_⟩ <;> cbv
        · rw [F.cmp] at d1
          have d1 : k < n := by simpa [real, ncast, ocast] using d1
          have ek : add 0 k = k := by rw [F.add]; exact Nat.zero_add k
          have rk : rng n (Int.ofNat k) := by rw [F.rng]; exact ⟨by simp, by simpa [real] using d1⟩
          obtain ⟨x, hx, hfx⟩ := h.at_ d1
          have hxl : x ∈ l := List.mem_of_getElem? hx
          rw [ek, hfx]
          refine ⟨rk, rk, ?_⟩
          cbv
          refine ⟨⟨hle3, hnid3⟩, ?_⟩
          refine F.call (has_ l2 n3 (shift f3 0) hsh3 (by omega) x.birth) ?_
          rintro v s2 n2 ⟨r, hr, rfl, rfl, rfl⟩
          refine ⟨F.lent1 rfl, ?_⟩
          cases r with
          | true =>
            cbv
            refine ⟨n - (k + 1), _, by omega, ⟨k + 1, E', m', q', rfl, d1, hE', hO', by omega, rfl⟩, ?_⟩
            cbv
            refine F.say ⟨[(0, 0), (1, 1), (2, 2), (3, 3), (4, 4)], [], []⟩ ⟨?_, ?_, ?_, by simp⟩
            · simp [ckE, look, ckV, ckC, ckCs, mem, F.ari, real, wrapS d1 (show n < 4611686018427387904 by omega)]
            · refine ⟨ltn rfl, ?_, ltn rfl, ?_, ltn rfl, ?_, ltn rfl, ?_, ltn rfl, ?_, trivial⟩
              · simp [look, mem, ckO, ckC, ckCs]
              · refine ⟨rfl, rfl, rfl, Nat.le_refl _, fun i hi => ?_⟩
                rw [h.2 i hi]
                exact noIds_ck rfl
              · refine ⟨rfl, rfl, rfl, Nat.le_refl _, fun i hi => ?_⟩
                rw [h3.2 i hi]
                exact noIds_ck rfl
              · simp [look, mem, ckO, ckC, ckCs]
              · refine ⟨rfl, rfl, rfl, Nat.le_refl _, fun i hi => ?_⟩
                rw [hE'.2 i hi]
                exact noIds_ck rfl
            · simp [ckN]
          | false =>
            cbv
            rw [ek, hfx]
            refine ⟨rk, rk, ?_⟩
            cbv
            have hroom : m' + 1 ≤ maxLen ∧ (m' + 1) * 8 ≤ 140737488355328 := ⟨by simp only [maxLen]; omega, by omega⟩
            refine ⟨by rw [F.le3, F.add]; exact ⟨by decide, by decide, by decide⟩, by rw [F.le3]; exact ⟨by simp, by simp, by simp⟩, by rw [F.room, F.add]; exact hroom, ?_⟩
            cbv
            obtain ⟨q2, hq2⟩ : ∃ q2 : Nat → List CV, ∀ i, q2 i = [i64 ((E' ++ [x.birth]).getD i 0)] := ⟨_, fun _ => rfl⟩
            have hE2 : IsI (E' ++ [x.birth]) (m' + 1) q2 := ⟨by simp [hE'.1], fun i _ => hq2 i⟩
            have hO2 : Over ⟨c2, b2, l2⟩ (E' ++ [x.birth]) := fun b hb => by
              rcases List.mem_append.1 hb with hb | hb
              · exact hO' b hb
              · simp only [List.mem_singleton] at hb
                subst hb
                refine ⟨Int.le_trans (hb1 x hxl) hmm, fun s hs he => ?_⟩
                have : l2.any (fun s => s.birth == x.birth) = true := List.any_eq_true.2 ⟨s, hs, by simpa using he⟩
                rw [this] at hr
                cases hr
            refine ⟨n - (k + 1), _, by omega, ⟨k + 1, E' ++ [x.birth], m' + 1, q2, rfl, d1, hE2, hO2, by omega, rfl⟩, ?_⟩
            cbv
            refine F.say ⟨[(0, 0), (1, 1), (2, 2), (3, 3), (4, 6)], [], []⟩ ⟨?_, ?_, ?_, by simp⟩
            · simp [ckE, look, ckV, ckC, ckCs, mem, F.ari, F.add, real, wrapS d1 (show n < 4611686018427387904 by omega)]
            · simp only [F.join, F.shift, F.add]
              refine ⟨ltn rfl, ?_, ltn rfl, ?_, ltn rfl, ?_, ltn rfl, ?_, ltn rfl, ?_, trivial⟩
              · simp [look, mem, ckO, ckC, ckCs]
              · refine ⟨rfl, rfl, rfl, Nat.le_refl _, fun i hi => ?_⟩
                rw [h.2 i hi]
                exact noIds_ck rfl
              · refine ⟨rfl, rfl, rfl, Nat.le_refl _, fun i hi => ?_⟩
                rw [h3.2 i hi]
                exact noIds_ck rfl
              · simp [look, mem, ckO, ckC, ckCs]
              · refine ⟨rfl, rfl, rfl, by simp [real], fun i hi => ?_⟩
                have e := isI_snoc hE' x.birth (show i < m' + 1 from hi)
                rw [hq2 i]
                exact (congrArg (fun c => ckCs _ _ c _) e).mpr (noIds_ck rfl)
            · simp [ckN]
        · refine ⟨fun mu3 s => ∃ k : Nat, mu3 = m' - k ∧ k ≤ m' ∧ s = ⟨[(0, .c (.sl 15 ne 0 fun i => (g i).cells)), (3, .c (.ptr 0 0)), (4, .c (.ref 2 1 0 m')), (5, .c (i64 j)), (9, .c (i64 k))],
              [(0, .box [i64 c2, i64 b2, .ref 1 12 0 n3]), (1, .arr 45 12 n3 f3), (2, .arr 3 1 m' q')], 3⟩, ⟨_, _, ⟨0, rfl, Nat.zero_le _, rfl⟩, ?_⟩, ?_⟩
          · cbv
            refine F.say ⟨[(0, 0), (1, 2), (2, 4)], [], []⟩ ⟨?_, ?_, ?_, by simp⟩
            · simp [ckE, look, ckV, ckC, ckCs, mem]
            · refine ⟨ltn rfl, ?_, ltn rfl, ?_, ltn rfl, ?_, trivial⟩
              · simp [look, mem, ckO, ckC, ckCs]
              · refine ⟨rfl, rfl, rfl, Nat.le_refl _, fun i hi => ?_⟩
                rw [h3.2 i hi]
                exact noIds_ck rfl
              · refine ⟨rfl, rfl, rfl, Nat.le_refl _, fun i hi => ?_⟩
                rw [hE'.2 i hi]
                exact noIds_ck rfl
            · simp [ckN]
          rintro mu3 _ ⟨k2, hmu3, hk2, rfl⟩
          cbv
          refine ⟨fun d2 => ?_, fun d2 => ?_⟩ <;> cbv
          · rw [F.cmp] at d2
            have d2 : k2 < m' := by simpa [real, ncast, ocast] using d2
            have ek : add 0 k2 = k2 := by rw [F.add]; exact Nat.zero_add k2
            have rk : rng m' (Int.ofNat k2) := by rw [F.rng]; exact ⟨by simp, by simpa [real] using d2⟩
            have hbm : E'.getD k2 0 ∈ E' := by
              have : k2 < E'.length := by rw [← hE'.1]; exact d2
              simp [List.getD_eq_getElem?_getD, this]
            have hq := hE'.2 k2 d2
            generalize E'.getD k2 0 = bb at hbm hq
            rw [ek, hq]
            refine ⟨rk, rk, ?_⟩
            cbv
            refine ⟨⟨hle3, hnid3⟩, ?_⟩
            refine F.call (has_ l2 n3 (shift f3 0) hsh3 (by omega) bb) ?_
            rintro v s2 n2 ⟨r, hr, rfl, rfl, rfl⟩
            refine ⟨F.lent1 rfl, ?_⟩
            cases r with
            | true =>
              exfalso
              obtain ⟨s, hs, he⟩ := List.any_eq_true.1 hr.symm
              exact (hO' bb hbm).2 s hs (by simpa using he)
            | false =>
              cbv
              refine ⟨m' - (k2 + 1), _, by omega, ⟨k2 + 1, rfl, d2, rfl⟩, ?_⟩
              cbv
              refine F.say ⟨[(0, 0), (1, 1), (2, 2)], [], []⟩ ⟨?_, ?_, ?_, by simp⟩
              · simp [ckE, look, ckV, ckC, ckCs, mem, F.ari, real, wrapS d2 (show m' < 4611686018427387904 by omega)]
              · refine ⟨ltn rfl, ?_, ltn rfl, ?_, ltn rfl, ?_, trivial⟩
                · simp [look, mem, ckO, ckC, ckCs]
                · refine ⟨rfl, rfl, rfl, Nat.le_refl _, fun i hi => ?_⟩
                  rw [h3.2 i hi]
                  exact noIds_ck rfl
                · refine ⟨rfl, rfl, rfl, Nat.le_refl _, fun i hi => ?_⟩
                  rw [hE'.2 i hi]
                  exact noIds_ck rfl
              · simp [ckN]
          · refine ⟨ne - (j + 1), _, hmu', ⟨j + 1, c2, b2, l2, n3, f3, E', m', q', rfl, h1, h3, hS2, hw2, hE', hO', by omega, rfl⟩, ?_⟩
            cbv
            refine F.say ⟨[(0, 0), (1, 1), (2, 2)], [], []⟩ ⟨?_, ?_, ?_, by simp⟩
            · simp [ckE, look, ckV, ckC, ckCs, mem, F.ari, real, wrapS h1 hne2]
            · refine ⟨ltn rfl, ?_, ltn rfl, ?_, ltn rfl, ?_, trivial⟩
              · simp [look, mem, ckO, ckC, ckCs]
              · refine ⟨rfl, rfl, rfl, Nat.le_refl _, fun i hi => ?_⟩
                rw [h3.2 i hi]
                exact noIds_ck rfl
              · refine ⟨rfl, rfl, rfl, Nat.le_refl _, fun i hi => ?_⟩
                rw [hE'.2 i hi]
                exact noIds_ck rfl
            · simp [ckN]
      · cbv
        refine ⟨ne - (j + 1), _, hmu', ⟨j + 1, ck, bt, l, n, f, E, m, q, rfl, h1, h, hS, hw, hE, hO, by omega, rfl⟩, ?_⟩
        cbv
        refine F.say ⟨[(0, 0), (1, 1), (2, 2)], [], []⟩ ⟨?_, ?_, ?_, by simp⟩
        · simp [ckE, look, ckV, ckC, ckCs, mem, F.ari, real, wrapS h1 hne2]
        · refine ⟨ltn rfl, ?_, ltn rfl, ?_, ltn rfl, ?_, trivial⟩
          · simp [look, mem, ckO, ckC, ckCs]
          · refine ⟨rfl, rfl, rfl, Nat.le_refl _, fun i hi => ?_⟩
            rw [h.2 i hi]
            exact noIds_ck rfl
          · refine ⟨rfl, rfl, rfl, Nat.le_refl _, fun i hi => ?_⟩
            rw [hE.2 i hi]
            exact noIds_ck rfl
        · simp [ckN]
    · cbv
      refine ⟨?_, trivial⟩
      -- 4 the new row's number, 3 the number of next's box
      refine ⟨⟨hle, hnid⟩, ?_⟩
      refine F.call hap ?_
      rintro v s2 n2 ⟨x, n3, f3, h3, hx, rfl, rfl, rfl⟩
      refine ⟨by rw [F.safe]; exact ⟨fun _ => (by rcases hx with ⟨_, rfl⟩ | ⟨_, rfl⟩ <;> rfl), safe_row fun i hi => by rw [h3.2 i hi]; exact ⟨rfl, fun _ => rfl⟩⟩, ?_⟩
      rcases hx with ⟨hx, rfl⟩ | ⟨hx, rfl⟩
      · cbv
        have hov := hov hx
        have hmm := hmm hx
        have hn3 : n3 ≤ 32 := by rw [h3.1]; exact hS2.len
        refine ⟨fun mu2 s => ∃ (k : Nat) (E' : List Int) (m' : Nat) (q' : Nat → List CV), mu2 = n - k ∧ k ≤ n ∧ IsI E' m' q' ∧ Over ⟨c2, b2, l2⟩ E' ∧ m' ≤ 32 * j + k ∧
            s = ⟨[(0, .c (.sl 15 ne 0 fun i => (g i).cells)), (3, .c (.ptr 0 0)), (4, .c (.ref 4 1 0 m')), (5, .c (i64 j)), (6, .c (.ptr 3 0)), (8, .c (i64 k))],
              [(0, .box [i64 ck, i64 bt, .ref 1 12 0 n]), (1, .arr 45 12 n f), (2, .arr 45 12 n3 f3), (3, .box [i64 c2, i64 b2, .ref 2 12 0 n3]), (4, .arr 3 1 m' q')], 5⟩,
          ⟨_, _, ⟨0, E, m, q, rfl, Nat.zero_le _, hE, hov, by omega, rfl⟩, ?_⟩, ?_⟩
        · cbv
          refine F.say ⟨[(0, 0), (1, 1), (2, 4), (3, 3), (4, 2)], [], []⟩ ⟨?_, ?_, ?_, by simp⟩
          · simp [ckE, look, ckV, ckC, ckCs, mem]
          · refine ⟨ltn rfl, ?_, ltn rfl, ?_, ltn rfl, ?_, ltn rfl, ?_, ltn rfl, ?_, trivial⟩
            · simp [look, mem, ckO, ckC, ckCs]
            · refine ⟨rfl, rfl, rfl, Nat.le_refl _, fun i hi => ?_⟩
              rw [h.2 i hi]
              exact noIds_ck rfl
            · refine ⟨rfl, rfl, rfl, Nat.le_refl _, fun i hi => ?_⟩
              rw [h3.2 i hi]
              exact noIds_ck rfl
            · simp [look, mem, ckO, ckC, ckCs]
            · refine ⟨rfl, rfl, rfl, Nat.le_refl _, fun i hi => ?_⟩
              rw [hE.2 i hi]
              exact noIds_ck rfl
          · simp [ckN]
        rintro mu2 _ ⟨k, E', m', q', hmu2, hk, hE', hO', hm', rfl⟩
        have hle3 : le3 0 (Int.ofNat (add 0 n3)) (Int.ofNat n3) := by rw [F.le3, F.add]; exact ⟨by simp, by simp [real], by simp [real]⟩
        have hnid3 : nid n3 f3 := by rw [F.nid]; exact fun i hi => by rw [h3.2 i hi]; rfl
        have hsh3 : IsS l2 n3 (shift f3 0) := ⟨h3.1, fun i hi => by rw [F.shift]; exact h3.2 i hi⟩
        have hm2 : m' ≤ 8000 := by omega
        cbv
        refine ⟨fun d1 => ?_, fun d1 => ?_⟩ <;> cbv
        · rw [F.cmp] at d1
          have d1 : k < n := by simpa [real, ncast, ocast] using d1
          have ek : add 0 k = k := by rw [F.add]; exact Nat.zero_add k
          have rk : rng n (Int.ofNat k) := by rw [F.rng]; exact ⟨by simp, by simpa [real] using d1⟩
          obtain ⟨x, hx, hfx⟩ := h.at_ d1
          have hxl : x ∈ l := List.mem_of_getElem? hx
          rw [ek, hfx]
          refine ⟨rk, rk, ?_⟩
          cbv
          refine ⟨⟨hle3, hnid3⟩, ?_⟩
          refine F.call (has_ l2 n3 (shift f3 0) hsh3 (by omega) x.birth) ?_
          rintro v s2 n2 ⟨r, hr, rfl, rfl, rfl⟩
          refine ⟨F.lent1 rfl, ?_⟩
          cases r with
          | true =>
            cbv
            refine ⟨n - (k + 1), _, by omega, ⟨k + 1, E', m', q', rfl, d1, hE', hO', by omega, rfl⟩, ?_⟩
            cbv
            refine F.say ⟨[(0, 0), (1, 1), (2, 2), (3, 3), (4, 4)], [], []⟩ ⟨?_, ?_, ?_, by simp⟩
            · simp [ckE, look, ckV, ckC, ckCs, mem, F.ari, real, wrapS d1 (show n < 4611686018427387904 by omega)]
            · refine ⟨ltn rfl, ?_, ltn rfl, ?_, ltn rfl, ?_, ltn rfl, ?_, ltn rfl, ?_, trivial⟩
              · simp [look, mem, ckO, ckC, ckCs]
              · refine ⟨rfl, rfl, rfl, Nat.le_refl _, fun i hi => ?_⟩
                rw [h.2 i hi]
                exact noIds_ck rfl
              · refine ⟨rfl, rfl, rfl, Nat.le_refl _, fun i hi => ?_⟩
                rw [h3.2 i hi]
                exact noIds_ck rfl
              · simp [look, mem, ckO, ckC, ckCs]
              · refine ⟨rfl, rfl, rfl, Nat.le_refl _, fun i hi => ?_⟩
                rw [hE'.2 i hi]
                exact noIds_ck rfl
            · simp [ckN]
          | false =>
            cbv
            rw [ek, hfx]
            refine ⟨rk, rk, ?_⟩
            cbv
            have hroom : m' + 1 ≤ maxLen ∧ (m' + 1) * 8 ≤ 140737488355328 := ⟨by simp only [maxLen]; omega, by omega⟩
            refine ⟨by rw [F.le3, F.add]; exact ⟨by decide, by decide, by decide⟩, by rw [F.le3]; exact ⟨by simp, by simp, by simp⟩, by rw [F.room, F.add]; exact hroom, ?_⟩
            cbv
            obtain ⟨q2, hq2⟩ : ∃ q2 : Nat → List CV, ∀ i, q2 i = [i64 ((E' ++ [x.birth]).getD i 0)] := ⟨_, fun _ => rfl⟩
            have hE2 : IsI (E' ++ [x.birth]) (m' + 1) q2 := ⟨by simp [hE'.1], fun i _ => hq2 i⟩
            have hO2 : Over ⟨c2, b2, l2⟩ (E' ++ [x.birth]) := fun b hb => by
              rcases List.mem_append.1 hb with hb | hb
              · exact hO' b hb
              · simp only [List.mem_singleton] at hb
                subst hb
                refine ⟨Int.le_trans (hb1 x hxl) hmm, fun s hs he => ?_⟩
                have : l2.any (fun s => s.birth == x.birth) = true := List.any_eq_true.2 ⟨s, hs, by simpa using he⟩
                rw [this] at hr
                cases hr
            refine ⟨n - (k + 1), _, by omega, ⟨k + 1, E' ++ [x.birth], m' + 1, q2, rfl, d1, hE2, hO2, by omega, rfl⟩, ?_⟩
            cbv
            refine F.say ⟨[(0, 0), (1, 1), (2, 2), (3, 3), (4, 6)], [], []⟩ ⟨?_, ?_, ?_, by simp⟩
            · simp [ckE, look, ckV, ckC, ckCs, mem, F.ari, F.add, real, wrapS d1 (show n < 4611686018427387904 by omega)]
            · simp only [F.join, F.shift, F.add]
              refine ⟨ltn rfl, ?_, ltn rfl, ?_, ltn rfl, ?_, ltn rfl, ?_, ltn rfl, ?_, trivial⟩
              · simp [look, mem, ckO, ckC, ckCs]
              · refine ⟨rfl, rfl, rfl, Nat.le_refl _, fun i hi => ?_⟩
                rw [h.2 i hi]
                exact noIds_ck rfl
              · refine ⟨rfl, rfl, rfl, Nat.le_refl _, fun i hi => ?_⟩
                rw [h3.2 i hi]
                exact noIds_ck rfl
              · simp [look, mem, ckO, ckC, ckCs]
              · refine ⟨rfl, rfl, rfl, by simp [real], fun i hi => ?_⟩
                have e := isI_snoc hE' x.birth (show i < m' + 1 from hi)
                rw [hq2 i]
                exact (congrArg (fun c => ckCs _ _ c _) e).mpr (noIds_ck rfl)
            · simp [ckN]
        · refine ⟨fun mu3 s => ∃ k : Nat, mu3 = m' - k ∧ k ≤ m' ∧ s = ⟨[(0, .c (.sl 15 ne 0 fun i => (g i).cells)), (3, .c (.ptr 0 0)), (4, .c (.ref 2 1 0 m')), (5, .c (i64 j)), (9, .c (i64 k))],
              [(0, .box [i64 c2, i64 b2, .ref 1 12 0 n3]), (1, .arr 45 12 n3 f3), (2, .arr 3 1 m' q')], 3⟩, ⟨_, _, ⟨0, rfl, Nat.zero_le _, rfl⟩, ?_⟩, ?_⟩
          · cbv
            refine F.say ⟨[(0, 0), (1, 2), (2, 4)], [], []⟩ ⟨?_, ?_, ?_, by simp⟩
            · simp [ckE, look, ckV, ckC, ckCs, mem]
            · refine ⟨ltn rfl, ?_, ltn rfl, ?_, ltn rfl, ?_, trivial⟩
              · simp [look, mem, ckO, ckC, ckCs]
              · refine ⟨rfl, rfl, rfl, Nat.le_refl _, fun i hi => ?_⟩
                rw [h3.2 i hi]
                exact noIds_ck rfl
              · refine ⟨rfl, rfl, rfl, Nat.le_refl _, fun i hi => ?_⟩
                rw [hE'.2 i hi]
                exact noIds_ck rfl
            · simp [ckN]
          rintro mu3 _ ⟨k2, hmu3, hk2, rfl⟩
          cbv
          refine ⟨fun d2 => ?_, fun d2 => ?_⟩ <;> cbv
          · rw [F.cmp] at d2
            have d2 : k2 < m' := by simpa [real, ncast, ocast] using d2
            have ek : add 0 k2 = k2 := by rw [F.add]; exact Nat.zero_add k2
            have rk : rng m' (Int.ofNat k2) := by rw [F.rng]; exact ⟨by simp, by simpa [real] using d2⟩
            have hbm : E'.getD k2 0 ∈ E' := by
              have : k2 < E'.length := by rw [← hE'.1]; exact d2
              simp [List.getD_eq_getElem?_getD, this]
            have hq := hE'.2 k2 d2
            generalize E'.getD k2 0 = bb at hbm hq
            rw [ek, hq]
            refine ⟨rk, rk, ?_⟩
            cbv
            refine ⟨⟨hle3, hnid3⟩, ?_⟩
            refine F.call (has_ l2 n3 (shift f3 0) hsh3 (by omega) bb) ?_
            rintro v s2 n2 ⟨r, hr, rfl, rfl, rfl⟩
            refine ⟨F.lent1 rfl, ?_⟩
            cases r with
            | true =>
              exfalso
              obtain ⟨s, hs, he⟩ := List.any_eq_true.1 hr.symm
              exact (hO' bb hbm).2 s hs (by simpa using he)
            | false =>
              cbv
              refine ⟨m' - (k2 + 1), _, by omega, ⟨k2 + 1, rfl, d2, rfl⟩, ?_⟩
              cbv
              refine F.say ⟨[(0, 0), (1, 1), (2, 2)], [], []⟩ ⟨?_, ?_, ?_, by simp⟩
              · simp [ckE, look, ckV, ckC, ckCs, mem, F.ari, real, wrapS d2 (show m' < 4611686018427387904 by omega)]
              · refine ⟨ltn rfl, ?_, ltn rfl, ?_, ltn rfl, ?_, trivial⟩
                · simp [look, mem, ckO, ckC, ckCs]
                · refine ⟨rfl, rfl, rfl, Nat.le_refl _, fun i hi => ?_⟩
                  rw [h3.2 i hi]
                  exact noIds_ck rfl
                · refine ⟨rfl, rfl, rfl, Nat.le_refl _, fun i hi => ?_⟩
                  rw [hE'.2 i hi]
                  exact noIds_ck rfl
              · simp [ckN]
          · refine ⟨ne - (j + 1), _, hmu', ⟨j + 1, c2, b2, l2, n3, f3, E', m', q', rfl, h1, h3, hS2, hw2, hE', hO', by omega, rfl⟩, ?_⟩
            cbv
            refine F.say ⟨[(0, 0), (1, 1), (2, 2)], [], []⟩ ⟨?_, ?_, ?_, by simp⟩
            · simp [ckE, look, ckV, ckC, ckCs, mem, F.ari, real, wrapS h1 hne2]
            · refine ⟨ltn rfl, ?_, ltn rfl, ?_, ltn rfl, ?_, trivial⟩
              · simp [look, mem, ckO, ckC, ckCs]
              · refine ⟨rfl, rfl, rfl, Nat.le_refl _, fun i hi => ?_⟩
                rw [h3.2 i hi]
                exact noIds_ck rfl
              · refine ⟨rfl, rfl, rfl, Nat.le_refl _, fun i hi => ?_⟩
                rw [hE'.2 i hi]
                exact noIds_ck rfl
            · simp [ckN]
      · cbv
        refine ⟨ne - (j + 1), _, hmu', ⟨j + 1, ck, bt, l, n, f, E, m, q, rfl, h1, h, hS, hw, hE, hO, by omega, rfl⟩, ?_⟩
        cbv
        refine F.say ⟨[(0, 0), (1, 1), (2, 2)], [], []⟩ ⟨?_, ?_, ?_, by simp⟩
        · simp [ckE, look, ckV, ckC, ckCs, mem, F.ari, real, wrapS h1 hne2]
        · refine ⟨ltn rfl, ?_, ltn rfl, ?_, ltn rfl, ?_, trivial⟩
          · simp [look, mem, ckO, ckC, ckCs]
          · refine ⟨rfl, rfl, rfl, Nat.le_refl _, fun i hi => ?_⟩
            rw [h.2 i hi]
            exact noIds_ck rfl
          · refine ⟨rfl, rfl, rfl, Nat.le_refl _, fun i hi => ?_⟩
            rw [hE.2 i hi]
            exact noIds_ck rfl
        · simp [ckN]
  · exact hK _ _ _ (said_plain ⟨_, rfl, rfl, rfl, rfl⟩ rfl)
end Am
