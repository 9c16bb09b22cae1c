/-
  lineagelaw24.ReplayPieces: the walk.
-/
import Derived.Test.YtijphjckgdomlaaVe
import Derived.Test.YtijphjckgdomlaaVg
set_option linter.all false
namespace Am
open Go Go.Proofs
set_option maxRecDepth 10000
set_option maxHeartbeats 4000000

theorem all_wf : ∀ (l : List Ev) {st : State}, WfSt st → (∀ e ∈ l, e.s.wf) → WfSt (all st l).1 := by
  intro l
  induction l with
  | nil => intro st h _; exact h
  | cons e r ih =>
    intro st h hl
    simp only [all]
    split
    · exact ih (apply_wf h (hl e (by simp))) (fun x hx => hl x (List.mem_cons_of_mem _ hx))
    · exact h
theorem isE_snoc {l : List Ev} {n : Nat} {f : Nat → List CV} (h : IsE l n f) (e : Ev) {i : Nat} (hi : i < n + 1) :
    (if i < n then f i else pickR [e.cells] (i - n + 0)) = ((l ++ [e]).getD i .zero).cells := by
  obtain ⟨rfl, hf⟩ := h
  by_cases h1 : i < l.length
  · rw [if_pos h1, hf i h1]
    simp only [List.getD_eq_getElem?_getD, List.getElem?_append_left h1]
  · rw [if_neg h1]
    have : i = l.length := by omega
    subst this
    simp [pickR, List.getD_eq_getElem?_getD]
theorem tick_no {st : State} {t : Int} (h1 : 1 ≤ t) (h2 : t ≤ 1073741824) (hc : 1099511627776 < st.clock + t) : apply st (tickEv t) = (.zero, 12) := by
  rw [apply_tick h1 h2, if_pos (by omega)]

theorem replayPieces (ls ms : List Ev) (nl nm : Nat) (fl fm : Nat → List CV) (hl : IsE ls nl fl) (hm : IsE ms nm fm) (cut : Int) (hwl : ∀ e ∈ ls, e.s.wf) (hwm : ∀ e ∈ ms, e.s.wf) :
    TriS Try.prog 6 [.c (.sl 15 nl 0 fl), .c (.sl 15 nm 0 fm), .c (i64 cut)] [] 0 (RetB true) := by
  obtain ⟨gl, hgl⟩ : ∃ g : Nat → Ev, ∀ i, g i = ls.getD i .zero := ⟨_, fun _ => rfl⟩
  obtain ⟨gm, hgm⟩ : ∃ g : Nat → Ev, ∀ i, g i = ms.getD i .zero := ⟨_, fun _ => rfl⟩
  have hnl := hl.1
  have hnm := hm.1
  have hatl : ∀ k, k < nl → ls[k]? = some (gl k) := fun k hk => by
    have : k < ls.length := by omega
    rw [hgl, List.getD_eq_getElem?_getD, List.getElem?_eq_getElem this]; rfl
  have hatm : ∀ k, k < nm → ms[k]? = some (gm k) := fun k hk => by
    have : k < ms.length := by omega
    rw [hgm, List.getD_eq_getElem?_getD, List.getElem?_eq_getElem this]; rfl
  have hL : IsE ls nl (fun i => (gl i).cells) := ⟨hnl, fun i _ => by rw [← hgl]⟩
  have hM : IsE ms nm (fun i => (gm i).cells) := ⟨hnm, fun i _ => by rw [← hgm]⟩
  refine TriS.args (vs' := [.c (.sl 15 nl 0 fun i => (gl i).cells), .c (.sl 15 nm 0 fun i => (gm i).cells), .c (i64 cut)]) ?_ ⟨⟨rfl, rfl, rfl, fun i hi => by rw [hl.2 i (by omega), ← hgl]⟩, ⟨rfl, rfl, rfl, fun i hi => by rw [hm.2 i (by omega), ← hgm]⟩, rfl, trivial⟩
  clear hl hm
  refine walk tab_ok mixed (noMeths rfl) (C := cfg6) (fn := Try.f6) (c := Try.f6.body.getD .skip) (by kernel_rfl) (by kernel_rfl) (by kernel_rfl) (by kernel_rfl) (by kernel_rfl) 120 ?_
  intro ari shf cmp scmp band beq bnot neg unx wrap slen sat ssub cat bstr toN sub add shift join setf bytes updb updv rng idx isb le3 nz room nil0 catok rune rnext more rstr nid safe tri weak Kx hK F
  have htoN := F.toN
  subst htoN
  cbv
  refine F.call works_ ?_
  rintro v s2 n2 ⟨r, rfl, rfl, rfl, rfl⟩
  refine ⟨F.lent0, ?_⟩
  cbv
  refine ⟨fun h0 => ?_, fun h0 => ?_⟩ <;> cbv
  rotate_left
  · refine F.call works_ ?_
    rintro v s2 n2 ⟨r, rfl, rfl, rfl, rfl⟩
    refine ⟨F.lent0, ?_⟩
    cbv
    exact hK _ _ _ (said_plain ⟨_, rfl, rfl, rfl, rfl⟩ rfl)
  refine ⟨fun h1 => ?_, fun h1 => ?_⟩ <;> cbv
  · refine F.call works_ ?_
    rintro v s2 n2 ⟨r, rfl, rfl, rfl, rfl⟩
    refine ⟨F.lent0, ?_⟩
    cbv
    exact hK _ _ _ (said_plain ⟨_, rfl, rfl, rfl, rfl⟩ rfl)
  have hl100 : nl ≤ 100 := by
    rw [F.cmp] at h0
    simp [real, ncast, ocast] at h0
    omega
  have hm100 : nm ≤ 100 := by
    rw [F.cmp] at h1
    simp [real, ncast, ocast] at h1
    omega
  have hA := all_ 0 0 [] 0 (fun _ => []) ⟨rfl, fun i hi => by omega⟩ (by omega) wf_zero ls nl _ hL (by omega) hwl
  have hSa := sound_all ls sound_zero
  have hWa := all_wf ls wf_zero hwl
  have hap := all_append ls ms .zero
  rw [show (⟨0, 0, []⟩ : State) = .zero from rfl] at hA
  generalize all .zero ls = ra at hA hSa hWa hap
  obtain ⟨⟨ca, ba, la⟩, na⟩ := ra
  simp only at hSa hWa hap
  refine F.call (TriS.args hA ⟨⟨rfl, rfl, ⟨rfl, rfl, rfl⟩, trivial⟩, ⟨rfl, rfl, rfl, fun _ _ => rfl⟩, trivial⟩) ?_
  rintro v s2 n2 ⟨kna, n1, f1, hs1, hkna, rfl, rfl, rfl⟩
  simp only at hkna hs1
  refine ⟨by rw [F.safe]; exact ⟨fun h => (by cases h), safe_row fun i hi => ⟨by rw [hs1.2 i hi]; rfl, fun h => (by cases h)⟩⟩, ?_⟩
  cbv
  have hn1 : n1 ≤ 32 := by rw [hs1.1]; exact hSa.len
  have hle1 : le3 0 (Int.ofNat (add 0 n1)) (Int.ofNat n1) := by rw [F.le3, F.add]; exact ⟨by simp, by simp [real], by simp [real]⟩
  have hnid1 : nid n1 f1 := by rw [F.nid]; exact fun i hi => by rw [hs1.2 i hi]; rfl
  have hsh1 : IsS la n1 (shift f1 0) := ⟨hs1.1, fun i hi => by rw [F.shift]; exact hs1.2 i hi⟩
  have hB := all_ ca ba la n1 (shift f1 0) hsh1 (by omega) hWa ms nm _ hM (by omega) hwm
  have hSb := sound_all ms hSa
  have hnb := all_le ms ⟨ca, ba, la⟩
  generalize all ⟨ca, ba, la⟩ ms = rb at hB hSb hap hnb
  obtain ⟨⟨cb, bb, lb⟩, nb⟩ := rb
  simp only at hSb hap hnb
  refine ⟨⟨hle1, hnid1⟩, ?_⟩
  refine F.call hB ?_
  rintro v s2 n2 ⟨knb, n2', f2, hs2, hknb, rfl, rfl, rfl⟩
  simp only at hknb hs2
  refine ⟨by rw [F.safe]; exact ⟨fun _ => rfl, safe_row fun i hi => by rw [hs2.2 i hi]; exact ⟨rfl, fun _ => rfl⟩⟩, ?_⟩
  have hn2 : n2' ≤ 32 := by rw [hs2.1]; exact hSb.len
  cbv
  have hck := hSa.clk
  simp only at hck
  refine ⟨fun h5 => ?_, fun h5 => ?_⟩ <;> cbv
  · rw [F.cmp] at h5
    have h5 : na = ls.length := by
      rw [hkna] at h5
      simp [real, ncast, ocast] at h5
      omega
    have hap := hap h5
    refine ⟨fun mu st => ∃ (j n' : Nat) (f' : Nat → List CV), mu = nl - j ∧ j ≤ nl ∧ IsE (ls.take j) n' f' ∧ n' ≤ j ∧
        st = ⟨[(0, .c (.sl 15 nl 0 fun i => (gl i).cells)), (1, .c (.sl 15 nm 0 fun i => (gm i).cells)), (2, .c (i64 cut)), (7, .c (.ptr 1 0)), (8, .c (i64 kna)), (9, .c (.ptr 3 0)), (10, .c (i64 knb)), (11, .c (.ref 4 15 0 n')), (12, .c (i64 j))],
          [(0, .arr 45 12 n1 f1), (1, .box [i64 ca, i64 ba, .ref 0 12 0 n1]), (2, .arr 45 12 n2' f2), (3, .box [i64 cb, i64 bb, .ref 2 12 0 n2']), (4, .arr 47 15 n' f')], 5⟩,
      ⟨_, _, ⟨0, 0, fun _ => [], rfl, Nat.zero_le _, ⟨by simp, fun i hi => by omega⟩, Nat.le_refl _, rfl⟩, ?_⟩, ?_⟩
    · cbv
      refine F.say ⟨[(0, 0), (1, 1), (2, 2), (3, 3)], [4], []⟩ ⟨?_, ?_, ?_, by simp⟩
      · simp [ckE, look, ckV, ckC, ckCs, mem]
      · refine ⟨ltn rfl, ?_, ltn rfl, ?_, ltn rfl, ?_, ltn rfl, ?_, ltn rfl, trivial, trivial⟩
        · refine ⟨rfl, rfl, rfl, Nat.le_refl _, fun i hi => ?_⟩
          rw [hs1.2 i hi]
          exact noIds_ck rfl
        · simp [look, mem, ckO, ckC, ckCs]
        · refine ⟨rfl, rfl, rfl, Nat.le_refl _, fun i hi => ?_⟩
          rw [hs2.2 i hi]
          exact noIds_ck rfl
        · simp [look, mem, ckO, ckC, ckCs]
      · simp [ckN]
    rintro mu _ ⟨j, n', f', hmu, hj, hE, hnj, rfl⟩
    cbv
    refine ⟨fun h6 => ?_, fun h6 => ?_⟩ <;> cbv
    · rw [F.cmp] at h6
      have h6 : j < nl := by simpa [real, ncast, ocast] using h6
      refine ⟨by rw [F.rng]; exact ⟨by simp, by simpa [real] using h6⟩, ?_⟩
      cbv
      have hx := hatl j h6
      generalize gl j = e at hx ⊢
      have htk : ls.take (j + 1) = ls.take j ++ [e] := by rw [List.take_add_one, hx]; rfl
      -- one event more: 4 row n' its length, ls.take j ++ [e] the list, e the event, $5 count, $6 bound of it
      cbv
      have hroom : n' + 1 ≤ maxLen ∧ (n' + 1) * 136 ≤ 140737488355328 := ⟨by simp only [maxLen]; omega, by omega⟩
      refine ⟨by rw [F.le3, F.add]; exact ⟨by decide, by decide, by decide⟩, by rw [F.le3]; exact ⟨by simp, by simp, by simp⟩, by rw [F.room, F.add]; exact hroom, ?_⟩
      cbv
      obtain ⟨q2, hq2⟩ : ∃ q2 : Nat → List CV, ∀ i, q2 i = ((ls.take j ++ [e]).getD i .zero).cells := ⟨_, fun _ => rfl⟩
      have hE2 : IsE (ls.take (j + 1)) (n' + 1) q2 := ⟨by rw [htk]; simp only [List.length_append, List.length_cons, List.length_nil]; rw [hE.1], fun i _ => by rw [hq2, htk]⟩
      refine ⟨nl - (j + 1), _, by omega, ⟨j + 1, n' + 1, q2, rfl, h6, hE2, by omega, rfl⟩, ?_⟩
      cbv
      refine F.say ⟨[(0, 0), (1, 1), (2, 2), (3, 3), (4, 6)], [], []⟩ ⟨?_, ?_, ?_, by simp⟩
      · simp [ckE, look, ckV, ckC, ckCs, mem, F.ari, F.add, real, wrapS h6 (show nl < 4611686018427387904 by omega)]
      · simp only [F.join, F.shift, F.add]
        -- $1: the new row
        refine ⟨ltn rfl, ?_, ltn rfl, ?_, ltn rfl, ?_, ltn rfl, ?_, ltn rfl, ?_, trivial⟩
        · refine ⟨rfl, rfl, rfl, Nat.le_refl _, fun i hi => ?_⟩
          rw [hs1.2 i hi]
          exact noIds_ck rfl
        · simp [look, mem, ckO, ckC, ckCs]
        · refine ⟨rfl, rfl, rfl, Nat.le_refl _, fun i hi => ?_⟩
          rw [hs2.2 i hi]
          exact noIds_ck rfl
        · simp [look, mem, ckO, ckC, ckCs]
        · refine ⟨rfl, rfl, rfl, by simp [real], fun i hi => ?_⟩
          have q := isE_snoc hE e (show i < n' + 1 from hi)
          rw [hq2 i]
          exact (congrArg (fun c => ckCs _ _ c _) q).mpr (noIds_ck rfl)
      · simp [ckN]
    · rw [F.cmp] at h6
      have h6 : ¬ j < nl := by simpa [real, ncast, ocast] using h6
      have hjl : j = ls.length := by omega
      rw [hjl, List.take_length] at hE
      refine ⟨fun mu st => ∃ (j n' : Nat) (f' : Nat → List CV), mu = nm - j ∧ j ≤ nm ∧ IsE (ls ++ ms.take j) n' f' ∧ n' ≤ 100 + j ∧
          st = ⟨[(0, .c (.sl 15 nl 0 fun i => (gl i).cells)), (1, .c (.sl 15 nm 0 fun i => (gm i).cells)), (2, .c (i64 cut)), (7, .c (.ptr 1 0)), (8, .c (i64 kna)), (9, .c (.ptr 3 0)), (10, .c (i64 knb)), (11, .c (.ref 4 15 0 n')), (13, .c (i64 j))],
            [(0, .arr 45 12 n1 f1), (1, .box [i64 ca, i64 ba, .ref 0 12 0 n1]), (2, .arr 45 12 n2' f2), (3, .box [i64 cb, i64 bb, .ref 2 12 0 n2']), (4, .arr 47 15 n' f')], 5⟩,
        ⟨_, _, ⟨0, n', f', rfl, Nat.zero_le _, by simpa using hE, by omega, rfl⟩, ?_⟩, ?_⟩
      · cbv
        refine F.say ⟨[(0, 0), (1, 1), (2, 2), (3, 3), (4, 4)], [], []⟩ ⟨?_, ?_, ?_, by simp⟩
        · simp [ckE, look, ckV, ckC, ckCs, mem]
        · -- $1: the new row
          refine ⟨ltn rfl, ?_, ltn rfl, ?_, ltn rfl, ?_, ltn rfl, ?_, ltn rfl, ?_, trivial⟩
          · refine ⟨rfl, rfl, rfl, Nat.le_refl _, fun i hi => ?_⟩
            rw [hs1.2 i hi]
            exact noIds_ck rfl
          · simp [look, mem, ckO, ckC, ckCs]
          · refine ⟨rfl, rfl, rfl, Nat.le_refl _, fun i hi => ?_⟩
            rw [hs2.2 i hi]
            exact noIds_ck rfl
          · simp [look, mem, ckO, ckC, ckCs]
          · refine ⟨rfl, rfl, rfl, Nat.le_refl _, fun i hi => ?_⟩
            rw [hE.2 i hi]
            exact noIds_ck rfl
        · simp [ckN]
      rintro mu2 _ ⟨j2, n', f', hmu2, hj2, hE, hnj, rfl⟩
      cbv
      refine ⟨fun h7 => ?_, fun h7 => ?_⟩ <;> cbv
      · rw [F.cmp] at h7
        have h7 : j2 < nm := by simpa [real, ncast, ocast] using h7
        refine ⟨by rw [F.rng]; exact ⟨by simp, by simpa [real] using h7⟩, ?_⟩
        cbv
        have hx := hatm j2 h7
        generalize gm j2 = e at hx ⊢
        have htk : ls ++ ms.take (j2 + 1) = (ls ++ ms.take j2) ++ [e] := by rw [List.take_add_one, hx, List.append_assoc]; rfl
        -- one event more: 4 row n' its length, (ls ++ ms.take j2) ++ [e] the list, e the event, $5 count, $6 bound of it
        cbv
        have hroom : n' + 1 ≤ maxLen ∧ (n' + 1) * 136 ≤ 140737488355328 := ⟨by simp only [maxLen]; omega, by omega⟩
        refine ⟨by rw [F.le3, F.add]; exact ⟨by decide, by decide, by decide⟩, by rw [F.le3]; exact ⟨by simp, by simp, by simp⟩, by rw [F.room, F.add]; exact hroom, ?_⟩
        cbv
        obtain ⟨q2, hq2⟩ : ∃ q2 : Nat → List CV, ∀ i, q2 i = (((ls ++ ms.take j2) ++ [e]).getD i .zero).cells := ⟨_, fun _ => rfl⟩
        have hE2 : IsE (ls ++ ms.take (j2 + 1)) (n' + 1) q2 := ⟨by rw [htk]; simp only [List.length_append (bs := [e]), List.length_cons, List.length_nil]; rw [hE.1], fun i _ => by rw [hq2, htk]⟩
        refine ⟨nm - (j2 + 1), _, by omega, ⟨j2 + 1, n' + 1, q2, rfl, h7, hE2, by omega, rfl⟩, ?_⟩
        cbv
        refine F.say ⟨[(0, 0), (1, 1), (2, 2), (3, 3), (4, 6)], [], []⟩ ⟨?_, ?_, ?_, by simp⟩
        · simp [ckE, look, ckV, ckC, ckCs, mem, F.ari, F.add, real, wrapS h7 (show nm < 4611686018427387904 by omega)]
        · simp only [F.join, F.shift, F.add]
          -- $1: the new row
          refine ⟨ltn rfl, ?_, ltn rfl, ?_, ltn rfl, ?_, ltn rfl, ?_, ltn rfl, ?_, trivial⟩
          · refine ⟨rfl, rfl, rfl, Nat.le_refl _, fun i hi => ?_⟩
            rw [hs1.2 i hi]
            exact noIds_ck rfl
          · simp [look, mem, ckO, ckC, ckCs]
          · refine ⟨rfl, rfl, rfl, Nat.le_refl _, fun i hi => ?_⟩
            rw [hs2.2 i hi]
            exact noIds_ck rfl
          · simp [look, mem, ckO, ckC, ckCs]
          · refine ⟨rfl, rfl, rfl, by simp [real], fun i hi => ?_⟩
            have q := isE_snoc hE e (show i < n' + 1 from hi)
            rw [hq2 i]
            exact (congrArg (fun c => ckCs _ _ c _) q).mpr (noIds_ck rfl)
        · simp [ckN]
      · rw [F.cmp] at h7
        have h7 : ¬ j2 < nm := by simpa [real, ncast, ocast] using h7
        have hjm : j2 = ms.length := by omega
        rw [hjm, List.take_length] at hE
        have hC := all_ 0 0 [] 0 (fun _ => []) ⟨rfl, fun i hi => by omega⟩ (by omega) wf_zero (ls ++ ms) n' (shift f' 0) ⟨hE.1, fun i hi => by rw [F.shift]; exact hE.2 i hi⟩ (by omega) (fun e he => by
          rcases List.mem_append.1 he with he | he
          · exact hwl e he
          · exact hwm e he)
        rw [show (⟨0, 0, []⟩ : State) = .zero from rfl, hap] at hC
        refine ⟨⟨by rw [F.le3, F.add]; exact ⟨by simp, by simp [real], by simp [real]⟩, by rw [F.nid]; exact fun i hi => by rw [hE.2 i hi]; rfl⟩, ?_⟩
        refine F.call (TriS.args hC ⟨⟨rfl, rfl, ⟨rfl, rfl, rfl⟩, trivial⟩, ⟨rfl, rfl, rfl, fun _ _ => rfl⟩, trivial⟩) ?_
        rintro v s2 n2 ⟨knc, n3, f3, hs3, hknc, rfl, rfl, rfl⟩
        simp only at hknc hs3
        refine ⟨by rw [F.safe]; exact ⟨fun _ => rfl, safe_row fun i hi => by rw [hs3.2 i hi]; exact ⟨rfl, fun _ => rfl⟩⟩, ?_⟩
        cbv
        have hjn : ari .add .i64 kna knb = knc := by
          have a1 : kna = (na : Int) := hkna
          have a2 : knb = (nb : Int) := hknb
          have a3 : knc = ((ls.length + nb : Nat) : Int) := hknc
          rw [F.ari]
          exact (wrap64 (by omega) (by omega)).trans (by omega)
        rw [hjn]
        refine ⟨fun h8 => ?_, fun h8 => ?_⟩ <;> cbv
        · refine ⟨⟨⟨by rw [F.le3, F.add]; exact ⟨by simp, by simp [real], by simp [real]⟩, by rw [F.nid]; exact fun i hi => by rw [hs2.2 i hi]; rfl⟩, by rw [F.le3, F.add]; exact ⟨by simp, by simp [real], by simp [real]⟩, by rw [F.nid]; exact fun i hi => by rw [hs3.2 i hi]; rfl⟩, ?_⟩
          refine F.call (sameState_ ⟨cb, bb, lb⟩ ⟨cb, bb, lb⟩ n2' n3 (shift f2 0) (shift f3 0) ⟨hs2.1, fun i hi => by rw [F.shift]; exact hs2.2 i hi⟩ ⟨hs3.1, fun i hi => by rw [F.shift]; exact hs3.2 i hi⟩ (by omega)) ?_
          rintro v s2 n2 ⟨r, hr, rfl, rfl, rfl⟩
          refine ⟨F.lent1 rfl, ?_⟩
          have hr := hr.2 rfl
          subst hr
          cbv
          -- $1, $2, $3: numbers of the rows of x, y, z; $4: more of what is lent
          refine F.call (pick_ cut 1000 (by omega) (by omega)) ?_
          rintro v s2 n2 ⟨q, hq, rfl, rfl, rfl⟩
          have hqr := pickV_range (k := cut) (n := 1000) (by omega)
          rw [← hq] at hqr
          refine ⟨F.lent0, ?_⟩
          cbv
          generalize ht : ari .add .i64 2 q = t
          have ht : t = 2 + q := by rw [← ht, F.ari]; exact wrap64 (by omega) (by omega)
          refine ⟨by rw [F.nz]; simp [real], ?_⟩
          generalize ari .quo .i64 cut 7 = c7
          generalize ht1 : ari .sub .i64 t 1 = t1
          have ht1 : t1 = t - 1 := by rw [← ht1, F.ari]; exact wrap64 (by omega) (by omega)
          refine F.call (pick_ c7 t1 (by omega) (by omega)) ?_
          rintro v s2 n2 ⟨q2, hq2, rfl, rfl, rfl⟩
          have hqr2 := pickV_range (k := c7) (n := t1) (by omega)
          rw [← hq2] at hqr2
          refine ⟨F.lent0, ?_⟩
          cbv
          generalize hhf : ari .add .i64 1 q2 = hf
          have hhf : hf = 1 + q2 := by rw [← hhf, F.ari]; exact wrap64 (by omega) (by omega)
          have zsc : ∀ t : Int, 0 ≤ (tickEv t).s.scopes ∧ (tickEv t).s.scopes < 18446744073709551616 := fun t => zero_wf.scopes
          have zwf : ∀ t : Int, (tickEv t).s.wf := fun t => zero_wf
          have cx := apply_ ca ba la n1 (shift f1 0) hsh1 (by omega) (tickEv t) hWa.clock hWa.births hWa.l (zsc t)
          have cy := apply_ ca ba la n1 (shift f1 0) hsh1 (by omega) (tickEv hf) hWa.clock hWa.births hWa.l (zsc hf)
          have wy := apply_wf (e := tickEv hf) hWa (zwf hf)
          have ly := apply_len (st := ⟨ca, ba, la⟩) (e := tickEv hf) (m := 1048576) (by simp only; rw [← hs1.1]; omega) (by omega)
          have lx := apply_len (st := ⟨ca, ba, la⟩) (e := tickEv t) (m := 1048576) (by simp only; rw [← hs1.1]; omega) (by omega)
          by_cases hbig : ca + t ≤ 1099511627776
          · obtain ⟨g1, g2, g3, g4⟩ := tick_two (st := ⟨ca, ba, la⟩) (t := t) (h := hf) hck.1 (by omega) (by omega) (by omega) hbig
            generalize apply ⟨ca, ba, la⟩ (tickEv t) = rx at cx lx g1 g4
            generalize apply ⟨ca, ba, la⟩ (tickEv hf) = ry at cy wy ly g2 g3 g4
            obtain ⟨⟨ckx, bx, llx⟩, ex⟩ := rx
            obtain ⟨⟨cky, by_, lly⟩, ey⟩ := ry
            simp only at wy ly lx g1 g2 g3 g4
            refine ⟨⟨hle1, hnid1⟩, ?_⟩
            refine F.call cx ?_
            rintro v s2 n2 ⟨x1, m1, u1, h1x, hx1, rfl, rfl, rfl⟩
            simp only at h1x
            have e1 : x1 = .v .nilIface := by
              rcases hx1 with ⟨_, h⟩ | ⟨hne, _⟩
              · exact h
              · exact absurd g1 hne
            refine ⟨by rw [F.safe]; exact ⟨fun _ => (by rcases hx1 with ⟨_, rfl⟩ | ⟨_, rfl⟩ <;> rfl), safe_row fun i hi => by rw [(h1x).2 i hi]; exact ⟨rfl, fun _ => rfl⟩⟩, ?_⟩
            subst e1
            cbv
            refine ⟨⟨hle1, hnid1⟩, ?_⟩
            refine F.call cy ?_
            rintro v s2 n2 ⟨x2, m2, u2, h2x, hx2, rfl, rfl, rfl⟩
            simp only at h2x
            have e2 : x2 = .v .nilIface := by
              rcases hx2 with ⟨_, h⟩ | ⟨hne, _⟩
              · exact h
              · exact absurd g2 hne
            refine ⟨by rw [F.safe]; exact ⟨fun _ => (by rcases hx2 with ⟨_, rfl⟩ | ⟨_, rfl⟩ <;> rfl), safe_row fun i hi => by rw [(h2x).2 i hi]; exact ⟨rfl, fun _ => rfl⟩⟩, ?_⟩
            subst e2
            cbv
            generalize ht3 : ari .sub .i64 t hf = t3
            have ht3 : t3 = t - hf := by rw [← ht3, F.ari]; exact wrap64 (by omega) (by omega)
            rw [← ht3] at g3 g4
            have cz := apply_ cky by_ lly m2 (shift u2 0) ⟨h2x.1, fun i hi => by rw [F.shift]; exact h2x.2 i hi⟩ (by rw [h2x.1]; exact ly) (tickEv t3) wy.clock wy.births wy.l (zsc t3)
            generalize apply ⟨cky, by_, lly⟩ (tickEv t3) = rz at cz g3 g4
            obtain ⟨⟨ckz, bz, llz⟩, ez⟩ := rz
            simp only at g3 g4
            refine ⟨⟨by rw [F.le3, F.add]; exact ⟨by simp, by simp [real], by simp [real]⟩, by rw [F.nid]; exact fun i hi => by rw [h2x.2 i hi]; rfl⟩, ?_⟩
            refine F.call cz ?_
            rintro v s2 n2 ⟨x3, m3, u3, h3x, hx3, rfl, rfl, rfl⟩
            simp only at h3x
            have e3 : x3 = .v .nilIface := by
              rcases hx3 with ⟨_, h⟩ | ⟨hne, _⟩
              · exact h
              · exact absurd g3 hne
            refine ⟨by rw [F.safe]; exact ⟨fun _ => (by rcases hx3 with ⟨_, rfl⟩ | ⟨_, rfl⟩ <;> rfl), safe_row fun i hi => by rw [(h3x).2 i hi]; exact ⟨rfl, fun _ => rfl⟩⟩, ?_⟩
            subst e3
            cbv
            refine ⟨⟨⟨by rw [F.le3, F.add]; exact ⟨by simp, by simp [real], by simp [real]⟩, by rw [F.nid]; exact fun i hi => by rw [h1x.2 i hi]; rfl⟩, by rw [F.le3, F.add]; exact ⟨by simp, by simp [real], by simp [real]⟩, by rw [F.nid]; exact fun i hi => by rw [h3x.2 i hi]; rfl⟩, ?_⟩
            refine F.call (sameState_ ⟨ckx, bx, llx⟩ ⟨ckz, bz, llz⟩ m1 m3 (shift u1 0) (shift u3 0) ⟨h1x.1, fun i hi => by rw [F.shift]; exact h1x.2 i hi⟩ ⟨h3x.1, fun i hi => by rw [F.shift]; exact h3x.2 i hi⟩ (by rw [h1x.1]; exact lx)) ?_
            rintro v s2 n2 ⟨r, hr, rfl, rfl, rfl⟩
            refine ⟨F.lent1 rfl, ?_⟩
            have hr := hr.2 g4.symm
            subst hr
            cbv
            exact hK _ _ _ (said_plain ⟨_, rfl, rfl, rfl, rfl⟩ rfl)
          · have g1 := tick_no (st := ⟨ca, ba, la⟩) (t := t) (by omega) (by omega) (by simp only; omega)
            rw [g1] at cx
            generalize apply ⟨ca, ba, la⟩ (tickEv hf) = ry at cy wy ly
            obtain ⟨⟨cky, by_, lly⟩, ey⟩ := ry
            simp only at wy ly
            refine ⟨⟨hle1, hnid1⟩, ?_⟩
            refine F.call cx ?_
            rintro v s2 n2 ⟨x1, m1, u1, h1x, hx1, rfl, rfl, rfl⟩
            simp only at h1x
            have e1 : x1 = .if1 62 (i64 12) := by
              rcases hx1 with ⟨hne, _⟩ | ⟨_, h⟩
              · exact absurd hne (by simp)
              · exact h
            refine ⟨by rw [F.safe]; exact ⟨fun _ => (by rcases hx1 with ⟨_, rfl⟩ | ⟨_, rfl⟩ <;> rfl), safe_row fun i hi => by rw [(h1x).2 i hi]; exact ⟨rfl, fun _ => rfl⟩⟩, ?_⟩
            subst e1
            cbv
            refine ⟨⟨hle1, hnid1⟩, ?_⟩
            refine F.call cy ?_
            rintro v s2 n2 ⟨x2, m2, u2, h2x, hx2, rfl, rfl, rfl⟩
            simp only at h2x
            refine ⟨by rw [F.safe]; exact ⟨fun _ => (by rcases hx2 with ⟨_, rfl⟩ | ⟨_, rfl⟩ <;> rfl), safe_row fun i hi => by rw [(h2x).2 i hi]; exact ⟨rfl, fun _ => rfl⟩⟩, ?_⟩
            cbv
            generalize ht3 : ari .sub .i64 t hf = t3
            have cz := apply_ cky by_ lly m2 (shift u2 0) ⟨h2x.1, fun i hi => by rw [F.shift]; exact h2x.2 i hi⟩ (by rw [h2x.1]; exact ly) (tickEv t3) wy.clock wy.births wy.l (zsc t3)
            generalize apply ⟨cky, by_, lly⟩ (tickEv t3) = rz at cz
            obtain ⟨⟨ckz, bz, llz⟩, ez⟩ := rz
            refine ⟨⟨by rw [F.le3, F.add]; exact ⟨by simp, by simp [real], by simp [real]⟩, by rw [F.nid]; exact fun i hi => by rw [h2x.2 i hi]; rfl⟩, ?_⟩
            refine F.call cz ?_
            rintro v s2 n2 ⟨x3, m3, u3, h3x, hx3, rfl, rfl, rfl⟩
            simp only at h3x
            refine ⟨by rw [F.safe]; exact ⟨fun _ => (by rcases hx3 with ⟨_, rfl⟩ | ⟨_, rfl⟩ <;> rfl), safe_row fun i hi => by rw [(h3x).2 i hi]; exact ⟨rfl, fun _ => rfl⟩⟩, ?_⟩
            cbv
            refine hK _ _ _ (said_bool ⟨_, ?_, rfl, rfl, rfl⟩)
            have e : ari .add .i64 ca t = ca + t := by rw [F.ari]; exact wrap64 (by omega) (by omega)
            rw [F.cmp, e]
            simp only [real, decide_eq_true_eq]
            omega
        · exfalso
          rw [F.bnot, F.cmp] at h8
          simp [real] at h8
  · -- 4, 6, 8: numbers of the rows of x, y, z; $4: more of what is lent
    refine F.call (pick_ cut 1000 (by omega) (by omega)) ?_
    rintro v s2 n2 ⟨q, hq, rfl, rfl, rfl⟩
    have hqr := pickV_range (k := cut) (n := 1000) (by omega)
    rw [← hq] at hqr
    refine ⟨F.lent0, ?_⟩
    cbv
    generalize ht : ari .add .i64 2 q = t
    have ht : t = 2 + q := by rw [← ht, F.ari]; exact wrap64 (by omega) (by omega)
    refine ⟨by rw [F.nz]; simp [real], ?_⟩
    generalize ari .quo .i64 cut 7 = c7
    generalize ht1 : ari .sub .i64 t 1 = t1
    have ht1 : t1 = t - 1 := by rw [← ht1, F.ari]; exact wrap64 (by omega) (by omega)
    refine F.call (pick_ c7 t1 (by omega) (by omega)) ?_
    rintro v s2 n2 ⟨q2, hq2, rfl, rfl, rfl⟩
    have hqr2 := pickV_range (k := c7) (n := t1) (by omega)
    rw [← hq2] at hqr2
    refine ⟨F.lent0, ?_⟩
    cbv
    generalize hhf : ari .add .i64 1 q2 = hf
    have hhf : hf = 1 + q2 := by rw [← hhf, F.ari]; exact wrap64 (by omega) (by omega)
    have zsc : ∀ t : Int, 0 ≤ (tickEv t).s.scopes ∧ (tickEv t).s.scopes < 18446744073709551616 := fun t => zero_wf.scopes
    have zwf : ∀ t : Int, (tickEv t).s.wf := fun t => zero_wf
    have cx := apply_ ca ba la n1 (shift f1 0) hsh1 (by omega) (tickEv t) hWa.clock hWa.births hWa.l (zsc t)
    have cy := apply_ ca ba la n1 (shift f1 0) hsh1 (by omega) (tickEv hf) hWa.clock hWa.births hWa.l (zsc hf)
    have wy := apply_wf (e := tickEv hf) hWa (zwf hf)
    have ly := apply_len (st := ⟨ca, ba, la⟩) (e := tickEv hf) (m := 1048576) (by simp only; rw [← hs1.1]; omega) (by omega)
    have lx := apply_len (st := ⟨ca, ba, la⟩) (e := tickEv t) (m := 1048576) (by simp only; rw [← hs1.1]; omega) (by omega)
    by_cases hbig : ca + t ≤ 1099511627776
    · obtain ⟨g1, g2, g3, g4⟩ := tick_two (st := ⟨ca, ba, la⟩) (t := t) (h := hf) hck.1 (by omega) (by omega) (by omega) hbig
      generalize apply ⟨ca, ba, la⟩ (tickEv t) = rx at cx lx g1 g4
      generalize apply ⟨ca, ba, la⟩ (tickEv hf) = ry at cy wy ly g2 g3 g4
      obtain ⟨⟨ckx, bx, llx⟩, ex⟩ := rx
      obtain ⟨⟨cky, by_, lly⟩, ey⟩ := ry
      simp only at wy ly lx g1 g2 g3 g4
      refine ⟨⟨hle1, hnid1⟩, ?_⟩
      refine F.call cx ?_
      rintro v s2 n2 ⟨x1, m1, u1, h1x, hx1, rfl, rfl, rfl⟩
      simp only at h1x
      have e1 : x1 = .v .nilIface := by
        rcases hx1 with ⟨_, h⟩ | ⟨hne, _⟩
        · exact h
        · exact absurd g1 hne
      refine ⟨by rw [F.safe]; exact ⟨fun _ => (by rcases hx1 with ⟨_, rfl⟩ | ⟨_, rfl⟩ <;> rfl), safe_row fun i hi => by rw [(h1x).2 i hi]; exact ⟨rfl, fun _ => rfl⟩⟩, ?_⟩
      subst e1
      cbv
      refine ⟨⟨hle1, hnid1⟩, ?_⟩
      refine F.call cy ?_
      rintro v s2 n2 ⟨x2, m2, u2, h2x, hx2, rfl, rfl, rfl⟩
      simp only at h2x
      have e2 : x2 = .v .nilIface := by
        rcases hx2 with ⟨_, h⟩ | ⟨hne, _⟩
        · exact h
        · exact absurd g2 hne
      refine ⟨by rw [F.safe]; exact ⟨fun _ => (by rcases hx2 with ⟨_, rfl⟩ | ⟨_, rfl⟩ <;> rfl), safe_row fun i hi => by rw [(h2x).2 i hi]; exact ⟨rfl, fun _ => rfl⟩⟩, ?_⟩
      subst e2
      cbv
      generalize ht3 : ari .sub .i64 t hf = t3
      have ht3 : t3 = t - hf := by rw [← ht3, F.ari]; exact wrap64 (by omega) (by omega)
      rw [← ht3] at g3 g4
      have cz := apply_ cky by_ lly m2 (shift u2 0) ⟨h2x.1, fun i hi => by rw [F.shift]; exact h2x.2 i hi⟩ (by rw [h2x.1]; exact ly) (tickEv t3) wy.clock wy.births wy.l (zsc t3)
      generalize apply ⟨cky, by_, lly⟩ (tickEv t3) = rz at cz g3 g4
      obtain ⟨⟨ckz, bz, llz⟩, ez⟩ := rz
      simp only at g3 g4
      refine ⟨⟨by rw [F.le3, F.add]; exact ⟨by simp, by simp [real], by simp [real]⟩, by rw [F.nid]; exact fun i hi => by rw [h2x.2 i hi]; rfl⟩, ?_⟩
      refine F.call cz ?_
      rintro v s2 n2 ⟨x3, m3, u3, h3x, hx3, rfl, rfl, rfl⟩
      simp only at h3x
      have e3 : x3 = .v .nilIface := by
        rcases hx3 with ⟨_, h⟩ | ⟨hne, _⟩
        · exact h
        · exact absurd g3 hne
      refine ⟨by rw [F.safe]; exact ⟨fun _ => (by rcases hx3 with ⟨_, rfl⟩ | ⟨_, rfl⟩ <;> rfl), safe_row fun i hi => by rw [(h3x).2 i hi]; exact ⟨rfl, fun _ => rfl⟩⟩, ?_⟩
      subst e3
      cbv
      refine ⟨⟨⟨by rw [F.le3, F.add]; exact ⟨by simp, by simp [real], by simp [real]⟩, by rw [F.nid]; exact fun i hi => by rw [h1x.2 i hi]; rfl⟩, by rw [F.le3, F.add]; exact ⟨by simp, by simp [real], by simp [real]⟩, by rw [F.nid]; exact fun i hi => by rw [h3x.2 i hi]; rfl⟩, ?_⟩
      refine F.call (sameState_ ⟨ckx, bx, llx⟩ ⟨ckz, bz, llz⟩ m1 m3 (shift u1 0) (shift u3 0) ⟨h1x.1, fun i hi => by rw [F.shift]; exact h1x.2 i hi⟩ ⟨h3x.1, fun i hi => by rw [F.shift]; exact h3x.2 i hi⟩ (by rw [h1x.1]; exact lx)) ?_
      rintro v s2 n2 ⟨r, hr, rfl, rfl, rfl⟩
      refine ⟨F.lent1 rfl, ?_⟩
      have hr := hr.2 g4.symm
      subst hr
      cbv
      exact hK _ _ _ (said_plain ⟨_, rfl, rfl, rfl, rfl⟩ rfl)
    · have g1 := tick_no (st := ⟨ca, ba, la⟩) (t := t) (by omega) (by omega) (by simp only; omega)
      rw [g1] at cx
      generalize apply ⟨ca, ba, la⟩ (tickEv hf) = ry at cy wy ly
      obtain ⟨⟨cky, by_, lly⟩, ey⟩ := ry
      simp only at wy ly
      refine ⟨⟨hle1, hnid1⟩, ?_⟩
      refine F.call cx ?_
      rintro v s2 n2 ⟨x1, m1, u1, h1x, hx1, rfl, rfl, rfl⟩
      simp only at h1x
      have e1 : x1 = .if1 62 (i64 12) := by
        rcases hx1 with ⟨hne, _⟩ | ⟨_, h⟩
        · exact absurd hne (by simp)
        · exact h
      refine ⟨by rw [F.safe]; exact ⟨fun _ => (by rcases hx1 with ⟨_, rfl⟩ | ⟨_, rfl⟩ <;> rfl), safe_row fun i hi => by rw [(h1x).2 i hi]; exact ⟨rfl, fun _ => rfl⟩⟩, ?_⟩
      subst e1
      cbv
      refine ⟨⟨hle1, hnid1⟩, ?_⟩
      refine F.call cy ?_
      rintro v s2 n2 ⟨x2, m2, u2, h2x, hx2, rfl, rfl, rfl⟩
      simp only at h2x
      refine ⟨by rw [F.safe]; exact ⟨fun _ => (by rcases hx2 with ⟨_, rfl⟩ | ⟨_, rfl⟩ <;> rfl), safe_row fun i hi => by rw [(h2x).2 i hi]; exact ⟨rfl, fun _ => rfl⟩⟩, ?_⟩
      cbv
      generalize ht3 : ari .sub .i64 t hf = t3
      have cz := apply_ cky by_ lly m2 (shift u2 0) ⟨h2x.1, fun i hi => by rw [F.shift]; exact h2x.2 i hi⟩ (by rw [h2x.1]; exact ly) (tickEv t3) wy.clock wy.births wy.l (zsc t3)
      generalize apply ⟨cky, by_, lly⟩ (tickEv t3) = rz at cz
      obtain ⟨⟨ckz, bz, llz⟩, ez⟩ := rz
      refine ⟨⟨by rw [F.le3, F.add]; exact ⟨by simp, by simp [real], by simp [real]⟩, by rw [F.nid]; exact fun i hi => by rw [h2x.2 i hi]; rfl⟩, ?_⟩
      refine F.call cz ?_
      rintro v s2 n2 ⟨x3, m3, u3, h3x, hx3, rfl, rfl, rfl⟩
      simp only at h3x
      refine ⟨by rw [F.safe]; exact ⟨fun _ => (by rcases hx3 with ⟨_, rfl⟩ | ⟨_, rfl⟩ <;> rfl), safe_row fun i hi => by rw [(h3x).2 i hi]; exact ⟨rfl, fun _ => rfl⟩⟩, ?_⟩
      cbv
      refine hK _ _ _ (said_bool ⟨_, ?_, rfl, rfl, rfl⟩)
      have e : ari .add .i64 ca t = ca + t := by rw [F.ari]; exact wrap64 (by omega) (by omega)
      rw [F.cmp, e]
      simp only [real, decide_eq_true_eq]
      omega
end Am
