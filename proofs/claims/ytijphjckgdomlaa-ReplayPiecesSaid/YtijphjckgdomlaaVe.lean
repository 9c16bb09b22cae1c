/-
  lineagelaw24.ReplayNarrower: the walk.
-/
import Derived.Test.YtijphjckgdomlaaVc
import Derived.Test.YtijphjckgdomlaaVd
set_option linter.all false
namespace Am
open Go Go.Proofs
set_option maxRecDepth 10000
set_option maxHeartbeats 1000000

theorem wf_of_sound {st : State} (h : Sound st) (hw : ∀ x ∈ st.l, x.wf) : WfSt st :=
  ⟨⟨by have := h.clk; omega, by have := h.clk; omega⟩, ⟨by have := h.bts; omega, by have := h.bts; omega⟩, hw⟩

theorem replayNarrower (es : List Ev) (ne : Nat) (fe : Nat → List CV) (he : IsE es ne fe) (hwe : ∀ e ∈ es, e.s.wf) :
    TriS Try.prog 4 [.c (.sl 15 ne 0 fe)] [] 0 (RetB true) := by
  obtain ⟨g, hg⟩ : ∃ g : Nat → Ev, ∀ i, g i = es.getD i .zero := ⟨_, fun _ => rfl⟩
  have hat : ∀ k, k < ne → es[k]? = some (g k) := fun k hk => by
    have : k < es.length := by rw [← he.1]; exact hk
    rw [hg, List.getD_eq_getElem?_getD, List.getElem?_eq_getElem this]; rfl
  have hne' := he.1
  refine TriS.args (vs' := [.c (.sl 15 ne 0 fun i => (g i).cells)]) ?_ ⟨⟨rfl, rfl, rfl, fun i hi => by rw [he.2 i (by omega), ← hg]⟩, trivial⟩
  clear he
  refine walk tab_ok mixed (noMeths rfl) (C := cfg4) (fn := Try.f4) (c := Try.f4.body.getD .skip) (by kernel_rfl) (by kernel_rfl) (by kernel_rfl) (by kernel_rfl) (by kernel_rfl) 60 ?_
  intro ari shf cmp scmp band beq bnot neg unx wrap slen sat ssub cat bstr toN sub add shift join setf bytes updb updv rng idx isb le3 nz room nil0 catok rune rnext more rstr nid safe tri weak Kx hK F
  have htoN := F.toN
  subst htoN
  cbv
  refine F.call works_ ?_
  rintro v s2 n2 ⟨r, rfl, rfl, rfl, rfl⟩
  refine ⟨F.lent0, ?_⟩
  cbv
  refine ⟨fun h0 => ?_, fun h0 => ?_⟩ <;> cbv
  · refine F.call works_ ?_
    rintro v s2 n2 ⟨r, rfl, rfl, rfl, rfl⟩
    refine ⟨F.lent0, ?_⟩
    cbv
    exact hK _ _ _ (said_plain ⟨_, rfl, rfl, rfl, rfl⟩ rfl)
  have hne : ne < 4611686018427387904 := by
    rw [F.cmp] at h0
    simp [real, ncast, ocast] at h0
    omega
  refine ⟨fun mu s => ∃ (j : Nat) (ck bt : Int) (l : List Sess) (n : Nat) (f : Nat → List CV), mu = ne - j ∧ j ≤ ne ∧ IsS l n f ∧ Sound ⟨ck, bt, l⟩ ∧ (∀ x ∈ l, x.wf) ∧
      s = ⟨[(0, .c (.sl 15 ne 0 fun i => (g i).cells)), (3, .c (.ptr 0 0)), (4, .c (i64 j))], [(0, .box [i64 ck, i64 bt, .ref 1 12 0 n]), (1, .arr 45 12 n f)], 2⟩,
    ⟨_, _, ⟨0, 0, 0, [], 0, fun _ => [], rfl, Nat.zero_le _, ⟨rfl, fun i hi => by omega⟩, sound_zero, by simp, rfl⟩, ?_⟩, ?_⟩
  · cbv
    refine F.say ⟨[(0, 0)], [1], []⟩ ⟨?_, ?_, ?_, by simp⟩
    · simp [ckE, look, ckV, ckC, ckCs, mem]
    · simp [ckS, look, ckO, ckC, ckCs, mem]
    · simp [ckN]
  rintro mu _ ⟨j, ck, bt, l, n, f, hmu, hj, h, hS, hw, rfl⟩
  cbv
  refine ⟨fun h1 => ?_, fun h1 => ?_⟩ <;> cbv
  · rw [F.cmp] at h1
    have h1 : j < ne := by simpa [real, ncast, ocast] using h1
    have hmu' : ne - (j + 1) < mu := by omega
    have hn32 : n ≤ 32 := by rw [h.1]; exact hS.len
    have hxj := hat j h1
    generalize g j = ej at hxj ⊢
    have hmem : ej ∈ es := List.mem_of_getElem? hxj
    refine ⟨by rw [F.rng]; exact ⟨by simp, by simpa [real] using h1⟩, ?_⟩
    cbv
    have hle : le3 0 (Int.ofNat (add 0 n)) (Int.ofNat n) := by rw [F.le3, F.add]; exact ⟨by simp, by simp [real], by simp [real]⟩
    have hnid : nid n f := by rw [F.nid]; exact fun i hi => by rw [h.2 i hi]; rfl
    have hsh : IsS l n (shift f 0) := ⟨h.1, fun i hi => by rw [F.shift]; exact h.2 i hi⟩
    have hwf : WfSt ⟨ck, bt, l⟩ := wf_of_sound hS hw
    have hap := apply_ ck bt l n (shift f 0) hsh (by omega) ej hwf.clock hwf.births hw (hwe _ hmem).scopes
    have hS2 := sound_apply hS ej
    have hw2 := (apply_wf (e := ej) hwf (hwe _ hmem)).l
    generalize apply ⟨ck, bt, l⟩ ej = r at hap hS2 hw2
    obtain ⟨⟨c2, b2, l2⟩, no⟩ := r
    simp only at hS2 hw2
    refine ⟨?_, ?_⟩
    · refine ⟨⟨hle, hnid⟩, ?_⟩
      refine F.call hap ?_
      rintro v s2 n2 ⟨x, n3, f3, h3, hx, rfl, rfl, rfl⟩
      refine ⟨by rw [F.safe]; exact ⟨fun _ => (by rcases hx with ⟨_, rfl⟩ | ⟨_, rfl⟩ <;> rfl), safe_row fun i hi => by rw [h3.2 i hi]; exact ⟨rfl, fun _ => rfl⟩⟩, ?_⟩
      rcases hx with ⟨hx, rfl⟩ | ⟨hx, rfl⟩
      · cbv
        refine ⟨⟨by rw [F.le3, F.add]; exact ⟨by simp, by simp [real], by simp [real]⟩, by rw [F.nid]; exact fun i hi => by rw [h3.2 i hi]; rfl⟩, ?_⟩
        -- 2 the row's number, c2 clock, b2 births, l2 list, h3 contents, hS2 sound, hw2 wf
        refine F.call (sound_ ⟨c2, b2, l2⟩ hS2 _ (shift _ 0) ⟨(h3).1, fun i hi => by rw [F.shift]; exact (h3).2 i hi⟩) ?_
        rintro v s2 n2 ⟨r, rfl, rfl, rfl, rfl⟩
        refine ⟨F.lent1 rfl, ?_⟩
        cbv
        refine ⟨ne - (j + 1), _, hmu', ⟨j + 1, c2, b2, l2, _, _, rfl, h1, h3, hS2, hw2, rfl⟩, ?_⟩
        cbv
        refine F.say ⟨[(0, 0), (1, 2)], [], []⟩ ⟨?_, ?_, ?_, by simp⟩
        · simp [ckE, look, ckV, ckC, ckCs, mem, F.ari, real, wrapS h1 hne]
        · refine ⟨ltn rfl, ?_, ltn rfl, ?_, trivial⟩
          · simp [look, mem, ckO, ckC, ckCs]
          · refine ⟨rfl, rfl, rfl, Nat.le_refl _, fun i hi => ?_⟩
            rw [(h3).2 i hi]
            exact noIds_ck rfl
        · simp [ckN]
      · cbv
        refine ⟨⟨hle, hnid⟩, ?_⟩
        -- 1 the row's number, ck clock, bt births, l list, h contents, hS sound, hw wf
        refine F.call (sound_ ⟨ck, bt, l⟩ hS _ (shift _ 0) ⟨(h).1, fun i hi => by rw [F.shift]; exact (h).2 i hi⟩) ?_
        rintro v s2 n2 ⟨r, rfl, rfl, rfl, rfl⟩
        refine ⟨F.lent1 rfl, ?_⟩
        cbv
        refine ⟨ne - (j + 1), _, hmu', ⟨j + 1, ck, bt, l, _, _, rfl, h1, h, hS, hw, rfl⟩, ?_⟩
        cbv
        refine F.say ⟨[(0, 0), (1, 1)], [], []⟩ ⟨?_, ?_, ?_, by simp⟩
        · simp [ckE, look, ckV, ckC, ckCs, mem, F.ari, real, wrapS h1 hne]
        · refine ⟨ltn rfl, ?_, ltn rfl, ?_, trivial⟩
          · simp [look, mem, ckO, ckC, ckCs]
          · refine ⟨rfl, rfl, rfl, Nat.le_refl _, fun i hi => ?_⟩
            rw [(h).2 i hi]
            exact noIds_ck rfl
        · simp [ckN]
    · cbv
      refine ⟨?_, trivial⟩
      refine ⟨⟨hle, hnid⟩, ?_⟩
      refine F.call hap ?_
      rintro v s2 n2 ⟨x, n3, f3, h3, hx, rfl, rfl, rfl⟩
      refine ⟨by rw [F.safe]; exact ⟨fun _ => (by rcases hx with ⟨_, rfl⟩ | ⟨_, rfl⟩ <;> rfl), safe_row fun i hi => by rw [h3.2 i hi]; exact ⟨rfl, fun _ => rfl⟩⟩, ?_⟩
      rcases hx with ⟨hx, rfl⟩ | ⟨hx, rfl⟩
      · cbv
        refine ⟨⟨by rw [F.le3, F.add]; exact ⟨by simp, by simp [real], by simp [real]⟩, by rw [F.nid]; exact fun i hi => by rw [h3.2 i hi]; rfl⟩, ?_⟩
        -- 3 the row's number, c2 clock, b2 births, l2 list, h3 contents, hS2 sound, hw2 wf
        refine F.call (sound_ ⟨c2, b2, l2⟩ hS2 _ (shift _ 0) ⟨(h3).1, fun i hi => by rw [F.shift]; exact (h3).2 i hi⟩) ?_
        rintro v s2 n2 ⟨r, rfl, rfl, rfl, rfl⟩
        refine ⟨F.lent1 rfl, ?_⟩
        cbv
        refine ⟨ne - (j + 1), _, hmu', ⟨j + 1, c2, b2, l2, _, _, rfl, h1, h3, hS2, hw2, rfl⟩, ?_⟩
        cbv
        refine F.say ⟨[(0, 0), (1, 3)], [], []⟩ ⟨?_, ?_, ?_, by simp⟩
        · simp [ckE, look, ckV, ckC, ckCs, mem, F.ari, real, wrapS h1 hne]
        · refine ⟨ltn rfl, ?_, ltn rfl, ?_, trivial⟩
          · simp [look, mem, ckO, ckC, ckCs]
          · refine ⟨rfl, rfl, rfl, Nat.le_refl _, fun i hi => ?_⟩
            rw [(h3).2 i hi]
            exact noIds_ck rfl
        · simp [ckN]
      · cbv
        refine ⟨⟨hle, hnid⟩, ?_⟩
        -- 1 the row's number, ck clock, bt births, l list, h contents, hS sound, hw wf
        refine F.call (sound_ ⟨ck, bt, l⟩ hS _ (shift _ 0) ⟨(h).1, fun i hi => by rw [F.shift]; exact (h).2 i hi⟩) ?_
        rintro v s2 n2 ⟨r, rfl, rfl, rfl, rfl⟩
        refine ⟨F.lent1 rfl, ?_⟩
        cbv
        refine ⟨ne - (j + 1), _, hmu', ⟨j + 1, ck, bt, l, _, _, rfl, h1, h, hS, hw, rfl⟩, ?_⟩
        cbv
        refine F.say ⟨[(0, 0), (1, 1)], [], []⟩ ⟨?_, ?_, ?_, by simp⟩
        · simp [ckE, look, ckV, ckC, ckCs, mem, F.ari, real, wrapS h1 hne]
        · refine ⟨ltn rfl, ?_, ltn rfl, ?_, trivial⟩
          · simp [look, mem, ckO, ckC, ckCs]
          · refine ⟨rfl, rfl, rfl, Nat.le_refl _, fun i hi => ?_⟩
            rw [(h).2 i hi]
            exact noIds_ck rfl
        · simp [ckN]
  · exact hK _ _ _ (said_plain ⟨_, rfl, rfl, rfl, rfl⟩ rfl)
end Am
