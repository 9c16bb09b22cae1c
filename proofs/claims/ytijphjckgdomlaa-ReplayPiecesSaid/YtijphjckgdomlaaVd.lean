/-
  lineagelaw24.works.
-/
import Derived.Test.YtijphjckgdomlaaVb
set_option linter.all false
namespace Am
open Go Go.Proofs
set_option maxRecDepth 10000
set_option maxHeartbeats 1000000

abbrev s0 : Sess := (loginEv 1 0 0 10).s
theorem annOk : nameOk ann = true := by
  unfold nameOk
  rw [ByteArray.toList_eq]
  decide
open Classical in
theorem wo_one (p : Sess → Bool) (s : Sess) (h : s.upbirth = 0) : wo p [s] = if p s then [] else [s] := by
  unfold wo
  have e : decide (Stays p [s] s) = !p s := by
    rw [Bool.eq_iff_iff]
    simp [Stays, h]
  simp only [List.filter_cons, List.filter_nil, e]
  cases p s <;> rfl
theorem worksA : all .zero [loginEv 1 0 0 10, tickEv 9] = (⟨9, 1, [s0]⟩, 2) := by
  have m1 : evMay (loginEv 1 0 0 10) = true := by
    simp [evMay, loginEv, birthMay, frm_iff, annOk]
  have a1 : apply .zero (loginEv 1 0 0 10) = (⟨0, 1, [s0]⟩, 0) := by
    unfold apply
    rw [if_neg (by rw [m1]; simp), if_pos (show (loginEv 1 0 0 10).kind = 0 from rfl), if_pos (by simp [refuse, loginEv, State.zero])]
    rfl
  have a2 := apply_tick (st := ⟨0, 1, [s0]⟩) (t := 9) (by omega) (by omega)
  rw [if_neg (by simp)] at a2
  have w1 := wo_one (fun s => decide (s.deadline ≤ 0 + 9)) s0 rfl
  rw [show s0.deadline = 10 from rfl, if_neg (by decide)] at w1
  rw [w1] at a2
  simp only [all, a1, a2, if_true]
  rfl
theorem worksB : all ⟨9, 1, [s0]⟩ [tickEv 1] = (⟨10, 1, []⟩, 1) := by
  have a2 := apply_tick (st := ⟨9, 1, [s0]⟩) (t := 1) (by omega) (by omega)
  rw [if_neg (by simp)] at a2
  have w1 := wo_one (fun s => decide (s.deadline ≤ 9 + 1)) s0 rfl
  rw [show s0.deadline = 10 from rfl, if_pos (by decide)] at w1
  rw [w1] at a2
  simp only [all, a2, if_true]
  rfl
theorem s0_wf : s0.wf := by constructor <;> first | (unfold in64; decide) | decide
theorem zero_wf : Sess.zero.wf := by constructor <;> first | (unfold in64; decide) | decide

theorem works_ : TriS Try.prog 15 [] [] 0 (RetB true) := by
  refine walk tab_ok mixed (noMeths rfl) (C := cfg15) (fn := Try.f15) (c := Try.f15.body.getD .skip) (by kernel_rfl) (by kernel_rfl) (by kernel_rfl) (by kernel_rfl) (by kernel_rfl) 60 ?_
  intro ari shf cmp scmp band beq bnot neg unx wrap slen sat ssub cat bstr toN sub add shift join setf bytes updb updv rng idx isb le3 nz room nil0 catok rune rnext more rstr nid safe tri weak Kx hK F
  have htoN := F.toN
  subst htoN
  cbv
  refine F.call (login_ _ _ _ _) ?_
  rintro v s2 n2 ⟨rfl, rfl, rfl⟩
  refine ⟨F.lent0, ?_⟩
  cbv
  refine ⟨⟨by rw [F.le3, F.add]; exact ⟨by decide, by decide, by decide⟩, by rw [F.nid]; exact fun i hi => by rcases i with _ | _ | i <;> first | rfl | omega⟩, ?_⟩
  have hE : IsE [loginEv 1 0 0 10, tickEv 9] 2 (shift (pickR [(loginEv 1 0 0 10).cells, (tickEv 9).cells]) 0) := ⟨rfl, fun i hi => by rw [F.shift]; rcases i with _ | _ | i <;> first | rfl | omega⟩
  have hA := all_ 0 0 [] 0 (fun _ => []) ⟨rfl, fun i hi => by omega⟩ (by omega) wf_zero [loginEv 1 0 0 10, tickEv 9] 2 _ hE (by omega) (by simp [tickEv]; exact ⟨s0_wf, zero_wf⟩)
  rw [show (⟨0, 0, []⟩ : State) = .zero from rfl, worksA] at hA
  refine F.call (TriS.args hA ⟨⟨rfl, rfl, ⟨rfl, rfl, rfl⟩, trivial⟩, ⟨rfl, rfl, rfl, fun _ _ => rfl⟩, trivial⟩) ?_
  rintro v s2 n2 ⟨k, n', f', h', hk, rfl, rfl, rfl⟩
  simp only at hk
  subst hk
  refine ⟨by rw [F.safe]; exact ⟨fun _ => rfl, safe_row fun i hi => by rw [h'.2 i hi]; exact ⟨rfl, fun _ => rfl⟩⟩, ?_⟩
  have hn' := h'.1
  simp only [List.length_cons, List.length_nil] at hn'
  subst hn'
  cbv
  clear hE hA
  refine ⟨⟨⟨by rw [F.le3, F.add]; exact ⟨by decide, by decide, by decide⟩, by rw [F.nid]; exact fun i hi => by rw [h'.2 i hi]; rfl⟩, by rw [F.le3, F.add]; exact ⟨by decide, by decide, by decide⟩, by rw [F.nid]; exact fun i hi => by rcases i with _ | i <;> first | rfl | omega⟩, ?_⟩
  have hE : IsE [tickEv 1] 1 (shift (pickR [(tickEv 1).cells]) 0) := ⟨rfl, fun i hi => by rw [F.shift]; rcases i with _ | i <;> first | rfl | omega⟩
  have hsh : IsS [s0] 1 (shift f' 0) := ⟨rfl, fun i hi => by rw [F.shift]; exact h'.2 i hi⟩
  have hA := all_ 9 1 [s0] 1 _ hsh (by omega) ⟨by unfold in64; decide, by unfold in64; decide, by simp; exact s0_wf⟩ [tickEv 1] 1 _ hE (by omega) (by simp [tickEv]; exact zero_wf)
  rw [worksB] at hA
  refine F.call hA ?_
  rintro v s2 n2 ⟨k, n', f2, h2, hk, rfl, rfl, rfl⟩
  simp only at hk
  subst hk
  refine ⟨by rw [F.safe]; exact ⟨fun _ => rfl, safe_row fun i hi => by rw [h2.2 i hi]; exact ⟨rfl, fun _ => rfl⟩⟩, ?_⟩
  have hn' := h2.1
  simp only [List.length_nil] at hn'
  subst hn'
  cbv
  refine ⟨fun c1 => ?_, fun c1 => ?_⟩ <;> cbv
  rotate_left
  · exfalso
    rw [F.cmp] at c1
    simp [real] at c1
  refine ⟨fun c2 => ?_, fun c2 => ?_⟩ <;> cbv
  rotate_left
  · exfalso
    rw [F.cmp] at c2
    simp [real] at c2
  refine ⟨fun c3 => ?_, fun c3 => ?_⟩ <;> cbv
  rotate_left
  · exfalso
    rw [F.cmp] at c3
    simp [real] at c3
  refine ⟨fun c4 => ?_, fun c4 => ?_⟩ <;> cbv
  rotate_left
  · exfalso
    rw [F.cmp] at c4
    simp [real] at c4
  refine ⟨fun c5 => ?_, fun c5 => ?_⟩ <;> cbv
  rotate_left
  · exfalso
    rw [F.cmp] at c5
    simp [real] at c5
  refine ⟨fun c6 => ?_, fun c6 => ?_⟩ <;> cbv
  rotate_left
  · exfalso
    rw [F.cmp] at c6
    simp [real] at c6
  refine hK _ _ _ (said_bool ⟨_, ?_, rfl, rfl, rfl⟩)
  rw [F.cmp]
  rfl
end Am
