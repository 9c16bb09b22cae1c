/-
  replay.All.
-/
import Derived.Test.YtijphjckgdomlaaV9
import Derived.Test.YtijphjckgdomlaaSp2
set_option linter.all false
namespace Am
open Go Go.Proofs
set_option maxRecDepth 10000
set_option maxHeartbeats 1000000

def Ev.zero : Ev := ⟨0, .zero, 0, 0⟩
/-- A row of events. -/
def IsE (l : List Ev) (n : Nat) (f : Nat → List CV) : Prop := n = l.length ∧ ∀ i, i < n → f i = (l.getD i .zero).cells
structure WfSt (st : State) : Prop where
  clock : in64 st.clock
  births : in64 st.births
  l : ∀ x ∈ st.l, x.wf
theorem wf_zero : WfSt .zero := ⟨by simp [in64, State.zero], by simp [in64, State.zero], by simp [State.zero]⟩
theorem apply_wf {st : State} {e : Ev} (h : WfSt st) (he : e.s.wf) : WfSt (apply st e).1 := by
  unfold apply
  split; · exact wf_zero
  rename_i hm
  split
  · rename_i hk
    split
    · rename_i hr
      have h1 := refuse_birth hr
      refine ⟨h.clock, ?_, fun x hx => ?_⟩
      · simp only
        rw [← h1]
        exact he.birth
      · rcases List.mem_append.1 hx with hx | hx
        · exact h.l x hx
        · simp only [List.mem_singleton] at hx
          rw [hx]; exact he
    · exact wf_zero
  split
  · split
    · exact ⟨h.clock, h.births, fun x hx => h.l x (wo_sub x hx)⟩
    · exact wf_zero
  split; · exact wf_zero
  rename_i hk0 hk1 hc
  have ht : 1 ≤ e.ticks := by
    unfold evMay at hm
    rw [if_neg hk0, if_neg hk1] at hm
    split at hm
    · simp only [Bool.and_eq_false_iff, not_or, Bool.not_eq_false, frm_iff] at hm
      omega
    · exact absurd rfl hm
  exact ⟨⟨by simp only; omega, by simp only; omega⟩, h.births, fun x hx => h.l x (wo_sub x hx)⟩
theorem apply_len {st : State} {e : Ev} {m : Nat} (h : st.l.length ≤ m) (hm : 32 ≤ m) : (apply st e).1.l.length ≤ m := by
  unfold apply
  split; · simp [State.zero]
  split
  · split
    · rename_i hr
      unfold refuse at hr
      split at hr; · omega
      split at hr; · omega
      split at hr; · omega
      simp only [List.length_append, List.length_cons, List.length_nil]
      omega
    · simp [State.zero]
  split
  · split
    · exact Nat.le_trans wo_len h
    · simp [State.zero]
  split; · simp [State.zero]
  exact Nat.le_trans wo_len h

/-- A state and a number, handed back. -/
def RetAll (r : State × Nat) (v : AV) (s : Sto) (nx : Nat) : Prop :=
  ∃ (k : Int) (n' : Nat) (f' : Nat → List CV), IsS r.1.l n' f' ∧ k = r.2 ∧ v = .tup [.agg [i64 r.1.clock, i64 r.1.births, .ref 0 12 0 n'], .c (i64 k)] ∧ s = [(0, .arr 45 12 n' f')] ∧ nx = 1

theorem all_ (ck bt : Int) (l : List Sess) (n : Nat) (f : Nat → List CV) (h : IsS l n f) (hn : n ≤ 1048576) (hw : WfSt ⟨ck, bt, l⟩) (es : List Ev) (ne : Nat) (fe : Nat → List CV) (he : IsE es ne fe) (hne : ne < 4611686018427387904) (hwe : ∀ e ∈ es, e.s.wf) :
    TriS Try.prog 9 [.agg [i64 ck, i64 bt, .sl 12 n 0 f], .c (.sl 15 ne 0 fe)] [] 0 (RetAll (all ⟨ck, bt, l⟩ es)) := by
  obtain ⟨g, hg⟩ : ∃ g : Nat → Ev, ∀ i, g i = es.getD i .zero := ⟨_, fun _ => rfl⟩
  have hat : ∀ k, k < ne → es[k]? = some (g k) := fun k hk => by
    have : k < es.length := by rw [← he.1]; exact hk
    rw [hg, List.getD_eq_getElem?_getD, List.getElem?_eq_getElem this]; rfl
  have hne' := he.1
  refine TriS.args (vs' := [.agg [i64 ck, i64 bt, .sl 12 n 0 f], .c (.sl 15 ne 0 fun i => (g i).cells)]) ?_ ⟨⟨rfl, rfl, ⟨rfl, rfl, rfl, fun _ _ => rfl⟩, trivial⟩, ⟨rfl, rfl, rfl, fun i hi => by rw [he.2 i (by omega), ← hg]⟩, trivial⟩
  clear he
  refine walk tab_ok mixed (noMeths rfl) (C := cfg9) (fn := Try.f9) (c := Try.f9.body.getD .skip) (by kernel_rfl) (by kernel_rfl) (by kernel_rfl) (by kernel_rfl) (by kernel_rfl) 60 ?_
  intro ari shf cmp scmp band beq bnot neg unx wrap slen sat ssub cat bstr toN sub add shift join setf bytes updb updv rng idx isb le3 nz room nil0 catok rune rnext more rstr nid safe tri weak Kx hK F
  have htoN := F.toN
  subst htoN
  cbv
  refine F.call (clone_s l n f h hn) ?_
  rintro v s2 n2 ⟨f', h', rfl, rfl, rfl⟩
  refine ⟨by rw [F.safe]; exact ⟨fun h => (by cases h), safe_row fun i hi => ⟨by rw [h'.2 i hi]; rfl, fun h => (by cases h)⟩⟩, ?_⟩
  cbv
  refine ⟨fun mu st => ∃ (j : Nat) (ck' bt' : Int) (l' : List Sess) (n' : Nat) (f' : Nat → List CV), mu = ne - j ∧ j ≤ ne ∧ IsS l' n' f' ∧ n' ≤ 1048576 ∧ WfSt ⟨ck', bt', l'⟩ ∧
      all ⟨ck, bt, l⟩ es = ((all ⟨ck', bt', l'⟩ (es.drop j)).1, j + (all ⟨ck', bt', l'⟩ (es.drop j)).2) ∧
      st = ⟨[(1, .c (.sl 15 ne 0 fun i => (g i).cells)), (2, .c (.ptr 0 0)), (4, .c (.ptr 1 0)), (14, .c (.sl 15 ne 0 fun i => (g i).cells)), (15, .c (i64 ne)), (16, .c (i64 j))],
        [(0, .box [i64 ck', i64 bt', .ref 2 12 0 n']), (1, .box [i64 0, i64 0, .v (.slice none 0 0)]), (2, .arr 45 12 n' f')], 3⟩,
    ⟨_, _, ⟨0, ck, bt, l, n, f', rfl, Nat.zero_le _, h', hn, hw, by simp, rfl⟩, ?_⟩, ?_⟩
  · cbv
    refine F.say ⟨[(0, 0), (1, 1), (2, 2)], [], []⟩ ⟨?_, ?_, ?_, by simp⟩
    · simp [ckE, look, ckV, ckC, ckCs, mem]
    · refine ⟨ltn rfl, ?_, ltn rfl, ?_, ltn rfl, ?_, trivial⟩
      · simp [look, mem, ckO, ckC, ckCs]
      · simp [look, mem, ckO, ckC, ckCs]
      · refine ⟨rfl, rfl, rfl, Nat.le_refl _, fun i hi => ?_⟩
        rw [h'.2 i hi]
        exact noIds_ck rfl
    · simp [ckN]
  rintro mu _ ⟨j, ck', bt', l', n', f', hmu, hj, h', hn', hw', hall, rfl⟩
  cbv
  refine ⟨fun hlt => ?_, fun hge => ?_⟩
  · rw [F.cmp] at hlt
    have hlt : j < ne := by simpa [real, ncast, ocast] using hlt
    cbv
    have hxj := hat j hlt
    generalize g j = ej at hxj ⊢
    have hmem : ej ∈ es := List.mem_of_getElem? hxj
    refine ⟨by rw [F.rng]; exact ⟨by simp, by simpa [real] using hlt⟩, ⟨by rw [F.le3, F.add]; exact ⟨by simp, by simp [real], by simp [real]⟩, by rw [F.nid]; exact fun i hi => by rw [h'.2 i hi]; rfl⟩, ?_⟩
    have hsh : IsS l' n' (shift f' 0) := ⟨h'.1, fun i hi => by rw [F.shift]; exact h'.2 i hi⟩
    refine F.call (apply_ ck' bt' l' n' (shift f' 0) hsh hn' ej hw'.clock hw'.births hw'.l (hwe _ hmem).scopes) ?_
    have hwf := apply_wf (e := ej) hw' (hwe _ hmem)
    have hlen := apply_len (st := ⟨ck', bt', l'⟩) (e := ej) (m := 1048576) (by simp only; rw [← h'.1]; exact hn') (by omega)
    have hd : es.drop j = ej :: es.drop (j + 1) := by
      have : j < es.length := by omega
      rw [List.drop_eq_getElem_cons this]
      congr 1
      rw [List.getElem?_eq_getElem this] at hxj
      injection hxj
    rw [hd] at hall
    simp only [all] at hall
    generalize apply ⟨ck', bt', l'⟩ ej = r at hwf hlen hall ⊢
    obtain ⟨⟨c2, b2, l2⟩, no⟩ := r
    rintro v s2 n2 ⟨x, n3, f3, h3, hx, rfl, rfl, rfl⟩
    refine ⟨by rw [F.safe]; exact ⟨fun _ => (by rcases hx with ⟨_, rfl⟩ | ⟨_, rfl⟩ <;> rfl), safe_row fun i hi => by rw [h3.2 i hi]; exact ⟨rfl, fun _ => rfl⟩⟩, ?_⟩
    rcases hx with ⟨hx, rfl⟩ | ⟨hx, rfl⟩
    · simp only at hx
      rw [if_pos hx] at hall
      cbv
      refine ⟨ne - (j + 1), _, by omega, ⟨j + 1, c2, b2, l2, n3, f3, rfl, hlt, h3, by rw [h3.1]; exact hlen, hwf, by rw [hall]; congr 1; simp only; omega, rfl⟩, ?_⟩
      cbv
      refine F.say ⟨[(0, 0), (1, 1), (2, 4)], [], []⟩ ⟨?_, ?_, ?_, by simp⟩
      · simp [ckE, look, ckV, ckC, ckCs, mem, F.ari, real, wrapS hlt hne]
      · refine ⟨ltn rfl, ?_, ltn rfl, ?_, ltn rfl, ?_, trivial⟩
        · simp [look, mem, ckO, ckC, ckCs]
        · simp [look, mem, ckO, ckC, ckCs]
        · refine ⟨rfl, rfl, rfl, Nat.le_refl _, fun i hi => ?_⟩
          rw [h3.2 i hi]
          exact noIds_ck rfl
      · simp [ckN]
    · simp only at hx
      rw [if_neg hx] at hall
      cbv
      rw [hall] at hK
      refine hK _ _ _ ⟨_, _, _, ⟨(j : Int), n', f', h', by simp, rfl, rfl, rfl⟩, weak_of ⟨[(0, 2)], [], []⟩ ⟨?_, ?_, ?_, by simp⟩⟩
      · simp [ckE, look, ckV, ckVs, ckC, ckCs, resOne, mem]
      · refine ⟨ltn rfl, ?_, trivial⟩
        refine ⟨rfl, rfl, rfl, Nat.le_refl _, fun i hi => ?_⟩
        rw [h'.2 i hi]
        exact noIds_ck rfl
      · simp [ckN]
  · rw [F.cmp] at hge
    have hge : ¬ j < ne := by simpa [real, ncast, ocast] using hge
    have hj2 : j = ne := by omega
    subst hj2
    cbv
    rw [hne', List.drop_length] at hall
    simp only [all] at hall
    rw [hall] at hK
    refine hK _ _ _ ⟨_, _, _, ⟨(j : Int), n', f', h', by simp [hne'], rfl, rfl, rfl⟩, weak_of ⟨[(0, 2)], [], []⟩ ⟨?_, ?_, ?_, by simp⟩⟩
    · simp [ckE, look, ckV, ckVs, ckC, ckCs, resOne, mem]
    · refine ⟨ltn rfl, ?_, trivial⟩
      refine ⟨rfl, rfl, rfl, Nat.le_refl _, fun i hi => ?_⟩
      rw [h'.2 i hi]
      exact noIds_ck rfl
    · simp [ckN]
end Am
