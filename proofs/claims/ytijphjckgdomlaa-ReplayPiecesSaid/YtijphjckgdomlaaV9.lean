/-
  replay.Apply.
-/
import Derived.Test.YtijphjckgdomlaaV6
import Derived.Test.YtijphjckgdomlaaV8
set_option linter.all false
namespace Am
open Go Go.Proofs
set_option maxRecDepth 10000
set_option maxHeartbeats 1000000

/-- An error, told by its number; 0: none. -/
def errC (e : Int) (x : CV) : Prop := (e = 0 ∧ x = .v .nilIface) ∨ (e ≠ 0 ∧ x = .if1 62 (i64 e))
/-- A state and an error, handed back. -/
def RetA (r : State × Int) (v : AV) (s : Sto) (nx : Nat) : Prop :=
  ∃ x n' f', IsS r.1.l n' f' ∧ errC r.2 x ∧ v = .tup [.agg [i64 r.1.clock, i64 r.1.births, .ref 0 12 0 n'], .c x] ∧ s = [(0, .arr 45 12 n' f')] ∧ nx = 1
theorem clo_birth1 (e : Ev) (s : Sess) : TriS Try.prog 33 [.agg s.cells, .c (.elp e.cells 0)] [] 0 (fun v s' nx => v = .c (.v (.bool ((fun s : Sess => s.birth == e.birth) s))) ∧ s' = [] ∧ nx = 0) := apply1 s e
theorem clo_birth2 (e : Ev) (s : Sess) : TriS Try.prog 35 [.agg s.cells, .c (.elp e.cells 0)] [] 0 (fun v s' nx => v = .c (.v (.bool ((fun s : Sess => s.birth == e.birth) s))) ∧ s' = [] ∧ nx = 0) := apply2 s e
theorem isS_snoc {l : List Sess} {n : Nat} {f : Nat → List CV} (h : IsS l n f) (s : Sess) {i : Nat} (hi : i < n + 1) :
    (if i < n then f i else pickR [s.cells] (i - n + 0)) = ((l ++ [s]).getD i .zero).cells := by
  obtain ⟨rfl, hf⟩ := h
  by_cases h1 : i < l.length
  · rw [if_pos h1, hf i h1]
    simp only [List.getD_eq_getElem?_getD, List.getElem?_append_left h1]
  · rw [if_neg h1]
    have : i = l.length := by omega
    subst this
    simp [pickR, List.getD_eq_getElem?_getD]

theorem refuse_birth {st : State} {s : Sess} (h : refuse st s = 0) : s.birth = st.births + 1 := by
  unfold refuse at h
  split at h; · omega
  omega

theorem apply_ (ck bt : Int) (l : List Sess) (n : Nat) (f : Nat → List CV) (h : IsS l n f) (hn : n ≤ 1048576) (e : Ev) (hck : in64 ck) (hbt : in64 bt) (hw : ∀ x ∈ l, x.wf) (hsc : 0 ≤ e.s.scopes ∧ e.s.scopes < 18446744073709551616) :
    TriS Try.prog 16 [.agg [i64 ck, i64 bt, .sl 12 n 0 f], .agg e.cells] [] 0 (RetA (apply ⟨ck, bt, l⟩ e)) := by
  refine walk tab_ok mixed (noMeths rfl) (C := cfg16) (fn := Try.f16) (c := Try.f16.body.getD .skip) (by kernel_rfl) (by kernel_rfl) (by kernel_rfl) (by kernel_rfl) (by kernel_rfl) 60 ?_
  intro ari shf cmp scmp band beq bnot neg unx wrap slen sat ssub cat bstr toN sub add shift join setf bytes updb updv rng idx isb le3 nz room nil0 catok rune rnext more rstr nid safe tri weak Kx hK F
  have htoN := F.toN
  subst htoN
  cbv
  have err : ∀ (no : Int) (nx : Nat) (s' : Sto), apply ⟨ck, bt, l⟩ e = (.zero, no) → no ≠ 0 → Kx (.tup [.agg [i64 0, i64 0, .v (.slice none 0 0)], .c (.if1 62 (i64 no))]) s' nx := fun no nx s' ha h0 =>
    hK _ _ _ ⟨_, _, _, ⟨_, 0, fun _ => [], ⟨by rw [ha]; rfl, fun i hi => by omega⟩, .inr ⟨by rw [ha]; exact h0, rfl⟩, rfl, rfl, rfl⟩, weak_of ⟨[], [0], []⟩ ⟨by rw [ha]; simp [ckE, look, ckV, ckVs, ckC, ckCs, mem, State.zero], by simp [ckS, mem], by simp [ckN], by simp⟩⟩
  refine F.call (encode_ e hsc) ?_
  rintro v s2 n2 (⟨hm, rfl, rfl, rfl⟩ | ⟨hm, nb, fb, hb, rfl, rfl, rfl⟩)
  · refine ⟨F.lent0, ?_⟩
    cbv
    refine err 1 _ _ ?_ (by omega)
    unfold apply
    rw [if_pos hm]
  · refine ⟨by rw [F.safe]; exact ⟨fun h => (by cases h), safe_row fun i hi => ⟨by rw [hb.2 i hi]; rfl, fun h => (by cases h)⟩⟩, ?_⟩
    cbv
    have hap : apply ⟨ck, bt, l⟩ e = if e.kind = 0 then (if refuse ⟨ck, bt, l⟩ e.s = 0 then (⟨ck, bt + 1, l ++ [e.s]⟩, 0) else (.zero, refuse ⟨ck, bt, l⟩ e.s))
        else if e.kind = 1 then (if l.any (fun s => s.birth == e.birth) then (⟨ck, bt, wo (fun s => s.birth == e.birth) l⟩, 0) else (.zero, 16))
        else if ck < 0 ∨ 1099511627776 - e.ticks < ck then (.zero, 12)
        else (⟨ck + e.ticks, bt, wo (fun s => decide (s.deadline ≤ ck + e.ticks)) l⟩, 0) := by
      unfold apply
      rw [if_neg (by rw [hm]; simp)]
    refine ⟨fun k0 => ?_, fun k0 => ?_⟩ <;> cbv
    · simp only [F.cmp, F.scmp, F.band, F.beq, F.bnot, F.ari, F.shf, F.neg, F.unx, F.wrap, F.slen, F.sat, F.more, F.rune, F.rnext] at k0
      simp [real, ncast, ocast] at k0
      rw [if_pos k0] at hap
      have hbm : birthMay e.s = true := by
        unfold evMay at hm
        rw [if_pos k0] at hm
        simp only [Bool.and_eq_true] at hm
        exact hm.2
      obtain ⟨m1, m2, m3, m4, m5, m6⟩ := birthMay_facts hbm
      refine F.call (refused_ ck bt l n f h hn e.s hbt hw (by omega) (by omega)) ?_
      rintro v s2 n2 ⟨x, hx, rfl, rfl, rfl⟩
      refine ⟨F.lent0, ?_⟩
      rcases hx with ⟨hx, rfl⟩ | ⟨hx, rfl⟩
      · rw [if_pos hx] at hap
        cbv
        have hbt2 : e.s.birth = bt + 1 := refuse_birth hx
        have eb : ari .add .i64 bt 1 = bt + 1 := by rw [F.ari]; exact wrap64 (by omega) (by omega)
        have hroom : n + 1 ≤ maxLen ∧ (n + 1) * 112 ≤ 140737488355328 := ⟨by simp only [maxLen]; omega, by omega⟩
        obtain ⟨n3, f3, h3⟩ := IsS.mk (l ++ [e.s])
        have hn3 : n3 = n + 1 := by rw [h3.1, h.1]; simp
        refine ⟨?_, ?_⟩
        · refine F.call (clone_s l n f h hn) ?_
          rintro v s2 n2 ⟨f', h', rfl, rfl, rfl⟩
          refine ⟨by rw [F.safe]; exact ⟨fun h => (by cases h), safe_row fun i hi => ⟨by rw [h'.2 i hi]; rfl, fun h => (by cases h)⟩⟩, ?_⟩
          cbv
          rw [eb]
          refine ⟨by rw [F.le3, F.add]; exact ⟨by decide, by decide, by decide⟩, by rw [F.le3]; exact ⟨by simp, by simp, by simp⟩, by rw [F.room, F.add]; exact hroom, ?_⟩
          rw [hap] at hK
          refine hK _ _ _ ⟨_, _, _, ⟨_, n3, f3, h3, .inl ⟨rfl, rfl⟩, rfl, rfl, rfl⟩, weak_of ⟨[(0, 6)], [], []⟩ ⟨?_, ?_, ?_, by simp⟩⟩
          · simp [ckE, look, ckV, ckVs, ckC, ckCs, resOne, mem, hn3, F.add, real]
          · simp only [F.join, F.shift, F.add]
            refine ⟨ltn rfl, ?_, trivial⟩
            refine ⟨rfl, rfl, rfl, by simp [real, hn3], fun i hi => ?_⟩
            have q := isS_snoc h' e.s (show i < n + 1 by omega)
            rw [h3.2 i hi]
            exact (congrArg (fun c => ckCs _ _ c _) q).mpr (noIds_ck rfl)
          · simp [ckN]
        · cbv
          refine ⟨?_, trivial⟩
          refine F.call (clone_s l n f h hn) ?_
          rintro v s2 n2 ⟨f', h', rfl, rfl, rfl⟩
          refine ⟨by rw [F.safe]; exact ⟨fun h => (by cases h), safe_row fun i hi => ⟨by rw [h'.2 i hi]; rfl, fun h => (by cases h)⟩⟩, ?_⟩
          cbv
          rw [eb]
          refine ⟨by rw [F.le3, F.add]; exact ⟨by decide, by decide, by decide⟩, by rw [F.le3]; exact ⟨by simp, by simp, by simp⟩, by rw [F.room, F.add]; exact hroom, ?_⟩
          rw [hap] at hK
          refine hK _ _ _ ⟨_, _, _, ⟨_, n3, f3, h3, .inl ⟨rfl, rfl⟩, rfl, rfl, rfl⟩, weak_of ⟨[(0, 6)], [], []⟩ ⟨?_, ?_, ?_, by simp⟩⟩
          · simp [ckE, look, ckV, ckVs, ckC, ckCs, resOne, mem, hn3, F.add, real]
          · simp only [F.join, F.shift, F.add]
            refine ⟨ltn rfl, ?_, trivial⟩
            refine ⟨rfl, rfl, rfl, by simp [real, hn3], fun i hi => ?_⟩
            have q := isS_snoc h' e.s (show i < n + 1 by omega)
            rw [h3.2 i hi]
            exact (congrArg (fun c => ckCs _ _ c _) q).mpr (noIds_ck rfl)
          · simp [ckN]
      · rw [if_neg hx] at hap
        generalize refuse ⟨ck, bt, l⟩ e.s = q at hap hx
        cbv
        exact err q _ _ hap hx
    · simp only [F.cmp, F.scmp, F.band, F.beq, F.bnot, F.ari, F.shf, F.neg, F.unx, F.wrap, F.slen, F.sat, F.more, F.rune, F.rnext] at k0
      simp [real, ncast, ocast] at k0
      rw [if_neg k0] at hap
      refine ⟨fun k1 => ?_, fun k1 => ?_⟩ <;> cbv
      · simp only [F.cmp, F.scmp, F.band, F.beq, F.bnot, F.ari, F.shf, F.neg, F.unx, F.wrap, F.slen, F.sat, F.more, F.rune, F.rnext] at k1
        simp [real, ncast, ocast] at k1
        rw [if_pos k1] at hap
        refine F.call (any_s l n f h hn _ e.cells (fun s => s.birth == e.birth) (fun s => clo_birth1 e s)) ?_
        rintro v s2 n2 ⟨r, hr, rfl, rfl, rfl⟩
        refine ⟨F.lent1 rfl, ?_⟩
        cases r with
        | false =>
          cbv
          refine err 16 _ _ ?_ (by omega)
          rw [hap, ← hr, if_neg (by simp)]
        | true =>
          rw [← hr, if_pos rfl] at hap
          cbv
          refine F.call (without_s l n f h hn ck bt _ e.cells (fun s => s.birth == e.birth) (fun s => clo_birth2 e s)) ?_
          rintro v s2 n2 ⟨n', f', h', rfl, rfl, rfl⟩
          refine ⟨by rw [F.safe]; exact ⟨fun _ => rfl, safe_row fun i hi => by rw [h'.2 i hi]; exact ⟨rfl, fun _ => rfl⟩⟩, ?_⟩
          cbv
          rw [hap] at hK
          refine hK _ _ _ ⟨_, _, _, ⟨_, n', f', h', .inl ⟨rfl, rfl⟩, rfl, rfl, rfl⟩, weak_of ⟨[(0, 4)], [], []⟩ ⟨?_, ?_, ?_, by simp⟩⟩
          · simp [ckE, look, ckV, ckVs, ckC, ckCs, resOne, mem]
          · refine ⟨ltn rfl, ?_, trivial⟩
            refine ⟨rfl, rfl, rfl, Nat.le_refl _, fun i hi => ?_⟩
            rw [h'.2 i hi]
            exact noIds_ck rfl
          · simp [ckN]
      · simp only [F.cmp, F.scmp, F.band, F.beq, F.bnot, F.ari, F.shf, F.neg, F.unx, F.wrap, F.slen, F.sat, F.more, F.rune, F.rnext] at k1
        simp [real, ncast, ocast] at k1
        rw [if_neg k1] at hap
        have htk : 1 ≤ e.ticks ∧ e.ticks ≤ 1073741824 := by
          unfold evMay at hm
          rw [if_neg k0, if_neg k1] at hm
          split at hm
          · simp only [Bool.and_eq_true, frm_iff] at hm
            exact hm.2
          · cases hm
        have et : ari .sub .i64 1099511627776 e.ticks = 1099511627776 - e.ticks := by rw [F.ari]; exact wrap64 (by omega) (by omega)
        refine ⟨fun k2 => ?_, fun k2 => ?_⟩ <;> cbv
        · simp only [F.cmp, F.scmp, F.band, F.beq, F.bnot, F.ari, F.shf, F.neg, F.unx, F.wrap, F.slen, F.sat, F.more, F.rune, F.rnext] at k2
          simp [real, ncast, ocast] at k2
          rw [et]
          refine ⟨fun k3 => ?_, fun k3 => ?_⟩ <;> cbv
          · simp only [F.cmp, F.scmp, F.band, F.beq, F.bnot, F.ari, F.shf, F.neg, F.unx, F.wrap, F.slen, F.sat, F.more, F.rune, F.rnext] at k3
            simp [real, ncast, ocast] at k3
            refine err 12 _ _ ?_ (by omega)
            rw [hap, if_pos (by omega)]
          · simp only [F.cmp, F.scmp, F.band, F.beq, F.bnot, F.ari, F.shf, F.neg, F.unx, F.wrap, F.slen, F.sat, F.more, F.rune, F.rnext] at k3
            simp [real, ncast, ocast] at k3
            rw [if_neg (by omega)] at hap
            have ec : ari .add .i64 ck e.ticks = ck + e.ticks := by rw [F.ari]; exact wrap64 (by omega) (by omega)
            rw [ec]
            generalize ck + e.ticks = c2 at hap ⊢
            refine F.call (without_s l n f h hn c2 bt _ _ (fun s => decide (s.deadline ≤ c2)) (fun s => apply3 s c2 bt _)) ?_
            rintro v s2 n2 ⟨n', f', h', rfl, rfl, rfl⟩
            refine ⟨by rw [F.safe]; exact ⟨fun _ => rfl, safe_row fun i hi => by rw [h'.2 i hi]; exact ⟨rfl, fun _ => rfl⟩⟩, ?_⟩
            cbv
            rw [hap] at hK
            refine hK _ _ _ ⟨_, _, _, ⟨_, n', f', h', .inl ⟨rfl, rfl⟩, rfl, rfl, rfl⟩, weak_of ⟨[(0, 4)], [], []⟩ ⟨?_, ?_, ?_, by simp⟩⟩
            · simp [ckE, look, ckV, ckVs, ckC, ckCs, resOne, mem]
            · refine ⟨ltn rfl, ?_, trivial⟩
              refine ⟨rfl, rfl, rfl, Nat.le_refl _, fun i hi => ?_⟩
              rw [h'.2 i hi]
              exact noIds_ck rfl
            · simp [ckN]
        · simp only [F.cmp, F.scmp, F.band, F.beq, F.bnot, F.ari, F.shf, F.neg, F.unx, F.wrap, F.slen, F.sat, F.more, F.rune, F.rnext] at k2
          simp [real, ncast, ocast] at k2
          refine err 12 _ _ ?_ (by omega)
          rw [hap, if_pos (by omega)]
end Am
