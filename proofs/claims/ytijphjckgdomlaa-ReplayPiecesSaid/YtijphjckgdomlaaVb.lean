/-
  The law's own functions: login, has, parent, narrower.
-/
import Derived.Test.YtijphjckgdomlaaVa
set_option linter.all false
namespace Am
open Go Go.Proofs
set_option maxRecDepth 10000
set_option maxHeartbeats 1000000

def ann : ByteArray := ⟨#[97, 110, 110]⟩
def loginEv (birth slot clock til : Int) : Ev := ⟨0, ⟨slot, birth, 0, 0, 0, ann, nob, 7, 1, clock, til, 0⟩, 0, 0⟩
theorem login_ (birth slot clock til : Int) : TriS Try.prog 29 [.c (i64 birth), .c (i64 slot), .c (i64 clock), .c (i64 til)] [] 0 (fun v s nx => v = .agg (loginEv birth slot clock til).cells ∧ s = [] ∧ nx = 0) := by
  refine walk tab_ok mixed (noMeths rfl) (C := cfg29) (fn := Try.f29) (c := Try.f29.body.getD .skip) (by kernel_rfl) (by kernel_rfl) (by kernel_rfl) (by kernel_rfl) (by kernel_rfl) 60 ?_
  intro ari shf cmp scmp band beq bnot neg unx wrap slen sat ssub cat bstr toN sub add shift join setf bytes updb updv rng idx isb le3 nz room nil0 catok rune rnext more rstr nid safe tri weak Kx hK F
  have htoN := F.toN
  subst htoN
  cbv
  exact hK _ _ _ (said_plain ⟨rfl, rfl, rfl⟩ rfl)

theorem has_ (l : List Sess) (n : Nat) (f : Nat → List CV) (h : IsS l n f) (hn : n ≤ 1048576) (b : Int) : TriS Try.prog 18 [.c (.sl 12 n 0 f), .c (i64 b)] [] 0 (RetB (l.any fun s => s.birth == b)) := by
  obtain ⟨g, hg⟩ : ∃ g : Nat → Sess, ∀ i, g i = l.getD i .zero := ⟨_, fun _ => rfl⟩
  have hl := h.1
  have hat : ∀ k, k < n → l[k]? = some (g k) := fun k hk => by
    have : k < l.length := by omega
    rw [hg, List.getD_eq_getElem?_getD, List.getElem?_eq_getElem this]; rfl
  refine TriS.args (vs' := [.c (.sl 12 n 0 (sess g)), .c (i64 b)]) ?_ ⟨⟨rfl, rfl, rfl, fun i hi => by rw [h.2 i (by omega), ← hg]⟩, rfl, trivial⟩
  clear h
  refine walk tab_ok mixed (noMeths rfl) (C := cfg18) (fn := Try.f18) (c := Try.f18.body.getD .skip) (by kernel_rfl) (by kernel_rfl) (by kernel_rfl) (by kernel_rfl) (by kernel_rfl) 60 ?_
  intro ari shf cmp scmp band beq bnot neg unx wrap slen sat ssub cat bstr toN sub add shift join setf bytes updb updv rng idx isb le3 nz room nil0 catok rune rnext more rstr nid safe tri weak Kx hK F
  have htoN := F.toN
  subst htoN
  cbv
  refine ⟨fun mu st => ∃ j : Nat, mu = n - j ∧ j ≤ n ∧ (∀ i, i < j → (g i).birth ≠ b) ∧ st = ⟨[(0, .c (.sl 12 n 0 (sess g))), (1, .c (i64 b)), (5, .c (i64 j))], [], 0⟩, ⟨_, _, ⟨0, rfl, Nat.zero_le _, fun i hi => by omega, rfl⟩, ?_⟩, ?_⟩
  · cbv
    refine F.say ⟨[], [], []⟩ ⟨?_, ?_, ?_, by simp⟩
    · simp [ckE, look, ckV, ckC, ckCs]
    · simp [ckS]
    · simp [ckN]
  rintro mu _ ⟨j, hmu, hj, hno, rfl⟩
  cbv
  refine ⟨fun h1 => ?_, fun h1 => ?_⟩ <;> cbv
  · rw [F.cmp] at h1
    have h1 : j < n := by simpa [real, ncast, ocast] using h1
    refine ⟨by rw [F.rng]; exact ⟨by simp, by simpa [real] using h1⟩, ?_⟩
    cbv
    have hx := hat j h1
    generalize hgj : g j = x at hx ⊢
    refine ⟨fun h2 => ?_, fun h2 => ?_⟩ <;> cbv
    · simp only [F.cmp, F.scmp, F.band, F.beq, F.bnot, F.ari, F.shf, F.neg, F.unx, F.wrap, F.slen, F.sat, F.more, F.rune, F.rnext] at h2
      simp [real, ncast, ocast] at h2
      refine hK _ _ _ (said_plain ⟨_, ?_, rfl, rfl, rfl⟩ rfl)
      exact (List.any_eq_true.2 ⟨x, List.mem_of_getElem? hx, by simpa using h2⟩).symm
    · simp only [F.cmp, F.scmp, F.band, F.beq, F.bnot, F.ari, F.shf, F.neg, F.unx, F.wrap, F.slen, F.sat, F.more, F.rune, F.rnext] at h2
      simp [real, ncast, ocast] at h2
      refine ⟨n - (j + 1), _, by omega, ⟨j + 1, rfl, h1, fun i hi => ?_, rfl⟩, ?_⟩
      · rcases Nat.lt_succ_iff_lt_or_eq.1 hi with h | h
        · exact hno i h
        · rw [h, hgj]; exact h2
      · cbv
        refine F.say ⟨[], [], []⟩ ⟨?_, ?_, ?_, by simp⟩
        · simp [ckE, look, ckV, ckC, ckCs, F.ari, real, wrapS h1 (show n < 4611686018427387904 by omega)]
        · simp [ckS]
        · simp [ckN]
  · rw [F.cmp] at h1
    have h1 : ¬ j < n := by simpa [real, ncast, ocast] using h1
    refine hK _ _ _ (said_plain ⟨_, ?_, rfl, rfl, rfl⟩ rfl)
    symm
    rw [List.any_eq_false]
    intro x hx hc
    obtain ⟨i, hi, rfl⟩ := List.getElem_of_mem hx
    have h3 := hat i (by omega)
    rw [List.getElem?_eq_getElem hi] at h3
    injection h3 with h3
    exact hno i (by omega) (by rw [← h3]; simpa using hc)

theorem narrower_ (s p : Sess) (hn : narrow s p) (hd : 0 ≤ p.depth ∧ p.depth ≤ 6) (hb : 0 ≤ s.born ∧ s.born ≤ 1099511627776) : TriS Try.prog 38 [.agg s.cells, .agg p.cells] [] 0 (RetB true) := by
  obtain ⟨h1, h2, h3, h4, h5⟩ := hn
  refine walk tab_ok mixed (noMeths rfl) (C := cfg38) (fn := Try.f38) (c := Try.f38.body.getD .skip) (by kernel_rfl) (by kernel_rfl) (by kernel_rfl) (by kernel_rfl) (by kernel_rfl) 60 ?_
  intro ari shf cmp scmp band beq bnot neg unx wrap slen sat ssub cat bstr toN sub add shift join setf bytes updb updv rng idx isb le3 nz room nil0 catok rune rnext more rstr nid safe tri weak Kx hK F
  have htoN := F.toN
  subst htoN
  cbv
  refine F.call (within_ _ _) ?_
  rintro v s2 n2 ⟨r1, hr1, rfl, rfl, rfl⟩
  refine ⟨F.lent0, ?_⟩
  cases r1 <;> cbv
  · rw [h1] at hr1; cases hr1
  have e1 : ari .add .i64 p.depth 1 = p.depth + 1 := by rw [F.ari]; exact wrap64 (by omega) (by omega)
  have e2 : ari .add .i64 s.born 300 = s.born + 300 := by rw [F.ari]; exact wrap64 (by omega) (by omega)
  refine ⟨fun c1 => ?_, fun c1 => ?_⟩ <;> cbv
  · refine ⟨fun c2 => ?_, fun c2 => ?_⟩ <;> cbv
    · refine ⟨fun c3 => ?_, fun c3 => ?_⟩ <;> cbv
      · exfalso
        rw [F.bnot, F.scmp] at c3
        simp [real, h4] at c3
      · refine ⟨fun c4 => ?_, fun c4 => ?_⟩ <;> cbv
        · simp only [F.cmp, F.scmp, F.band, F.beq, F.bnot, F.ari, F.shf, F.neg, F.unx, F.wrap, F.slen, F.sat, F.more, F.rune, F.rnext] at c4
          simp [real, ncast, ocast] at c4
          refine ⟨fun c5 => ?_, fun c5 => ?_⟩ <;> cbv
          · simp only [F.cmp, F.scmp, F.band, F.beq, F.bnot, F.ari, F.shf, F.neg, F.unx, F.wrap, F.slen, F.sat, F.more, F.rune, F.rnext] at c5
            simp [real, ncast, ocast] at c5
            refine hK _ _ _ (said_bool ⟨_, ?_, rfl, rfl, rfl⟩)
            rw [F.cmp]
            simp only [real, beq_iff_eq]
            show s.kind = 1
            omega
          · exfalso
            simp only [F.cmp, F.scmp, F.band, F.beq, F.bnot, F.ari, F.shf, F.neg, F.unx, F.wrap, F.slen, F.sat, F.more, F.rune, F.rnext] at c5
            simp [real, ncast, ocast] at c5
            omega
        · simp only [F.cmp, F.scmp, F.band, F.beq, F.bnot, F.ari, F.shf, F.neg, F.unx, F.wrap, F.slen, F.sat, F.more, F.rune, F.rnext] at c4
          simp [real, ncast, ocast] at c4
          refine ⟨fun c5 => ?_, fun c5 => ?_⟩ <;> cbv
          · simp only [F.cmp, F.scmp, F.band, F.beq, F.bnot, F.ari, F.shf, F.neg, F.unx, F.wrap, F.slen, F.sat, F.more, F.rune, F.rnext] at c5
            simp [real, ncast, ocast] at c5
            rw [e2]
            refine hK _ _ _ (said_bool ⟨_, ?_, rfl, rfl, rfl⟩)
            rw [F.cmp]
            simp only [real, decide_eq_true_eq]
            show s.deadline ≤ s.born + 300
            omega
          · exfalso
            simp only [F.cmp, F.scmp, F.band, F.beq, F.bnot, F.ari, F.shf, F.neg, F.unx, F.wrap, F.slen, F.sat, F.more, F.rune, F.rnext] at c5
            simp [real, ncast, ocast] at c5
            omega
    · exfalso
      rw [e1, F.bnot, F.cmp] at c2
      simp [real] at c2
      omega
  · exfalso
    simp only [F.cmp, F.scmp, F.band, F.beq, F.bnot, F.ari, F.shf, F.neg, F.unx, F.wrap, F.slen, F.sat, F.more, F.rune, F.rnext] at c1
    simp [real, ncast, ocast] at c1
    omega

/-- The parent of a session: ahead of it. -/
theorem parent_ (l : List Sess) (n : Nat) (f : Nat → List CV) (h : IsS l n f) (hn : n ≤ 1048576) (i : Nat) (hi : i < n) (s : Sess) (hs : l[i]? = some s) (hex : ∃ k p, k < i ∧ l[k]? = some p ∧ p.birth = s.upbirth ∧ p.slot = s.upslot) :
    TriS Try.prog 37 [.c (.sl 12 n 0 f), .c (i64 i)] [] 0 (fun v s' nx => ∃ p, p ∈ l ∧ p.birth = s.upbirth ∧ v = .tup [.agg p.cells, .c (.lit true)] ∧ s' = [] ∧ nx = 0) := by
  obtain ⟨g, hg⟩ : ∃ g : Nat → Sess, ∀ i, g i = l.getD i .zero := ⟨_, fun _ => rfl⟩
  have hl := h.1
  have hat : ∀ k, k < n → l[k]? = some (g k) := fun k hk => by
    have : k < l.length := by omega
    rw [hg, List.getD_eq_getElem?_getD, List.getElem?_eq_getElem this]; rfl
  refine TriS.args (vs' := [.c (.sl 12 n 0 (sess g)), .c (i64 i)]) ?_ ⟨⟨rfl, rfl, rfl, fun i hi => by rw [h.2 i (by omega), ← hg]⟩, rfl, trivial⟩
  clear h
  have hgi : g i = s := by
    have := hat i hi
    rw [hs] at this
    injection this with this
    exact this.symm
  refine walk tab_ok mixed (noMeths rfl) (C := cfg37) (fn := Try.f37) (c := Try.f37.body.getD .skip) (by kernel_rfl) (by kernel_rfl) (by kernel_rfl) (by kernel_rfl) (by kernel_rfl) 60 ?_
  intro ari shf cmp scmp band beq bnot neg unx wrap slen sat ssub cat bstr toN sub add shift join setf bytes updb updv rng idx isb le3 nz room nil0 catok rune rnext more rstr nid safe tri weak Kx hK F
  have htoN := F.toN
  subst htoN
  cbv
  refine ⟨fun mu st => ∃ j : Nat, mu = i - j ∧ j ≤ i ∧ (∀ k, k < j → ¬ ((g k).birth = s.upbirth ∧ (g k).slot = s.upslot)) ∧ st = ⟨[(0, .c (.sl 12 n 0 (sess g))), (1, .c (i64 i)), (4, .c (.ptr 0 0)), (6, .c (i64 j))], [(0, .box Sess.zero.cells)], 1⟩, ⟨_, _, ⟨0, rfl, Nat.zero_le _, fun i hi => by omega, rfl⟩, ?_⟩, ?_⟩
  · cbv
    refine F.say ⟨[(0, 0)], [], []⟩ ⟨?_, ?_, ?_, by simp⟩
    · simp [ckE, look, ckV, ckC, ckCs, mem]
    · simp [ckS, look, ckO, ckC, ckCs, mem]
    · simp [ckN]
  rintro mu _ ⟨j, hmu, hj, hno, rfl⟩
  cbv
  refine ⟨fun h1 => ?_, fun h1 => ?_⟩ <;> cbv
  · rw [F.cmp] at h1
    have h1 : j < i := by simpa [real, ncast, ocast] using h1
    have rj : rng n (Int.ofNat j) := by rw [F.rng]; exact ⟨by simp, by simp; omega⟩
    have ri : rng n (Int.ofNat i) := by rw [F.rng]; exact ⟨by simp, by simp; omega⟩
    have hx := hat j (by omega)
    refine ⟨rj, ri, ?_⟩
    cbv
    refine ⟨fun h2 => ?_, fun h2 => ?_⟩ <;> cbv
    · simp only [F.cmp, F.scmp, F.band, F.beq, F.bnot, F.ari, F.shf, F.neg, F.unx, F.wrap, F.slen, F.sat, F.more, F.rune, F.rnext] at h2
      simp [real, ncast, ocast] at h2
      refine ⟨rj, ri, ?_⟩
      cbv
      refine ⟨fun h3 => ?_, fun h3 => ?_⟩ <;> cbv
      · simp only [F.cmp, F.scmp, F.band, F.beq, F.bnot, F.ari, F.shf, F.neg, F.unx, F.wrap, F.slen, F.sat, F.more, F.rune, F.rnext] at h3
        simp [real, ncast, ocast] at h3
        refine ⟨rj, ?_⟩
        cbv
        generalize g j = p at hx h2 h3 ⊢
        refine hK _ _ _ ⟨_, _, _, ⟨p, List.mem_of_getElem? hx, by rw [h2, hgi], rfl, rfl, rfl⟩, weak_of ⟨[], [], []⟩ ⟨?_, ?_, ?_, by simp⟩⟩
        · simp [ckE, look, ckV, ckVs, ckC, ckCs, resOne]
        · simp [ckS]
        · simp [ckN]
      · simp only [F.cmp, F.scmp, F.band, F.beq, F.bnot, F.ari, F.shf, F.neg, F.unx, F.wrap, F.slen, F.sat, F.more, F.rune, F.rnext] at h3
        simp [real, ncast, ocast] at h3
        refine ⟨i - (j + 1), _, by omega, ⟨j + 1, rfl, h1, fun k hk => ?_, rfl⟩, ?_⟩
        · rcases Nat.lt_succ_iff_lt_or_eq.1 hk with h | h
          · exact hno k h
          · rw [h]; rintro ⟨_, q⟩; rw [hgi] at h3; exact h3 q
        · cbv
          refine F.say ⟨[(0, 0)], [], []⟩ ⟨?_, ?_, ?_, by simp⟩
          · simp [ckE, look, ckV, ckC, ckCs, mem, F.ari, real, wrapS h1 (show i < 4611686018427387904 by omega)]
          · simp [ckS, look, ckO, ckC, ckCs, mem]
          · simp [ckN]
    · simp only [F.cmp, F.scmp, F.band, F.beq, F.bnot, F.ari, F.shf, F.neg, F.unx, F.wrap, F.slen, F.sat, F.more, F.rune, F.rnext] at h2
      simp [real, ncast, ocast] at h2
      refine ⟨i - (j + 1), _, by omega, ⟨j + 1, rfl, h1, fun k hk => ?_, rfl⟩, ?_⟩
      · rcases Nat.lt_succ_iff_lt_or_eq.1 hk with h | h
        · exact hno k h
        · rw [h]; rintro ⟨q, _⟩; rw [hgi] at h2; exact h2 q
      · cbv
        refine F.say ⟨[(0, 0)], [], []⟩ ⟨?_, ?_, ?_, by simp⟩
        · simp [ckE, look, ckV, ckC, ckCs, mem, F.ari, real, wrapS h1 (show i < 4611686018427387904 by omega)]
        · simp [ckS, look, ckO, ckC, ckCs, mem]
        · simp [ckN]
  · rw [F.cmp] at h1
    have h1 : ¬ j < i := by simpa [real, ncast, ocast] using h1
    exfalso
    obtain ⟨k, p, k1, k2, k3, k4⟩ := hex
    have := hat k (by omega)
    rw [k2] at this
    injection this with this
    exact hno k (by omega) (by rw [← this]; exact ⟨k3, k4⟩)
end Am
