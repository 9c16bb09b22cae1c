/-
  event.Encode.
-/
import Derived.Test.YtijphjckgdomlaaV4
import Derived.Test.YtijphjckgdomlaaV5
set_option linter.all false
namespace Am
open Go Go.Proofs
set_option maxRecDepth 10000
set_option maxHeartbeats 400000

/-- An event as bytes. -/
def evEnc (e : Ev) : List UInt8 :=
  if e.kind = 0 then vencs [0] ++ vencs [e.s.slot.toNat, e.s.birth.toNat, e.s.upslot.toNat, e.s.upbirth.toNat, e.s.kind.toNat] ++ (venc e.s.user.size ++ e.s.user.data.toList) ++ (venc e.s.label.size ++ e.s.label.data.toList) ++ venc e.s.scopes.toNat ++
    vencs [e.s.level.toNat, e.s.born.toNat, e.s.deadline.toNat, e.s.depth.toNat]
  else if e.kind = 1 then vencs [1] ++ vencs [e.birth.toNat] else vencs [2] ++ vencs [e.ticks.toNat]
theorem row_ints : ∀ (us : List Int), (∀ a ∈ us, 0 ≤ a) → ∀ i, i < us.length → pickR (us.map fun a => [i64 a]) i = [i64 (((us.map Int.toNat).getD i 0 : Nat) : Int)] := by
  intro us
  induction us with
  | nil => intro _ i hi; simp at hi
  | cons a r ih =>
    intro h i hi
    cases i with
    | zero =>
      have := h a (by simp)
      simp [pickR, Int.toNat_of_nonneg this]
    | succ i =>
      have := ih (fun b hb => h b (List.mem_cons_of_mem _ hb)) i (by simpa using hi)
      simp only [List.map_cons, pickR, List.getD_cons_succ]
      exact this

theorem safe_wri3 {id n : Nat} {f : Nat → List CV} (h : ∀ i, i < n → noIds (f i) = true) : ∀ id' o, look id' [(0, Obj.box [.ptr 1 0]), (1, .box [.ref id 1 0 n]), (id, .arr 5 1 n f)] = some o → safeO false o := by
  intro id' o hl
  simp only [look] at hl
  split at hl
  · injection hl with hl; subst hl; exact fun h => by cases h
  · split at hl
    · injection hl with hl; subst hl; exact fun h => by cases h
    · split at hl
      · injection hl with hl; subst hl; exact fun i hi => ⟨h i hi, fun h => by cases h⟩
      · cases hl

theorem safe_wri4 {a b n m : Nat} {f g : Nat → List CV} (h : ∀ i, i < n → noIds (f i) = true) (h2 : ∀ i, i < m → noIds (g i) = true) : ∀ id' o, look id' [(0, Obj.box [.ref a 1 0 n]), (a, .arr 5 1 n f), (b, .arr 5 1 m g)] = some o → safeO false o := by
  intro id' o hl
  simp only [look] at hl
  split at hl
  · injection hl with hl; subst hl; exact fun h => by cases h
  · split at hl
    · injection hl with hl; subst hl; exact fun i hi => ⟨h i hi, fun h => by cases h⟩
    · split at hl
      · injection hl with hl; subst hl; exact fun i hi => ⟨h2 i hi, fun h => by cases h⟩
      · cases hl

theorem encode_ (e : Ev) (hsc : 0 ≤ e.s.scopes ∧ e.s.scopes < 18446744073709551616) : TriS Try.prog 30 [.agg e.cells] [] 0 (fun x s' nx =>
    (evMay e = false ∧ x = .tup [.c (.v (.slice none 0 0)), .c (.if1 62 (i64 1))] ∧ s' = [] ∧ nx = 0) ∨
    (evMay e = true ∧ ∃ n f, IsB (evEnc e) n f ∧ x = .tup [.c (.ref 0 1 0 n), .c (.v .nilIface)] ∧ s' = [(0, .arr 5 1 n f)] ∧ nx = 1)) := by
  refine walk tab_ok mixed (noMeths rfl) (C := cfg30) (fn := Try.f30) (c := Try.f30.body.getD .skip) (by kernel_rfl) (by kernel_rfl) (by kernel_rfl) (by kernel_rfl) (by kernel_rfl) 60 ?_
  intro ari shf cmp scmp band beq bnot neg unx wrap slen sat ssub cat bstr toN sub add shift join setf bytes updb updv rng idx isb le3 nz room nil0 catok rune rnext more rstr nid safe tri weak Kx hK F
  have htoN := F.toN
  subst htoN
  cbv
  refine F.call (of_ e) ?_
  rintro v s2 n2 ⟨x, hx, rfl, rfl, rfl⟩
  refine ⟨F.lent0, ?_⟩
  rcases hx with ⟨hm, hk⟩ | ⟨hm, rfl⟩
  · rcases hk with ⟨hk, rfl⟩ | ⟨hk, rfl⟩ | ⟨hk, rfl⟩
    · cbv
      refine F.call new_ ?_
      rintro v s2 n2 ⟨f0, h0, rfl, rfl, rfl⟩
      refine ⟨by rw [F.safe]; exact ⟨fun h => (by cases h), safe_wri fun i hi => by omega⟩, ?_⟩
      cbv
      have ek : ∀ a ∈ [e.kind], 0 ≤ a := by simp [hk]
      have hb : birthMay e.s = true := by
        unfold evMay at hm
        rw [if_pos hk] at hm
        simp only [Bool.and_eq_true] at hm
        exact hm.2
      obtain ⟨b1, b2, b3, b4, b5, b6⟩ := birthMay_facts hb
      have c1 := birthMay_names hb
      have ev : ∀ a ∈ [e.s.slot, e.s.birth, e.s.upslot, e.s.upbirth, e.s.kind], 0 ≤ a := by
        simp only [List.mem_cons, List.not_mem_nil, or_false]
        rintro a (rfl | rfl | rfl | rfl | rfl) <;> omega
      have ew : ∀ a ∈ [e.s.level, e.s.born, e.s.deadline, e.s.depth], 0 ≤ a := by
        simp only [List.mem_cons, List.not_mem_nil, or_false]
        rintro a (rfl | rfl | rfl | rfl) <;> omega
      have ev2 : ∀ v ∈ [e.s.slot, e.s.birth, e.s.upslot, e.s.upbirth, e.s.kind].map Int.toNat, v < 9223372036854775808 := by
        simp only [List.map_cons, List.map_nil, List.mem_cons, List.not_mem_nil, or_false]
        rintro a (rfl | rfl | rfl | rfl | rfl) <;> omega
      have ew2 : ∀ v ∈ [e.s.level, e.s.born, e.s.deadline, e.s.depth].map Int.toNat, v < 9223372036854775808 := by
        simp only [List.map_cons, List.map_nil, List.mem_cons, List.not_mem_nil, or_false]
        rintro a (rfl | rfl | rfl | rfl) <;> omega
      -- the numbers' closure: [(0, 3), (1, 1), (2, 2), (3, 4)]: own numbers, h0: contents of the row, [e.kind] numbers, 1 how many
      refine F.callF (numbers_ _ _ _ h0 ([e.kind].map Int.toNat) 1 _ rfl (row_ints [e.kind] ek) (by simp [hk]) (by simp) (by decide)) [(0, 3), (1, 1), (2, 2), (3, 4)] ⟨?_, ?_, ?_, by simp⟩ rfl rfl ?_
      · simp [argEnv, ckE, look, ckV, ckC, mem]
      · refine ⟨ltn rfl, ?_, ltn rfl, ?_, ltn rfl, ?_, ltn rfl, ?_, trivial⟩
        · simp [look, mem, ckO, ckC, ckCs]
        · simp [look, mem, ckO, ckC, ckCs]
        · refine ⟨rfl, rfl, rfl, Nat.le_refl _, fun i hi => ?_⟩
          rw [(h0).2 i hi]
          exact noIds_ck rfl
        · refine ⟨rfl, rfl, rfl, Nat.le_refl _, fun i hi => ?_⟩
          have e := row_ints [e.kind] ek i hi
          exact (congrArg (fun c => ckCs _ _ c c) e).mpr (noIds_ck rfl)
      · simp [ckN]
      rintro v s2 n2 ⟨n1, f1, h1, rfl, rfl, rfl⟩
      refine ⟨⟨by simp, safe_wri3 fun i hi => by rw [h1.2 i hi]; rfl⟩, ?_⟩
      cbv
      generalize hA1 : ([] ++ vencs (List.map Int.toNat [e.kind])) = A1 at h1
      have l1 : A1.length ≤ 11 := by rw [← hA1]; exact vencs_len _ (by simp [hk])
      -- the numbers' closure: [(0, 3), (1, 1), (2, 5), (3, 8)]: own numbers, h1: contents of the row, [e.s.slot, e.s.birth, e.s.upslot, e.s.upbirth, e.s.kind] numbers, 5 how many
      refine F.callF (numbers_ _ _ _ h1 ([e.s.slot, e.s.birth, e.s.upslot, e.s.upbirth, e.s.kind].map Int.toNat) 5 _ rfl (row_ints [e.s.slot, e.s.birth, e.s.upslot, e.s.upbirth, e.s.kind] ev) (by exact ev2) (by omega) (by decide)) [(0, 3), (1, 1), (2, 5), (3, 8)] ⟨?_, ?_, ?_, by simp⟩ rfl rfl ?_
      · simp [argEnv, ckE, look, ckV, ckC, mem]
      · refine ⟨ltn rfl, ?_, ltn rfl, ?_, ltn rfl, ?_, ltn rfl, ?_, trivial⟩
        · simp [look, mem, ckO, ckC, ckCs]
        · simp [look, mem, ckO, ckC, ckCs]
        · refine ⟨rfl, rfl, rfl, Nat.le_refl _, fun i hi => ?_⟩
          rw [(h1).2 i hi]
          exact noIds_ck rfl
        · refine ⟨rfl, rfl, rfl, Nat.le_refl _, fun i hi => ?_⟩
          have e := row_ints [e.s.slot, e.s.birth, e.s.upslot, e.s.upbirth, e.s.kind] ev i hi
          exact (congrArg (fun c => ckCs _ _ c c) e).mpr (noIds_ck rfl)
      · simp [ckN]
      rintro v s2 n2 ⟨n1, f1, h1, rfl, rfl, rfl⟩
      refine ⟨⟨by simp, safe_wri3 fun i hi => by rw [h1.2 i hi]; rfl⟩, ?_⟩
      cbv
      generalize hA2 : (A1 ++ vencs (List.map Int.toNat [e.s.slot, e.s.birth, e.s.upslot, e.s.upbirth, e.s.kind])) = A2 at h1
      have l2 : A2.length ≤ 66 := by rw [← hA2, List.length_append]; have := vencs_len _ ev2; simp only [List.length_map, List.length_cons, List.length_nil] at this; omega
      -- a text: [(0, 1), (1, 9)]: own numbers, h1: contents of the row, e.s.user: text, (by omega), (by omega): bounds
      refine F.callF (text_ _ _ _ h1 e.s.user (by omega) (by omega)) [(0, 1), (1, 9)] ⟨?_, ?_, ?_, by simp⟩ rfl rfl ?_
      · simp [argEnv, ckE, look, ckV, ckC, mem]
      · refine ⟨ltn rfl, ?_, ltn rfl, ?_, trivial⟩
        · simp [look, mem, ckO, ckC, ckCs]
        · refine ⟨rfl, rfl, rfl, Nat.le_refl _, fun i hi => ?_⟩
          rw [(h1).2 i hi]
          exact noIds_ck rfl
      · simp [ckN]
      rintro v s2 n2 ⟨n1, f1, h1, rfl, rfl, rfl⟩
      refine ⟨⟨by simp, safe_wri fun i hi => by rw [h1.2 i hi]; rfl⟩, ?_⟩
      cbv
      generalize hA3 : (A2 ++ (venc e.s.user.size ++ e.s.user.data.toList)) = A3 at h1
      have l3 : A3.length ≤ 200 := by rw [← hA3]; simp only [List.length_append]; have := venc_len64 (n := e.s.user.size) (by omega); have : e.s.user.data.toList.length = e.s.user.size := rfl; omega
      -- a text: [(0, 1), (1, 10)]: own numbers, h1: contents of the row, e.s.label: text, (by omega), (by omega): bounds
      refine F.callF (text_ _ _ _ h1 e.s.label (by omega) (by omega)) [(0, 1), (1, 10)] ⟨?_, ?_, ?_, by simp⟩ rfl rfl ?_
      · simp [argEnv, ckE, look, ckV, ckC, mem]
      · refine ⟨ltn rfl, ?_, ltn rfl, ?_, trivial⟩
        · simp [look, mem, ckO, ckC, ckCs]
        · refine ⟨rfl, rfl, rfl, Nat.le_refl _, fun i hi => ?_⟩
          rw [(h1).2 i hi]
          exact noIds_ck rfl
      · simp [ckN]
      rintro v s2 n2 ⟨n1, f1, h1, rfl, rfl, rfl⟩
      refine ⟨⟨by simp, safe_wri fun i hi => by rw [h1.2 i hi]; rfl⟩, ?_⟩
      cbv
      generalize hA4 : (A3 ++ (venc e.s.label.size ++ e.s.label.data.toList)) = A4 at h1
      have l4 : A4.length ≤ 300 := by rw [← hA4]; simp only [List.length_append]; have := venc_len64 (n := e.s.label.size) (by omega); have : e.s.label.data.toList.length = e.s.label.size := rfl; omega
      have hsc' : ((e.s.scopes.toNat : Nat) : Int) = e.s.scopes := Int.toNat_of_nonneg hsc.1
      have hnum := number_ _ _ _ h1 e.s.scopes.toNat (by omega) (by omega)
      rw [hsc'] at hnum
      refine F.callF hnum [(0, 1), (1, 11)] ⟨?_, ?_, ?_, by simp⟩ rfl rfl ?_
      · simp [argEnv, ckE, look, ckV, ckC, mem]
      · refine ⟨ltn rfl, ?_, ltn rfl, ?_, trivial⟩
        · simp [look, mem, ckO, ckC, ckCs]
        · refine ⟨rfl, rfl, rfl, Nat.le_refl _, fun i hi => ?_⟩
          rw [h1.2 i hi]
          exact noIds_ck rfl
      · simp [ckN]
      rintro v s2 n2 ⟨n1, f1, h1, rfl, rfl, rfl⟩
      refine ⟨⟨by simp, safe_wri fun i hi => by rw [h1.2 i hi]; rfl⟩, ?_⟩
      cbv
      generalize hA5 : A4 ++ venc e.s.scopes.toNat = A5 at h1
      have l5 : A5.length ≤ 320 := by rw [← hA5]; simp only [List.length_append]; have := venc_len64 (n := e.s.scopes.toNat) (by omega); omega
      -- the numbers' closure: [(0, 3), (1, 1), (2, 12), (3, 13)]: own numbers, h1: contents of the row, [e.s.level, e.s.born, e.s.deadline, e.s.depth] numbers, 4 how many
      refine F.callF (numbers_ _ _ _ h1 ([e.s.level, e.s.born, e.s.deadline, e.s.depth].map Int.toNat) 4 _ rfl (row_ints [e.s.level, e.s.born, e.s.deadline, e.s.depth] ew) (by exact ew2) (by omega) (by decide)) [(0, 3), (1, 1), (2, 12), (3, 13)] ⟨?_, ?_, ?_, by simp⟩ rfl rfl ?_
      · simp [argEnv, ckE, look, ckV, ckC, mem]
      · refine ⟨ltn rfl, ?_, ltn rfl, ?_, ltn rfl, ?_, ltn rfl, ?_, trivial⟩
        · simp [look, mem, ckO, ckC, ckCs]
        · simp [look, mem, ckO, ckC, ckCs]
        · refine ⟨rfl, rfl, rfl, Nat.le_refl _, fun i hi => ?_⟩
          rw [(h1).2 i hi]
          exact noIds_ck rfl
        · refine ⟨rfl, rfl, rfl, Nat.le_refl _, fun i hi => ?_⟩
          have e := row_ints [e.s.level, e.s.born, e.s.deadline, e.s.depth] ew i hi
          exact (congrArg (fun c => ckCs _ _ c c) e).mpr (noIds_ck rfl)
      · simp [ckN]
      rintro v s2 n2 ⟨n1, f1, h1, rfl, rfl, rfl⟩
      refine ⟨⟨by simp, safe_wri3 fun i hi => by rw [h1.2 i hi]; rfl⟩, ?_⟩
      cbv
      generalize hA6 : A5 ++ vencs (List.map Int.toNat [e.s.level, e.s.born, e.s.deadline, e.s.depth]) = A6 at h1
      have l6 : A6.length ≤ 400 := by rw [← hA6, List.length_append]; have := vencs_len _ ew2; simp only [List.length_map, List.length_cons, List.length_nil] at this; omega
      refine F.callF (bytes_ _ _ _ h1 (by omega)) [(0, 1), (1, 14)] ⟨?_, ?_, ?_, by simp⟩ rfl rfl ?_
      · simp [argEnv, ckE, look, ckV, ckC, mem]
      · refine ⟨ltn rfl, ?_, ltn rfl, ?_, trivial⟩
        · simp [look, mem, ckO, ckC, ckCs]
        · refine ⟨rfl, rfl, rfl, Nat.le_refl _, fun i hi => ?_⟩
          rw [(h1).2 i hi]
          exact noIds_ck rfl
      · simp [ckN]
      rintro v s2 n2 ⟨fz, hz, rfl, rfl, rfl⟩
      refine ⟨⟨by simp, safe_wri4 (fun i hi => by rw [(h1).2 i hi]; rfl) fun i hi => by rw [hz.2 i hi]; rfl⟩, ?_⟩
      cbv
      have hfin : evEnc e = A6 := by
        rw [← hA6, ← hA5, ← hA4, ← hA3, ← hA2, ← hA1]
        unfold evEnc
        rw [if_pos hk]
        simp [hk]
      -- 15: the result's number, hfin: what the bytes are
      have hzz : IsB (evEnc e) n1 fz := by rw [hfin]; exact hz
      refine hK _ _ _ ⟨_, _, _, .inr ⟨hm, n1, fz, hzz, rfl, rfl, rfl⟩, weak_of ⟨[(0, 15)], [], []⟩ ⟨?_, ?_, ?_, by simp⟩⟩
      · simp [ckE, look, ckV, ckVs, ckC, resOne, mem]
      · refine ⟨ltn rfl, ?_, trivial⟩
        refine ⟨rfl, rfl, rfl, Nat.le_refl _, fun i hi => ?_⟩
        rw [hz.2 i hi]
        exact noIds_ck rfl
      · simp [ckN]
    · cbv
      refine F.call new_ ?_
      rintro v s2 n2 ⟨f0, h0, rfl, rfl, rfl⟩
      refine ⟨by rw [F.safe]; exact ⟨fun h => (by cases h), safe_wri fun i hi => by omega⟩, ?_⟩
      cbv
      have ek : ∀ a ∈ [e.kind], 0 ≤ a := by simp [hk]
      have hbb : 1 ≤ e.birth ∧ e.birth ≤ 1048576 := by
        unfold evMay at hm
        rw [if_neg (by omega), if_pos hk] at hm
        simp only [Bool.and_eq_true, frm_iff] at hm
        exact hm.2
      have ev : ∀ a ∈ [e.birth], 0 ≤ a := by simp; omega
      have ev2 : ∀ v ∈ [e.birth].map Int.toNat, v < 9223372036854775808 := by simp; omega
      -- the numbers' closure: [(0, 3), (1, 1), (2, 2), (3, 4)]: own numbers, h0: contents of the row, [e.kind] numbers, 1 how many
      refine F.callF (numbers_ _ _ _ h0 ([e.kind].map Int.toNat) 1 _ rfl (row_ints [e.kind] ek) (by simp [hk]) (by simp) (by decide)) [(0, 3), (1, 1), (2, 2), (3, 4)] ⟨?_, ?_, ?_, by simp⟩ rfl rfl ?_
      · simp [argEnv, ckE, look, ckV, ckC, mem]
      · refine ⟨ltn rfl, ?_, ltn rfl, ?_, ltn rfl, ?_, ltn rfl, ?_, trivial⟩
        · simp [look, mem, ckO, ckC, ckCs]
        · simp [look, mem, ckO, ckC, ckCs]
        · refine ⟨rfl, rfl, rfl, Nat.le_refl _, fun i hi => ?_⟩
          rw [(h0).2 i hi]
          exact noIds_ck rfl
        · refine ⟨rfl, rfl, rfl, Nat.le_refl _, fun i hi => ?_⟩
          have e := row_ints [e.kind] ek i hi
          exact (congrArg (fun c => ckCs _ _ c c) e).mpr (noIds_ck rfl)
      · simp [ckN]
      rintro v s2 n2 ⟨n1, f1, h1, rfl, rfl, rfl⟩
      refine ⟨⟨by simp, safe_wri3 fun i hi => by rw [h1.2 i hi]; rfl⟩, ?_⟩
      cbv
      generalize hA1 : ([] ++ vencs (List.map Int.toNat [e.kind])) = A1 at h1
      have l1 : A1.length ≤ 11 := by rw [← hA1]; exact vencs_len _ (by simp [hk])
      -- the numbers' closure: [(0, 3), (1, 1), (2, 5), (3, 7)]: own numbers, h1: contents of the row, [e.birth] numbers, 1 how many
      refine F.callF (numbers_ _ _ _ h1 ([e.birth].map Int.toNat) 1 _ rfl (row_ints [e.birth] ev) (by exact ev2) (by omega) (by decide)) [(0, 3), (1, 1), (2, 5), (3, 7)] ⟨?_, ?_, ?_, by simp⟩ rfl rfl ?_
      · simp [argEnv, ckE, look, ckV, ckC, mem]
      · refine ⟨ltn rfl, ?_, ltn rfl, ?_, ltn rfl, ?_, ltn rfl, ?_, trivial⟩
        · simp [look, mem, ckO, ckC, ckCs]
        · simp [look, mem, ckO, ckC, ckCs]
        · refine ⟨rfl, rfl, rfl, Nat.le_refl _, fun i hi => ?_⟩
          rw [(h1).2 i hi]
          exact noIds_ck rfl
        · refine ⟨rfl, rfl, rfl, Nat.le_refl _, fun i hi => ?_⟩
          have e := row_ints [e.birth] ev i hi
          exact (congrArg (fun c => ckCs _ _ c c) e).mpr (noIds_ck rfl)
      · simp [ckN]
      rintro v s2 n2 ⟨n1, f1, h1, rfl, rfl, rfl⟩
      refine ⟨⟨by simp, safe_wri3 fun i hi => by rw [h1.2 i hi]; rfl⟩, ?_⟩
      cbv
      generalize hA2 : (A1 ++ vencs (List.map Int.toNat [e.birth])) = A2 at h1
      have l2 : A2.length ≤ 66 := by rw [← hA2, List.length_append]; have := vencs_len _ ev2; simp only [List.length_map, List.length_cons, List.length_nil] at this; omega
      refine F.callF (bytes_ _ _ _ h1 (by omega)) [(0, 1), (1, 8)] ⟨?_, ?_, ?_, by simp⟩ rfl rfl ?_
      · simp [argEnv, ckE, look, ckV, ckC, mem]
      · refine ⟨ltn rfl, ?_, ltn rfl, ?_, trivial⟩
        · simp [look, mem, ckO, ckC, ckCs]
        · refine ⟨rfl, rfl, rfl, Nat.le_refl _, fun i hi => ?_⟩
          rw [(h1).2 i hi]
          exact noIds_ck rfl
      · simp [ckN]
      rintro v s2 n2 ⟨fz, hz, rfl, rfl, rfl⟩
      refine ⟨⟨by simp, safe_wri4 (fun i hi => by rw [(h1).2 i hi]; rfl) fun i hi => by rw [hz.2 i hi]; rfl⟩, ?_⟩
      cbv
      have hfin : evEnc e = A2 := by
        rw [← hA2, ← hA1]
        unfold evEnc
        rw [if_neg (by omega), if_pos hk]
        simp [hk]
      -- 9: the result's number, hfin: what the bytes are
      have hzz : IsB (evEnc e) n1 fz := by rw [hfin]; exact hz
      refine hK _ _ _ ⟨_, _, _, .inr ⟨hm, n1, fz, hzz, rfl, rfl, rfl⟩, weak_of ⟨[(0, 9)], [], []⟩ ⟨?_, ?_, ?_, by simp⟩⟩
      · simp [ckE, look, ckV, ckVs, ckC, resOne, mem]
      · refine ⟨ltn rfl, ?_, trivial⟩
        refine ⟨rfl, rfl, rfl, Nat.le_refl _, fun i hi => ?_⟩
        rw [hz.2 i hi]
        exact noIds_ck rfl
      · simp [ckN]
    · cbv
      refine F.call new_ ?_
      rintro v s2 n2 ⟨f0, h0, rfl, rfl, rfl⟩
      refine ⟨by rw [F.safe]; exact ⟨fun h => (by cases h), safe_wri fun i hi => by omega⟩, ?_⟩
      cbv
      have ek : ∀ a ∈ [e.kind], 0 ≤ a := by simp [hk]
      have hbb : 1 ≤ e.ticks ∧ e.ticks ≤ 1073741824 := by
        unfold evMay at hm
        rw [if_neg (by omega), if_neg (by omega), if_pos hk] at hm
        simp only [Bool.and_eq_true, frm_iff] at hm
        exact hm.2
      have ev : ∀ a ∈ [e.ticks], 0 ≤ a := by simp; omega
      have ev2 : ∀ v ∈ [e.ticks].map Int.toNat, v < 9223372036854775808 := by simp; omega
      -- the numbers' closure: [(0, 3), (1, 1), (2, 2), (3, 4)]: own numbers, h0: contents of the row, [e.kind] numbers, 1 how many
      refine F.callF (numbers_ _ _ _ h0 ([e.kind].map Int.toNat) 1 _ rfl (row_ints [e.kind] ek) (by simp [hk]) (by simp) (by decide)) [(0, 3), (1, 1), (2, 2), (3, 4)] ⟨?_, ?_, ?_, by simp⟩ rfl rfl ?_
      · simp [argEnv, ckE, look, ckV, ckC, mem]
      · refine ⟨ltn rfl, ?_, ltn rfl, ?_, ltn rfl, ?_, ltn rfl, ?_, trivial⟩
        · simp [look, mem, ckO, ckC, ckCs]
        · simp [look, mem, ckO, ckC, ckCs]
        · refine ⟨rfl, rfl, rfl, Nat.le_refl _, fun i hi => ?_⟩
          rw [(h0).2 i hi]
          exact noIds_ck rfl
        · refine ⟨rfl, rfl, rfl, Nat.le_refl _, fun i hi => ?_⟩
          have e := row_ints [e.kind] ek i hi
          exact (congrArg (fun c => ckCs _ _ c c) e).mpr (noIds_ck rfl)
      · simp [ckN]
      rintro v s2 n2 ⟨n1, f1, h1, rfl, rfl, rfl⟩
      refine ⟨⟨by simp, safe_wri3 fun i hi => by rw [h1.2 i hi]; rfl⟩, ?_⟩
      cbv
      generalize hA1 : ([] ++ vencs (List.map Int.toNat [e.kind])) = A1 at h1
      have l1 : A1.length ≤ 11 := by rw [← hA1]; exact vencs_len _ (by simp [hk])
      -- the numbers' closure: [(0, 3), (1, 1), (2, 5), (3, 7)]: own numbers, h1: contents of the row, [e.ticks] numbers, 1 how many
      refine F.callF (numbers_ _ _ _ h1 ([e.ticks].map Int.toNat) 1 _ rfl (row_ints [e.ticks] ev) (by exact ev2) (by omega) (by decide)) [(0, 3), (1, 1), (2, 5), (3, 7)] ⟨?_, ?_, ?_, by simp⟩ rfl rfl ?_
      · simp [argEnv, ckE, look, ckV, ckC, mem]
      · refine ⟨ltn rfl, ?_, ltn rfl, ?_, ltn rfl, ?_, ltn rfl, ?_, trivial⟩
        · simp [look, mem, ckO, ckC, ckCs]
        · simp [look, mem, ckO, ckC, ckCs]
        · refine ⟨rfl, rfl, rfl, Nat.le_refl _, fun i hi => ?_⟩
          rw [(h1).2 i hi]
          exact noIds_ck rfl
        · refine ⟨rfl, rfl, rfl, Nat.le_refl _, fun i hi => ?_⟩
          have e := row_ints [e.ticks] ev i hi
          exact (congrArg (fun c => ckCs _ _ c c) e).mpr (noIds_ck rfl)
      · simp [ckN]
      rintro v s2 n2 ⟨n1, f1, h1, rfl, rfl, rfl⟩
      refine ⟨⟨by simp, safe_wri3 fun i hi => by rw [h1.2 i hi]; rfl⟩, ?_⟩
      cbv
      generalize hA2 : (A1 ++ vencs (List.map Int.toNat [e.ticks])) = A2 at h1
      have l2 : A2.length ≤ 66 := by rw [← hA2, List.length_append]; have := vencs_len _ ev2; simp only [List.length_map, List.length_cons, List.length_nil] at this; omega
      refine F.callF (bytes_ _ _ _ h1 (by omega)) [(0, 1), (1, 8)] ⟨?_, ?_, ?_, by simp⟩ rfl rfl ?_
      · simp [argEnv, ckE, look, ckV, ckC, mem]
      · refine ⟨ltn rfl, ?_, ltn rfl, ?_, trivial⟩
        · simp [look, mem, ckO, ckC, ckCs]
        · refine ⟨rfl, rfl, rfl, Nat.le_refl _, fun i hi => ?_⟩
          rw [(h1).2 i hi]
          exact noIds_ck rfl
      · simp [ckN]
      rintro v s2 n2 ⟨fz, hz, rfl, rfl, rfl⟩
      refine ⟨⟨by simp, safe_wri4 (fun i hi => by rw [(h1).2 i hi]; rfl) fun i hi => by rw [hz.2 i hi]; rfl⟩, ?_⟩
      cbv
      have hfin : evEnc e = A2 := by
        rw [← hA2, ← hA1]
        unfold evEnc
        rw [if_neg (by omega), if_neg (by omega)]
        simp [hk]
      -- 9: the result's number, hfin: what the bytes are
      have hzz : IsB (evEnc e) n1 fz := by rw [hfin]; exact hz
      refine hK _ _ _ ⟨_, _, _, .inr ⟨hm, n1, fz, hzz, rfl, rfl, rfl⟩, weak_of ⟨[(0, 9)], [], []⟩ ⟨?_, ?_, ?_, by simp⟩⟩
      · simp [ckE, look, ckV, ckVs, ckC, resOne, mem]
      · refine ⟨ltn rfl, ?_, trivial⟩
        refine ⟨rfl, rfl, rfl, Nat.le_refl _, fun i hi => ?_⟩
        rw [hz.2 i hi]
        exact noIds_ck rfl
      · simp [ckN]
  · cbv
    refine hK _ _ _ ⟨_, _, _, .inl ⟨hm, rfl, rfl, rfl⟩, weak_of ⟨[], [], []⟩ ⟨?_, ?_, ?_, by simp⟩⟩
    · simp [ckE, look, ckV, ckVs, ckC, resOne]
    · simp [ckS]
    · simp [ckN]
end Am
