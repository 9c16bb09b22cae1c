/-
  pack.Writer: numbers and texts, one behind the other.
-/
import Derived.Test.YtijphjckgdomlaaDat
set_option linter.all false
namespace Am
open Go Go.Proofs
set_option maxRecDepth 10000
set_option maxHeartbeats 400000

/-- A row of bytes. -/
abbrev byt (l : List UInt8) : Nat → List CV := fun i => [.v (.int .u8 ((l.getD i 0).toNat : Int))]
/-- A number, seven bits a byte. -/
def venc (n : Nat) : List UInt8 := if 127 < n then UInt8.ofNat (n % 128 + 128) :: venc (n / 128) else [UInt8.ofNat n]
termination_by n
theorem venc_len : ∀ (k n : Nat), n < 128 ^ k → (venc n).length ≤ k + 1 := by
  intro k
  induction k with
  | zero => intro n h; rw [venc, if_neg (by omega)]; simp
  | succ k ih =>
    intro n h
    rw [venc]
    split
    · have := ih (n / 128) (by rw [Nat.pow_succ] at h; omega)
      simp only [List.length_cons]; omega
    · simp
theorem venc_len64 {n : Nat} (h : n < 18446744073709551616) : (venc n).length ≤ 11 := venc_len 10 n (by omega)
theorem or128 : ∀ x : Nat, x < 256 → (BitVec.ofNat 8 x ||| 128#8).toNat = x % 128 + 128 := by decide
/-- A row's contents. -/
def IsB (l : List UInt8) (n : Nat) (f : Nat → List CV) : Prop := n = l.length ∧ ∀ i, i < n → f i = byt l i
theorem IsB.mk (l : List UInt8) : ∃ n f, IsB l n f := ⟨_, _, rfl, fun _ _ => rfl⟩
/-- What a Writer holds. -/
abbrev wri (id n : Nat) (f : Nat → List CV) : Sto := [(0, .box [.ref id 1 0 n]), (id, .arr 5 1 n f)]
theorem byt_snoc {l : List UInt8} {n : Nat} {f : Nat → List CV} (h : IsB l n f) (b : UInt8) (x : Int) (hx : x = b.toNat) {i : Nat} (hi : i < n + 1) :
    (if i < n then f i else pickR [[.v (.int .u8 x)]] (i - n + 0)) = byt (l ++ [b]) i := by
  obtain ⟨rfl, hf⟩ := h
  by_cases h1 : i < l.length
  · rw [if_pos h1, hf i h1]
    simp [List.getElem?_append_left h1]
  · rw [if_neg h1]
    have : i = l.length := by omega
    subst this
    simp [pickR, hx]

theorem low_b (v : Nat) : IntKind.u8.wrap (v : Int) = ((v % 256 : Nat) : Int) := by
  have e1 : (2 : Int) ^ 8 = 256 := by decide
  simp only [IntKind.wrap, IntKind.bits, IntKind.signed, e1, Bool.false_and, Bool.false_eq_true, if_false]
  omega
theorem or_b (v : Nat) : IntKind.u8.wrap ((BitVec.ofInt IntKind.u8.bits (IntKind.u8.wrap (v : Int)) ||| BitVec.ofInt IntKind.u8.bits 128).toNat : Int) = ((UInt8.ofNat (v % 128 + 128)).toNat : Int) := by
  have e : IntKind.u8.bits = 8 := rfl
  rw [low_b v, e]
  have e2 : BitVec.ofInt 8 ((v % 256 : Nat) : Int) = BitVec.ofNat 8 (v % 256) := by rw [BitVec.ofInt_natCast]
  have e3 : BitVec.ofInt 8 128 = 128#8 := by decide
  rw [e2, e3, or128 _ (Nat.mod_lt _ (by decide)), low_b]
  simp
theorem number_ (l : List UInt8) (n : Nat) (f : Nat → List CV) (hnf : IsB l n f) (v : Nat) (hv : v < 18446744073709551616) (hl : l.length < 1099511627776) :
    TriS Try.prog 51 [.c (.ptr 0 0), .c (u64 v)] (wri 1 n f) 2 (fun x s' nx => ∃ n' f', IsB (l ++ venc v) n' f' ∧ x = .tup [] ∧ s' = wri 2 n' f' ∧ nx = 3) := by
  obtain ⟨vv, hvv⟩ : ∃ vv : Int, vv = v := ⟨_, rfl⟩
  rw [← hvv]
  refine walkN tab_ok mixed (noMeths rfl) (C := cfg51) (fn := Try.f51) (c := Try.f51.body.getD .skip) (by kernel_rfl) (by kernel_rfl) (by kernel_rfl) (by kernel_rfl) (by kernel_rfl) 60 ?_
  intro ari shf cmp scmp band beq bnot neg unx wrap slen sat ssub cat bstr toN sub add shift join setf bytes updb updv rng idx isb le3 nz room nil0 catok rune rnext more rstr nid safe tri weak Kx hK F
  have htoN := F.toN
  subst htoN
  cbv
  refine ⟨fun mu st => ∃ (n' : Nat) (f' : Nat → List CV) (vv : Int) (l' : List UInt8) (v' : Nat), mu = v' ∧ vv = v' ∧ v' < 18446744073709551616 ∧ IsB l' n' f' ∧ l' ++ venc v' = l ++ venc v ∧ st = ⟨[(0, .c (.ptr 0 0)), (1, .c (u64 vv))], wri 2 n' f', 3⟩, ⟨_, _, ⟨n, f, vv, l, v, rfl, hvv, hv, hnf, rfl, rfl⟩, ?_⟩, ?_⟩
  · cbv
    refine F.sayA ⟨[(0, 0), (1, 1), (2, 1)], [], []⟩ ⟨?_, ?_, by rfl, by rfl, by rfl, by rfl, by rfl⟩
    · simp [ckE, look, ckV, ckC, ckCs, mem]
    · simp [ckS, look, mem, ckO, ckC, ckCs]
      intro i hi
      rw [hnf.2 i hi]
      exact noIds_ck rfl
  rintro mu _ ⟨n', f', vv, l', v', hmu, hvv, hv', hnf', hll, rfl⟩
  cbv
  have hlen : l'.length ≤ l.length + 11 := by
    have := congrArg List.length hll
    simp only [List.length_append] at this
    have := venc_len64 hv
    omega
  have hn' := hnf'.1
  have hroom : n' + 1 ≤ maxLen ∧ (n' + 1) * 1 ≤ 140737488355328 := ⟨by simp only [maxLen]; omega, by omega⟩
  refine ⟨fun h1 => ?_, fun h1 => ?_⟩ <;> cbv
  · rw [F.cmp] at h1
    have h1 : 127 < v' := by simp only [real, decide_eq_true_eq, hvv, ncast] at h1; omega
    have hve : venc v' = UInt8.ofNat (v' % 128 + 128) :: venc (v' / 128) := by rw [venc, if_pos h1]
    have hsh : shf .shr .u64 vv 7 = ((v' / 128 : Nat) : Int) := by
      rw [F.shf, hvv]
      show Int.fdiv (v' : Int) 128 = _
      rw [Int.fdiv_eq_ediv_of_nonneg _ (by omega)]
      rfl
    have hby : ari .or .u8 (wrap .u8 vv) 128 = ((UInt8.ofNat (v' % 128 + 128)).toNat : Int) := by
      rw [F.ari, F.wrap, hvv]
      exact or_b v'
    rw [hsh, hby]
    obtain ⟨n2, f2, h2⟩ := IsB.mk (l' ++ [UInt8.ofNat (v' % 128 + 128)])
    refine ⟨by rw [F.le3, F.add]; exact ⟨by decide, by decide, by decide⟩, by rw [F.le3]; exact ⟨by simp, by simp, by simp⟩, by rw [F.room, F.add]; exact hroom, by rw [F.rng]; exact ⟨by decide, by decide⟩,
      v' / 128, _, by omega, ⟨n2, f2, _, _, v' / 128, rfl, rfl, by omega, h2, by rw [← hll, hve]; simp, rfl⟩, ?_⟩
    have hn2 : n2 = n' + 1 := by rw [h2.1, hn']; simp
    cbv
    refine F.sayA ⟨[(0, 0), (1, 1), (2, 4)], [], []⟩ ⟨?_, ?_, by rfl, by rfl, by rfl, by rfl, by rfl⟩
    · simp [ckE, look, ckV, ckC, ckCs, mem]
    · simp only [F.join, F.shift, F.add]
      refine ⟨by decide, ?_, by decide, ?_, trivial⟩
      · simp [look, mem, ckO, ckC, ckCs, real, hn2]
      · refine ⟨rfl, rfl, rfl, by simp [real, hn2], fun i hi => ?_⟩
        have e := byt_snoc hnf' (UInt8.ofNat (v' % 128 + 128)) _ rfl (show i < n' + 1 by omega)
        rw [h2.2 i hi]
        exact (congrArg (fun c => ckCs _ _ c _) e).mpr (noIds_ck rfl)
  · rw [F.cmp] at h1
    have h1 : ¬ 127 < v' := by simp only [real, decide_eq_false_iff_not, hvv, ncast] at h1; omega
    have hve : venc v' = [UInt8.ofNat v'] := by rw [venc, if_neg h1]
    have hby : wrap .u8 vv = ((UInt8.ofNat v').toNat : Int) := by
      rw [F.wrap, hvv]
      simp only [real]
      rw [low_b]
      simp
    rw [hby]
    obtain ⟨n2, f2, h2⟩ := IsB.mk (l ++ venc v)
    have hn2 : n2 = n' + 1 := by rw [h2.1, ← hll, hve, hn']; simp
    refine ⟨by rw [F.le3, F.add]; exact ⟨by decide, by decide, by decide⟩, by rw [F.le3]; exact ⟨by simp, by simp, by simp⟩, by rw [F.room, F.add]; exact hroom, ?_⟩
    cbv
    refine hK _ _ _ ⟨_, _, _, ⟨n2, f2, h2, rfl, rfl, rfl⟩, weak_at ⟨[(0, 0), (1, 1), (2, 4)], [], []⟩ ⟨?_, ?_, by rfl, by rfl, by rfl, by rfl, by rfl⟩⟩
    · simp [ckE, look, ckV, ckVs, resOne]
    · simp only [F.join, F.shift, F.add]
      refine ⟨by decide, ?_, by decide, ?_, trivial⟩
      · simp [look, mem, ckO, ckC, ckCs, real, hn2]
      · refine ⟨rfl, rfl, rfl, by simp [real, hn2], fun i hi => ?_⟩
        have e := byt_snoc hnf' (UInt8.ofNat v') _ rfl (show i < n' + 1 by omega)
        rw [h2.2 i hi, ← hll, hve]
        exact (congrArg (fun c => ckCs _ _ c _) e).mpr (noIds_ck rfl)

theorem new_ : TriS Try.prog 49 [] [] 0 (fun x s' nx => ∃ f', IsB [] 0 f' ∧ x = .c (.ptr 0 0) ∧ s' = wri 1 0 f' ∧ nx = 2) := by
  refine walk tab_ok mixed (noMeths rfl) (C := cfg49) (fn := Try.f49) (c := Try.f49.body.getD .skip) (by kernel_rfl) (by kernel_rfl) (by kernel_rfl) (by kernel_rfl) (by kernel_rfl) 60 ?_
  intro ari shf cmp scmp band beq bnot neg unx wrap slen sat ssub cat bstr toN sub add shift join setf bytes updb updv rng idx isb le3 nz room nil0 catok rune rnext more rstr nid safe tri weak Kx hK F
  have htoN := F.toN
  subst htoN
  cbv
  refine hK _ _ _ ⟨_, _, _, ⟨byt [], ⟨rfl, fun i hi => by omega⟩, rfl, rfl, rfl⟩, weak_of ⟨[(0, 0)], [1], []⟩ ⟨?_, ?_, ?_, by simp⟩⟩
  · simp [ckE, look, ckV, ckC, resOne, mem]
  · simp [ckS, look, mem, ckO, ckC, ckCs]
  · simp [ckN]

theorem text_ (l : List UInt8) (n : Nat) (f : Nat → List CV) (hnf : IsB l n f) (t : ByteArray) (ht : t.size < 1099511627776) (hl : l.length < 549755813888) :
    TriS Try.prog 52 [.c (.ptr 0 0), .c (str t)] (wri 1 n f) 2 (fun x s' nx => ∃ n' f', IsB (l ++ (venc t.size ++ t.data.toList)) n' f' ∧ x = .tup [] ∧ s' = wri 2 n' f' ∧ nx = 3) := by
  refine walkN tab_ok mixed (noMeths rfl) (C := cfg52) (fn := Try.f52) (c := Try.f52.body.getD .skip) (by kernel_rfl) (by kernel_rfl) (by kernel_rfl) (by kernel_rfl) (by kernel_rfl) 60 ?_
  intro ari shf cmp scmp band beq bnot neg unx wrap slen sat ssub cat bstr toN sub add shift join setf bytes updb updv rng idx isb le3 nz room nil0 catok rune rnext more rstr nid safe tri weak Kx hK F
  cbv
  obtain ⟨z, hz⟩ : ∃ z : Int, z = (t.size : Int) := ⟨_, rfl⟩
  have e1 : wrap .u64 (slen t) = z := by
    rw [F.wrap, F.slen, hz]
    exact wrapU64 (Int.natCast_nonneg _) (by simp only [real]; omega)
  rw [e1]
  refine F.call (hz ▸ number_ l n f hnf t.size (by omega) (by omega)) ?_
  rintro v s2 n2 ⟨n', f', h', rfl, rfl, rfl⟩
  cbv
  have hn' := h'.1
  simp only [List.length_append] at hn'
  have hv := venc_len64 (n := t.size) (by omega)
  generalize hm : toN (slen t) = m
  have et : m = t.data.toList.length := by rw [← hm, F.toN, F.slen]; rfl
  have et2 : t.data.toList.length = t.size := rfl
  have hroom : n' + m ≤ maxLen ∧ (n' + m) * 1 ≤ 140737488355328 := ⟨by simp only [maxLen]; omega, by omega⟩
  refine ⟨by rw [F.le3]; exact ⟨by simp, by simp, by simp⟩, by rw [F.room, F.add]; exact hroom, ?_⟩
  obtain ⟨n3, f3, h3⟩ := IsB.mk (l ++ (venc t.size ++ t.data.toList))
  have hn3 : n3 = n' + m := by rw [h3.1, hn']; simp only [List.length_append]; omega
  cbv
  refine hK _ _ _ ⟨_, _, _, ⟨n3, f3, h3, rfl, rfl, rfl⟩, weak_at ⟨[(0, 0), (1, 1), (2, 3)], [], []⟩ ⟨?_, ?_, by rfl, by rfl, by rfl, by rfl, by rfl⟩⟩
  · simp [ckE, look, ckV, ckVs, resOne]
  · simp only [F.join, F.bytes, F.add]
    refine ⟨by decide, ?_, by decide, ?_, trivial⟩
    · simp [look, mem, ckO, ckC, ckCs, real, hn3]
    · refine ⟨rfl, rfl, rfl, by simp [real, hn3], fun i hi => ?_⟩
      have e : (if i < n' then f' i else (fun i => [CV.v (.int .u8 ((t.data.toList[i]?).getD 0).toNat)]) (i - n')) = byt (l ++ (venc t.size ++ t.data.toList)) i := by
        rw [← List.append_assoc]
        by_cases h1 : i < n'
        · rw [if_pos h1, h'.2 i h1]
          have : i < (l ++ venc t.size).length := by rw [List.length_append]; omega
          simp only [byt, List.getD_eq_getElem?_getD, List.getElem?_append_left this]
        · rw [if_neg h1]
          have : ¬ i < (l ++ venc t.size).length := by rw [List.length_append]; omega
          simp only [byt, List.getD_eq_getElem?_getD, List.getElem?_append_right (Nat.le_of_not_lt this)]
          rw [List.length_append, ← hn']
      rw [h3.2 i hi]
      exact (congrArg (fun c => ckCs _ _ c _) e).mpr (noIds_ck rfl)

theorem safe_row {id : Nat} {lent : Bool} {e sz n : Nat} {f : Nat → List CV} (h : ∀ i, i < n → noIds (f i) = true ∧ (lent = true → flatCs (f i) = true)) : ∀ id' o, look id' [(id, Obj.arr e sz n f)] = some o → safeO lent o := by
  intro id' o hl
  simp only [look] at hl
  split at hl
  · injection hl with hl; subst hl; exact h
  · cases hl
/-- bytes.Clone. -/
theorem bclone (l : List UInt8) (n : Nat) (f : Nat → List CV) (hnf : IsB l n f) (hl : l.length < 70368744177664) :
    TriS Try.prog 60 [.c (.sl 1 n 0 f)] [] 0 (fun x s' nx => ∃ f', IsB l n f' ∧ x = .c (.ref 0 1 0 n) ∧ s' = [(0, .arr 5 1 n f')] ∧ nx = 1) := by
  refine walk tab_ok mixed (noMeths rfl) (C := cfg60) (fn := Try.f60) (c := Try.f60.body.getD .skip) (by kernel_rfl) (by kernel_rfl) (by kernel_rfl) (by kernel_rfl) (by kernel_rfl) 60 ?_
  intro ari shf cmp scmp band beq bnot neg unx wrap slen sat ssub cat bstr toN sub add shift join setf bytes updb updv rng idx isb le3 nz room nil0 catok rune rnext more rstr nid safe tri weak Kx hK F
  have htoN := F.toN
  subst htoN
  cbv
  have hn := hnf.1
  intro b hb
  cases b with
  | true =>
    cbv
    have h0 : n = 0 := by
      rw [F.nil0] at hb
      exact hb rfl
    subst h0
    refine hK _ _ _ ⟨_, _, _, ⟨byt l, ⟨hnf.1, fun i hi => rfl⟩, rfl, rfl, rfl⟩, weak_of ⟨[], [0], []⟩ ⟨?_, ?_, ?_, by simp⟩⟩
    · refine ⟨?_, trivial⟩
      simp [look, resOne, ckV, ckC, mem]
    · simp [ckS, mem]
    · simp [ckN]
  | false =>
    cbv
    have hroom : 0 + n ≤ maxLen ∧ (0 + n) * 1 ≤ 140737488355328 := ⟨by simp only [maxLen]; omega, by omega⟩
    refine ⟨by rw [F.le3]; exact ⟨by decide, by decide, by decide⟩, by rw [F.room, F.add]; exact hroom, ?_⟩
    cbv
    refine hK _ _ _ ⟨_, _, _, ⟨byt l, ⟨hnf.1, fun i hi => rfl⟩, rfl, rfl, rfl⟩, weak_of ⟨[(0, 1)], [], []⟩ ⟨?_, ?_, ?_, by simp⟩⟩
    · refine ⟨?_, trivial⟩
      simp [look, resOne, ckV, ckC, mem, F.add, real]
    · simp only [F.join, F.shift, F.add]
      refine ⟨by decide, ?_, trivial⟩
      refine ⟨rfl, rfl, rfl, by simp [real], fun i hi => ?_⟩
      have e : (if i < 0 then pickR [] i else f (i - 0)) = byt l i := by rw [if_neg (by omega)]; exact hnf.2 i hi
      exact (congrArg (fun c => ckCs _ _ c _) e).mpr (noIds_ck rfl)
    · simp [ckN]

theorem bytes_ (l : List UInt8) (n : Nat) (f : Nat → List CV) (hnf : IsB l n f) (hl : l.length < 70368744177664) :
    TriS Try.prog 53 [.c (.ptr 0 0)] (wri 1 n f) 2 (fun x s' nx => ∃ f', IsB l n f' ∧ x = .c (.ref 2 1 0 n) ∧ s' = [(0, .box [.ref 1 1 0 n]), (1, .arr 5 1 n f), (2, .arr 5 1 n f')] ∧ nx = 3) := by
  refine walkN tab_ok mixed (noMeths rfl) (C := cfg53) (fn := Try.f53) (c := Try.f53.body.getD .skip) (by kernel_rfl) (by kernel_rfl) (by kernel_rfl) (by kernel_rfl) (by kernel_rfl) 60 ?_
  intro ari shf cmp scmp band beq bnot neg unx wrap slen sat ssub cat bstr toN sub add shift join setf bytes updb updv rng idx isb le3 nz room nil0 catok rune rnext more rstr nid safe tri weak Kx hK F
  have htoN := F.toN
  subst htoN
  cbv
  refine ⟨⟨by rw [F.le3, F.add]; exact ⟨by simp, by simp [real], by simp [real]⟩, by rw [F.nid]; exact fun i hi => by rw [hnf.2 i hi]; rfl⟩, ?_⟩
  have hsh : IsB l n (shift f 0) := ⟨hnf.1, fun i hi => by rw [F.shift]; exact hnf.2 i hi⟩
  refine F.call (bclone l n (shift f 0) hsh hl) ?_
  rintro v s2 n2 ⟨f', h', rfl, rfl, rfl⟩
  refine ⟨by rw [F.safe]; exact ⟨fun _ => rfl, safe_row fun i hi => by rw [h'.2 i hi]; exact ⟨rfl, fun _ => rfl⟩⟩, ?_⟩
  cbv
  refine hK _ _ _ ⟨_, _, _, ⟨f', h', rfl, rfl, rfl⟩, weak_at ⟨[(0, 0), (1, 1), (2, 2)], [], []⟩ ⟨?_, ?_, by rfl, by rfl, by rfl, by rfl, by rfl⟩⟩
  · simp [ckE, look, ckV, ckC, mem, resOne]
  · refine ⟨ltn rfl, ?_, ltn rfl, ?_, ltn rfl, ?_, trivial⟩
    · simp [look, mem, ckO, ckC, ckCs]
    · refine ⟨rfl, rfl, rfl, Nat.le_refl _, fun i hi => ?_⟩
      rw [hnf.2 i hi]
      exact noIds_ck rfl
    · refine ⟨rfl, rfl, rfl, Nat.le_refl _, fun i hi => ?_⟩
      rw [h'.2 i hi]
      exact noIds_ck rfl

/-- Some numbers, one behind the other. -/
def vencs : List Nat → List UInt8
  | [] => []
  | v :: r => venc v ++ vencs r
theorem vencs_snoc (vs : List Nat) (v : Nat) : vencs (vs ++ [v]) = vencs vs ++ venc v := by
  induction vs with
  | nil => simp [vencs]
  | cons a r ih => simp [vencs, ih]
theorem vencs_len : ∀ (vs : List Nat), (∀ v ∈ vs, v < 9223372036854775808) → (vencs vs).length ≤ 11 * vs.length := by
  intro vs
  induction vs with
  | nil => intro _; simp [vencs]
  | cons a r ih =>
    intro h
    have h1 := ih (fun v hv => h v (List.mem_cons_of_mem _ hv))
    have h2 := venc_len64 (n := a) (by have := h a (by simp); omega)
    simp only [vencs, List.length_append, List.length_cons]
    omega
theorem safe_wri {id n : Nat} {f : Nat → List CV} (h : ∀ i, i < n → noIds (f i) = true) : ∀ id' o, look id' (wri id n f) = some o → safeO false o := by
  intro id' o hl
  simp only [wri, look] at hl
  split at hl
  · injection hl with hl; subst hl; exact fun h => by cases h
  · split at hl
    · injection hl with hl; subst hl; exact fun i hi => ⟨h i hi, fun h => by cases h⟩
    · cases hl
/-- The numbers' closure: it adds to the Writer that it has caught. -/
theorem numbers_ (l : List UInt8) (n : Nat) (f : Nat → List CV) (hnf : IsB l n f) (vs : List Nat) (k : Nat) (q : Nat → List CV) (hk : k = vs.length) (hq : ∀ i, i < k → q i = [.v (.int .i64 ((vs.getD i 0 : Nat) : Int))]) (hv : ∀ v ∈ vs, v < 9223372036854775808) (hl : l.length < 549755813888) (hks : k < 100) :
    TriS Try.prog 50 [.c (.ref 3 1 0 k), .c (.ptr 0 0)] [(0, .box [.ptr 1 0]), (1, .box [.ref 2 1 0 n]), (2, .arr 5 1 n f), (3, .arr 3 1 k q)] 4
      (fun x s' nx => ∃ n' f', IsB (l ++ vencs vs) n' f' ∧ x = .tup [] ∧ s' = [(0, .box [.ptr 1 0]), (1, .box [.ref 4 1 0 n']), (4, .arr 5 1 n' f')] ∧ nx = 5) := by
  refine walkN tab_ok mixed (noMeths rfl) (C := cfg50) (fn := Try.f50) (c := Try.f50.body.getD .skip) (by kernel_rfl) (by kernel_rfl) (by kernel_rfl) (by kernel_rfl) (by kernel_rfl) 60 ?_
  intro ari shf cmp scmp band beq bnot neg unx wrap slen sat ssub cat bstr toN sub add shift join setf bytes updb updv rng idx isb le3 nz room nil0 catok rune rnext more rstr nid safe tri weak Kx hK F
  have htoN := F.toN
  subst htoN
  cbv
  refine ⟨fun mu st => ∃ (j n' : Nat) (f' : Nat → List CV), mu = k - j ∧ j ≤ k ∧ IsB (l ++ vencs (vs.take j)) n' f' ∧ st = ⟨[(1, .c (.ptr 0 0)), (5, .c (.ref 3 1 0 k)), (6, .c (i64 k)), (7, .c (i64 j))],
      [(0, .box [.ptr 1 0]), (1, .box [.ref 4 1 0 n']), (3, .arr 3 1 k q), (4, .arr 5 1 n' f')], 5⟩, ⟨_, _, ⟨0, n, f, rfl, by omega, by simpa [vencs] using hnf, rfl⟩, ?_⟩, ?_⟩
  · cbv
    refine F.sayA ⟨[(0, 0), (1, 1), (2, 2), (3, 3), (4, 2)], [], []⟩ ⟨?_, ?_, by rfl, by rfl, by rfl, by rfl, by rfl⟩
    · simp [ckE, look, ckV, ckC, ckCs, mem]
    · refine ⟨ltn rfl, ?_, ltn rfl, ?_, ltn rfl, ?_, ltn rfl, ?_, trivial⟩
      · simp [look, mem, ckO, ckC, ckCs]
      · simp [look, mem, ckO, ckC, ckCs]
      · refine ⟨rfl, rfl, rfl, Nat.le_refl _, fun i hi => ?_⟩
        rw [hq i hi]
        exact noIds_ck rfl
      · refine ⟨rfl, rfl, rfl, Nat.le_refl _, fun i hi => ?_⟩
        rw [hnf.2 i hi]
        exact noIds_ck rfl
  rintro mu _ ⟨j, n', f', hmu, hj, hnf', rfl⟩
  cbv
  refine ⟨fun h1 => ?_, fun h1 => ?_⟩ <;> cbv
  · rw [F.cmp] at h1
    have h1 : j < k := by simpa [real, ncast, ocast] using h1
    have ej : add 0 j = j := by rw [F.add]; exact Nat.zero_add j
    rw [ej, hq j h1]
    obtain ⟨vj, hvj⟩ : ∃ vj, vj = vs.getD j 0 := ⟨_, rfl⟩
    have hvjlt : vj < 9223372036854775808 := by
      rw [hvj]
      have : j < vs.length := by omega
      simp only [List.getD_eq_getElem?_getD, List.getElem?_eq_getElem this, Option.getD_some]
      exact hv _ (List.getElem_mem _)
    rw [← hvj]
    refine ⟨by rw [F.rng]; exact ⟨by simp, by simpa [real] using h1⟩, by rw [F.rng]; exact ⟨by simp, by simpa [real] using h1⟩, ?_⟩
    cbv
    have e1 : wrap .u64 (Int.ofNat vj) = (vj : Int) := by rw [F.wrap, ocast]; exact wrapU64 (by omega) (by omega)
    rw [e1]
    have hlj : (l ++ vencs (vs.take j)).length < 1099511627776 := by
      have := vencs_len (vs.take j) (fun v h => hv v (List.mem_of_mem_take h))
      simp only [List.length_append, List.length_take] at this ⊢
      omega
    refine F.callF (number_ _ n' f' hnf' vj (by omega) hlj) [(0, 1), (1, 4)] ⟨?_, ?_, ?_, by simp⟩ rfl rfl ?_
    · simp [argEnv, ckE, look, ckV, ckC, mem]
    · refine ⟨ltn rfl, ?_, ltn rfl, ?_, trivial⟩
      · simp [look, mem, ckO, ckC, ckCs]
      · refine ⟨rfl, rfl, rfl, Nat.le_refl _, fun i hi => ?_⟩
        rw [hnf'.2 i hi]
        exact noIds_ck rfl
    · simp [ckN]
    rintro v s2 n2 ⟨n3, f3, h3, rfl, rfl, rfl⟩
    refine ⟨⟨by simp, safe_wri fun i hi => by rw [h3.2 i hi]; rfl⟩, ?_⟩
    cbv
    have hd : vs.drop j = vj :: vs.drop (j + 1) := by
      have : j < vs.length := by omega
      rw [List.drop_eq_getElem_cons this, hvj]
      simp [List.getD_eq_getElem?_getD, this]
    have ht : vs.take (j + 1) = vs.take j ++ [vj] := by
      have : j < vs.length := by omega
      rw [List.take_succ_eq_append_getElem this, hvj]
      simp [List.getD_eq_getElem?_getD, this]
    have h4 : IsB (l ++ vencs (vs.take (j + 1))) n3 f3 := by
      rw [ht, vencs_snoc, ← List.append_assoc]
      exact h3
    refine ⟨k - (j + 1), _, by omega, ⟨j + 1, n3, f3, rfl, by omega, h4, rfl⟩, ?_⟩
    cbv
    refine F.sayA ⟨[(0, 0), (1, 1), (2, 2), (3, 3), (4, 5)], [], []⟩ ⟨?_, ?_, by rfl, by rfl, by rfl, by rfl, by rfl⟩
    · simp [ckE, look, ckV, ckC, ckCs, mem, F.ari, real, wrapS h1 (show k < 4611686018427387904 by omega)]
    · refine ⟨ltn rfl, ?_, ltn rfl, ?_, ltn rfl, ?_, ltn rfl, ?_, trivial⟩
      · simp [look, mem, ckO, ckC, ckCs]
      · simp [look, mem, ckO, ckC, ckCs]
      · refine ⟨rfl, rfl, rfl, Nat.le_refl _, fun i hi => ?_⟩
        rw [hq i hi]
        exact noIds_ck rfl
      · refine ⟨rfl, rfl, rfl, Nat.le_refl _, fun i hi => ?_⟩
        rw [h3.2 i hi]
        exact noIds_ck rfl
  · rw [F.cmp] at h1
    have h1 : ¬ j < k := by simpa [real, ncast, ocast] using h1
    have hjk : j = vs.length := by omega
    subst hjk
    rw [List.take_length] at hnf'
    refine hK _ _ _ ⟨_, _, _, ⟨n', f', hnf', rfl, rfl, rfl⟩, weak_at ⟨[(0, 0), (1, 1), (2, 2), (3, 3), (4, 4)], [], []⟩ ⟨?_, ?_, by rfl, by rfl, by rfl, by rfl, by rfl⟩⟩
    · simp [ckE, look, ckV, ckVs, resOne]
    · refine ⟨ltn rfl, ?_, ltn rfl, ?_, ltn rfl, ?_, trivial⟩
      · simp [look, mem, ckO, ckC, ckCs]
      · simp [look, mem, ckO, ckC, ckCs]
      · refine ⟨rfl, rfl, rfl, Nat.le_refl _, fun i hi => ?_⟩
        rw [hnf'.2 i hi]
        exact noIds_ck rfl
end Am
