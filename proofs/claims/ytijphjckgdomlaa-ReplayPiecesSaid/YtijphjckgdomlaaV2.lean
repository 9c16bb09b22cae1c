/-
  strings.ContainsRune at the digits and signs of a name.
-/
import Derived.Test.YtijphjckgdomlaaDat
import Derived.Laws.Externs
import Derived.Laws.Runes
import Derived.Laws.RangeString
import Derived.Laws.RangeAny
import Derived.Lib.Bytealg
set_option linter.all false
namespace Am
open Go Go.Proofs
set_option maxRecDepth 10000
set_option maxHeartbeats 400000

/-- A function without a body, by the base's own entry. -/
theorem TriS.ext {P : Program} {f : FuncId} {fn : Func} {e : Array Value → Sem Value} (hf : P.funcs[f]? = some fn) (hname : (fn.name == "runtime.NumGoroutine") = false) (hb : fn.body.isNone = true) (hn : Extern.findNext fn = none) (he : Extern.find fn = some e)
    {xs : List Value} {y : Value} (hy : y.oneCell' = true) (hrun : ∀ w, (e xs.toArray).run P w = .ok y w) : TriS P f (xs.map fun x => .c (.v x)) [] 0 (fun v s nx => v = .c (.v y) ∧ s = [] ∧ nx = 0) := by
  intro g w ys hR hA
  have e1 : ys = xs := by
    have hl := hA.len
    simp only [List.length_map] at hl
    refine List.ext_getElem hl.symm fun i h1 h2 => ?_
    have := hA.at_ i (.c (.v xs[i])) ys[i] (by simp [h2]) (by simp [h1])
    exact vv this
  subst e1
  refine .inl ⟨y, w, ⟨.c (.v y), g, 0, [], ⟨rfl, rfl, rfl⟩, Nat.le_refl _, hR, Stp.refl _ _ _ _, fun b ⟨id, o, h, _⟩ => by simp [look] at h, .c _ _ (.d _ _ (.v _ hy))⟩, ?_⟩
  rw [run_callFunc_extern hf hname hb hn he, hrun]
  rfl

theorem indexByteString (s : ByteArray) (c : Int) : TriS Try.prog 90 [.c (str s), .c (.v (.int .u8 c))] [] 0 (RetI .i64 (Lib.indexByte s.data.toList c.toNat.toUInt8)) := by
  refine TriS.mono (TriS.ext (P := Try.prog) (fn := Try.f90) (by kernel_rfl) (by kernel_rfl) (by kernel_rfl) (by kernel_rfl) (e := Extern.BytealgIndexByte.indexByte) (by kernel_rfl) (xs := [.string s, .int .u8 c]) (y := .int .i64 (Lib.indexByte s.data.toList c.toNat.toUInt8)) rfl fun w => Lib.run_indexByteString s c w) ?_
  rintro v s nx ⟨rfl, rfl, rfl⟩
  exact ⟨_, rfl, rfl, rfl, rfl⟩
theorem indexByteLite (s : ByteArray) (c : Int) : TriS Try.prog 89 [.c (str s), .c (.v (.int .u8 c))] [] 0 (RetI .i64 (Lib.indexByte s.data.toList c.toNat.toUInt8)) := by
  refine walk tab_ok mixed (noMeths rfl) (C := cfg89) (fn := Try.f89) (c := Try.f89.body.getD .skip) (by kernel_rfl) (by kernel_rfl) (by kernel_rfl) (by kernel_rfl) (by kernel_rfl) 60 ?_
  intro ari shf cmp scmp band beq bnot neg unx wrap slen sat ssub cat bstr toN sub add shift join setf bytes updb updv rng idx isb le3 nz room nil0 catok rune rnext more rstr nid safe tri weak Kx hK F
  have htoN := F.toN
  subst htoN
  cbv
  refine F.call (indexByteString s c) ?_
  rintro v s2 n2 ⟨r, hr, rfl, rfl, rfl⟩
  refine ⟨F.lent0, ?_⟩
  cbv
  exact hK _ _ _ (said_plain ⟨_, hr, rfl, rfl, rfl⟩ rfl)
theorem indexByteS (s : ByteArray) (c : Int) : TriS Try.prog 85 [.c (str s), .c (.v (.int .u8 c))] [] 0 (RetI .i64 (Lib.indexByte s.data.toList c.toNat.toUInt8)) := by
  refine walk tab_ok mixed (noMeths rfl) (C := cfg85) (fn := Try.f85) (c := Try.f85.body.getD .skip) (by kernel_rfl) (by kernel_rfl) (by kernel_rfl) (by kernel_rfl) (by kernel_rfl) 60 ?_
  intro ari shf cmp scmp band beq bnot neg unx wrap slen sat ssub cat bstr toN sub add shift join setf bytes updb updv rng idx isb le3 nz room nil0 catok rune rnext more rstr nid safe tri weak Kx hK F
  have htoN := F.toN
  subst htoN
  cbv
  refine F.call (indexByteLite s c) ?_
  rintro v s2 n2 ⟨r, hr, rfl, rfl, rfl⟩
  refine ⟨F.lent0, ?_⟩
  cbv
  exact hK _ _ _ (said_plain ⟨_, hr, rfl, rfl, rfl⟩ rfl)
theorem validRune_ (r : Int) : TriS Try.prog 86 [.c (.v (.int .i32 r))] [] 0 (RetB (Utf8.valid r)) := by
  refine walk tab_ok mixed (noMeths rfl) (C := cfg86) (fn := Try.f86) (c := Try.f86.body.getD .skip) (by kernel_rfl) (by kernel_rfl) (by kernel_rfl) (by kernel_rfl) (by kernel_rfl) 60 ?_
  intro ari shf cmp scmp band beq bnot neg unx wrap slen sat ssub cat bstr toN sub add shift join setf bytes updb updv rng idx isb le3 nz room nil0 catok rune rnext more rstr nid safe tri weak Kx hK F
  have htoN := F.toN
  subst htoN
  cbv
  all_goals (first | (refine ⟨fun h1 => ?_, fun h1 => ?_⟩ <;> cbv) | skip)
  all_goals (first | (refine ⟨fun h2 => ?_, fun h2 => ?_⟩ <;> cbv) | skip)
  all_goals (first | (refine ⟨fun h3 => ?_, fun h3 => ?_⟩ <;> cbv) | skip)
  all_goals (first | (refine ⟨fun h4 => ?_, fun h4 => ?_⟩ <;> cbv) | skip)
  all_goals (first | refine hK _ _ _ (said_plain ⟨_, ?_, rfl, rfl, rfl⟩ rfl) | refine hK _ _ _ (said_bool ⟨_, ?_, rfl, rfl, rfl⟩))
  all_goals (try simp only [F.cmp, F.scmp, F.band, F.beq, F.bnot, F.ari, F.shf, F.neg, F.unx, F.wrap, F.slen, F.sat, F.more, F.rune, F.rnext, real] at h1)
  all_goals (try simp only [F.cmp, F.scmp, F.band, F.beq, F.bnot, F.ari, F.shf, F.neg, F.unx, F.wrap, F.slen, F.sat, F.more, F.rune, F.rnext, real] at h2)
  all_goals (try simp only [F.cmp, F.scmp, F.band, F.beq, F.bnot, F.ari, F.shf, F.neg, F.unx, F.wrap, F.slen, F.sat, F.more, F.rune, F.rnext, real] at h3)
  all_goals (try simp only [F.cmp, F.scmp, F.band, F.beq, F.bnot, F.ari, F.shf, F.neg, F.unx, F.wrap, F.slen, F.sat, F.more, F.rune, F.rnext, real] at h4)
  all_goals (try simp only [F.cmp, F.scmp, F.band, F.beq, F.bnot, F.ari, F.shf, F.neg, F.unx, F.wrap, F.slen, F.sat, F.more, F.rune, F.rnext, real])
  all_goals clear hK F
  all_goals (try simp at h1)
  all_goals (try simp at h2)
  all_goals (try simp at h3)
  all_goals (try simp at h4)
  all_goals (simp [Utf8.valid]; omega)

theorem index_ge (l : List UInt8) (c : UInt8) : 0 ≤ Lib.indexByte l c ↔ c ∈ l := by
  induction l with
  | nil => simp [Lib.indexByte]
  | cons b l ih =>
    simp only [Lib.indexByte, List.mem_cons]
    by_cases h : b = c
    · simp [h]
    · have hb : (b == c) = false := by simpa using h
      rw [hb]
      simp only [Bool.false_eq_true, if_false]
      have lo : ∀ l : List UInt8, -1 ≤ Lib.indexByte l c := by
        intro l
        induction l with
        | nil => simp [Lib.indexByte]
        | cons b l ih => simp only [Lib.indexByte]; split; · omega
                         split <;> omega
      have := lo l
      by_cases h1 : Lib.indexByte l c = -1
      · rw [h1]
        rw [h1] at ih
        simp only [BEq.rfl, if_true]
        have h2 : c ∉ l := fun hm => by have := ih.2 hm; omega
        constructor
        · intro h; omega
        · rintro (h3 | h3)
          · exact absurd h3.symm h
          · exact absurd h3 h2
      · have h2 : (Lib.indexByte l c == -1) = false := by simpa using h1
        rw [h2]
        simp only [Bool.false_eq_true, if_false]
        have h3 : c ∈ l := ih.1 (by omega)
        constructor
        · intro _; exact .inr h3
        · intro _; omega
theorem index_no (l : List UInt8) (c : UInt8) (h : c ∉ l) : Lib.indexByte l c < 0 := by
  have := index_ge l c
  have h1 : ¬ 0 ≤ Lib.indexByte l c := fun h1 => h (this.1 h1)
  omega

/-- The places of the bytes of a text below 128. -/
theorem indexRune (s : ByteArray) (hs : ∀ b ∈ s.data.toList, b.toNat < 128) (hz : s.size < 1000) (r : Int) : TriS Try.prog 84 [.c (str s), .c (.v (.int .i32 r))] [] 0
    (fun v s' nx => ∃ k : Int, (0 ≤ k ↔ 0 ≤ r ∧ r < 128 ∧ r.toNat.toUInt8 ∈ s.data.toList) ∧ v = .c (i64 k) ∧ s' = [] ∧ nx = 0) := by
  refine walk tab_ok mixed (noMeths rfl) (C := cfg84) (fn := Try.f84) (c := Try.f84.body.getD .skip) (by kernel_rfl) (by kernel_rfl) (by kernel_rfl) (by kernel_rfl) (by kernel_rfl) 60 ?_
  intro ari shf cmp scmp band beq bnot neg unx wrap slen sat ssub cat bstr toN sub add shift join setf bytes updb updv rng idx isb le3 nz room nil0 catok rune rnext more rstr nid safe tri weak Kx hK F
  have htoN := F.toN
  subst htoN
  cbv
  have leaf : ∀ (k : Int) (s' : Sto) (nx : Nat), (0 ≤ k ↔ 0 ≤ r ∧ r < 128 ∧ r.toNat.toUInt8 ∈ s.data.toList) → Kx (.c (i64 k)) s' nx := fun k s' nx h => hK _ _ _ (said_plain ⟨_, h, rfl, rfl, rfl⟩ rfl)
  refine ⟨fun h1 => ?_, fun h1 => ?_⟩ <;> cbv
  · refine ⟨fun h2 => ?_, fun h2 => ?_⟩ <;> cbv
    · simp only [F.cmp, F.scmp, F.band, F.beq, F.bnot, F.ari, F.shf, F.neg, F.unx, F.wrap, F.slen, F.sat, F.more, F.rune, F.rnext] at h1
      simp [real, ncast, ocast] at h1
      simp only [F.cmp, F.scmp, F.band, F.beq, F.bnot, F.ari, F.shf, F.neg, F.unx, F.wrap, F.slen, F.sat, F.more, F.rune, F.rnext] at h2
      simp [real, ncast, ocast] at h2
      refine F.call (indexByteS _ _) ?_
      rintro v s2 n2 ⟨q, hq, rfl, rfl, rfl⟩
      refine ⟨F.lent0, ?_⟩
      cbv
      refine leaf _ _ _ ?_
      rw [hq, F.wrap]
      have e : (real (TriS Try.prog) (WeakS Try.prog 0)).wrap .u8 r = r := by simp only [real]; exact wrapU8 h1 (by omega)
      rw [e, index_ge]
      simp [h1, h2]
    · refine ⟨fun h3 => ?_, fun h3 => ?_⟩
      · cbv
        simp only [F.cmp, F.scmp, F.band, F.beq, F.bnot, F.ari, F.shf, F.neg, F.unx, F.wrap, F.slen, F.sat, F.more, F.rune, F.rnext] at h3
        simp [real, ncast, ocast] at h3
        refine ⟨fun mu st => ∃ pos, mu = s.size - pos ∧ st = ⟨[(175, .c (.ptr 0 0))], [(0, .sit s pos)], 1⟩, ⟨_, _, ⟨0, rfl, rfl⟩, ?_⟩, ?_⟩
        · cbv
          refine F.say ⟨[(0, 0)], [], []⟩ ⟨?_, ?_, ?_, by simp⟩
          · simp [ckE, look, ckV, ckC, mem]
          · simp [ckS, look, mem, ckO]
          · simp [ckN]
        rintro mu _ ⟨pos, hmu, rfl⟩
        cbv
        refine ⟨fun hm => ?_, fun hm => ?_⟩ <;> cbv
        · rw [F.more] at hm
          have hm : pos < s.size := by simpa [real] using hm
          have hd := decode_ascii s pos hm (hs _ (Array.getElem_mem_toList (xs := s.data) hm))
          refine ⟨fun h4 => ?_, fun h4 => ?_⟩ <;> cbv
          · rw [F.rune, F.cmp] at h4
            simp [real, hd] at h4
            have := hs _ (Array.getElem_mem_toList (xs := s.data) hm)
            have e : (s.data[pos]'hm).toNat = (s[pos]'hm).toNat := rfl
            omega
          · refine ⟨s.size - (pos + 1), _, by omega, ⟨pos + 1, rfl, rfl⟩, ?_⟩
            cbv
            refine F.say ⟨[(0, 0)], [], []⟩ ⟨?_, ?_, ?_, by simp⟩
            · simp [ckE, look, ckV, ckC, mem]
            · simp [ckS, look, mem, ckO, F.rnext, real, hd]
            · simp [ckN]
        · refine leaf _ _ _ ?_
          omega
      · cbv
        refine F.call (validRune_ _) ?_
        rintro v s2 n2 ⟨b, hb, rfl, rfl, rfl⟩
        refine ⟨F.lent0, ?_⟩
        cases b <;> cbv
        · refine leaf _ _ _ ?_
          simp [Utf8.valid] at hb
          try simp only [F.cmp, F.scmp, F.band, F.beq, F.bnot, F.ari, F.shf, F.neg, F.unx, F.wrap, F.slen, F.sat, F.more, F.rune, F.rnext] at h1
          try simp [real, ncast, ocast] at h1
          try simp only [F.cmp, F.scmp, F.band, F.beq, F.bnot, F.ari, F.shf, F.neg, F.unx, F.wrap, F.slen, F.sat, F.more, F.rune, F.rnext] at h2
          try simp [real, ncast, ocast] at h2
          omega
        · generalize hrs : rstr r = rs
          generalize hla : ari .sub .i64 (slen rs) 1 = la
          have hr0 : 128 ≤ r := by
            try simp only [F.cmp, F.scmp, F.band, F.beq, F.bnot, F.ari, F.shf, F.neg, F.unx, F.wrap, F.slen, F.sat, F.more, F.rune, F.rnext] at h1
            try simp [real, ncast, ocast] at h1
            try simp only [F.cmp, F.scmp, F.band, F.beq, F.bnot, F.ari, F.shf, F.neg, F.unx, F.wrap, F.slen, F.sat, F.more, F.rune, F.rnext] at h2
            try simp [real, ncast, ocast] at h2
            simp [Utf8.valid] at hb
            omega
          have hf := encode_facts r hb.symm hr0
          have hrs' : rs = Utf8.encode r := by rw [← hrs, F.rstr]; rfl
          rw [← hrs'] at hf
          obtain ⟨f1, f2, f3⟩ := hf
          have hla' : la = ((rs.size - 1 : Nat) : Int) := by
            rw [← hla, F.ari, F.slen]
            simp only [real]
            rw [wrap64] <;> omega
          refine ⟨fun mu st => st = ⟨[(0, .c (str s)), (1, .c (.v (.int .i32 r))), (7, .c (str rs)), (8, .c (i64 la)), (9, .c (i64 la)), (10, .c (i64 0))], [], 0⟩, ⟨0, _, rfl, ?_⟩, ?_⟩
          · cbv
            refine F.say ⟨[], [], []⟩ ⟨?_, ?_, ?_, by simp⟩
            · simp [ckE, look, ckV, ckC, mem]
            · simp [ckS]
            · simp [ckN]
          rintro mu _ rfl
          cbv
          refine ⟨fun h5 => ?_, fun h5 => ?_⟩ <;> cbv
          · rw [F.cmp, F.slen] at h5
            simp only [real, decide_eq_true_eq] at h5
            obtain ⟨q, hq⟩ : ∃ q, rs.size - 1 = q := ⟨_, rfl⟩
            rw [hq] at hla'
            have g2 : la.toNat = rs.size - 1 := by rw [hla', hq]; rfl
            have la0 : 0 ≤ la := by omega
            have g1 : la.toNat < s.size := by omega
            have g3 : (sat s la) < 128 := by
              rw [F.sat]
              simp only [real]
              have e : s.data.toList[la.toNat]? = some (s.data.toList[la.toNat]'g1) := List.getElem?_eq_getElem g1
              rw [e]
              have := hs _ (List.getElem_mem (l := s.data.toList) g1)
              simp only [Option.getD_some]
              omega
            have g4 : 128 ≤ sat rs la ∧ sat rs la < 256 := by
              rw [F.sat]
              simp only [real]
              have g5 : la.toNat < rs.data.toList.length := by rw [g2]; show rs.size - 1 < rs.size; omega
              rw [List.getElem?_eq_getElem g5]
              simp only [Option.getD_some]
              have := f3 (by omega)
              have e : (rs.data.toList[la.toNat]'g5) = rs[rs.size - 1]'(by omega) := by
                simp only [g2]
                rfl
              rw [e]
              have := (rs[rs.size - 1]'(by omega)).toNat_lt
              omega
            refine ⟨by rw [F.idx, F.slen]; exact ⟨la0, by simp only [real]; omega⟩, by rw [F.idx, F.slen]; exact ⟨la0, by simp only [real]; omega⟩, fun h6 => ?_, fun h6 => ?_⟩
            · cbv
              have e8 : ari .add .i64 la 1 = la + 1 := by rw [F.ari]; exact wrap64 (by omega) (by omega)
              rw [e8]
              refine ⟨by rw [F.le3, F.slen]; exact ⟨by omega, by simp only [real]; omega, Int.le_refl _⟩, by rw [F.idx, F.slen]; exact ⟨la0, by simp only [real]; omega⟩, ?_⟩
              cbv
              refine F.call (indexByteS _ _) ?_
              rintro v s2 n2 ⟨q2, hq2, rfl, rfl, rfl⟩
              refine ⟨F.lent0, ?_⟩
              cbv
              have q3 : q2 < 0 := by
                rw [hq2]
                refine index_no _ _ fun hm => ?_
                rw [F.ssub] at hm
                have := hs _ (mem_extract hm)
                have e9 : (UInt8.ofNat (sat rs la).toNat).toNat = (sat rs la).toNat := by simp; omega
                have this : (UInt8.ofNat (sat rs la).toNat).toNat < 128 := this
                omega
              refine ⟨fun h7 => ?_, fun h7 => ?_⟩ <;> cbv
              · refine leaf _ _ _ ?_
                omega
              · rw [F.cmp] at h7
                simp [real] at h7
                omega
            · rw [F.bnot, F.cmp] at h6
              simp [real] at h6
              omega
          · refine leaf _ _ _ ?_
            omega
  · refine ⟨fun h3 => ?_, fun h3 => ?_⟩
    · cbv
      simp only [F.cmp, F.scmp, F.band, F.beq, F.bnot, F.ari, F.shf, F.neg, F.unx, F.wrap, F.slen, F.sat, F.more, F.rune, F.rnext] at h3
      simp [real, ncast, ocast] at h3
      refine ⟨fun mu st => ∃ pos, mu = s.size - pos ∧ st = ⟨[(175, .c (.ptr 0 0))], [(0, .sit s pos)], 1⟩, ⟨_, _, ⟨0, rfl, rfl⟩, ?_⟩, ?_⟩
      · cbv
        refine F.say ⟨[(0, 0)], [], []⟩ ⟨?_, ?_, ?_, by simp⟩
        · simp [ckE, look, ckV, ckC, mem]
        · simp [ckS, look, mem, ckO]
        · simp [ckN]
      rintro mu _ ⟨pos, hmu, rfl⟩
      cbv
      refine ⟨fun hm => ?_, fun hm => ?_⟩ <;> cbv
      · rw [F.more] at hm
        have hm : pos < s.size := by simpa [real] using hm
        have hd := decode_ascii s pos hm (hs _ (Array.getElem_mem_toList (xs := s.data) hm))
        refine ⟨fun h4 => ?_, fun h4 => ?_⟩ <;> cbv
        · rw [F.rune, F.cmp] at h4
          simp [real, hd] at h4
          have := hs _ (Array.getElem_mem_toList (xs := s.data) hm)
          have e : (s.data[pos]'hm).toNat = (s[pos]'hm).toNat := rfl
          omega
        · refine ⟨s.size - (pos + 1), _, by omega, ⟨pos + 1, rfl, rfl⟩, ?_⟩
          cbv
          refine F.say ⟨[(0, 0)], [], []⟩ ⟨?_, ?_, ?_, by simp⟩
          · simp [ckE, look, ckV, ckC, mem]
          · simp [ckS, look, mem, ckO, F.rnext, real, hd]
          · simp [ckN]
      · refine leaf _ _ _ ?_
        omega
    · cbv
      refine F.call (validRune_ _) ?_
      rintro v s2 n2 ⟨b, hb, rfl, rfl, rfl⟩
      refine ⟨F.lent0, ?_⟩
      cases b <;> cbv
      · refine leaf _ _ _ ?_
        simp [Utf8.valid] at hb
        try simp only [F.cmp, F.scmp, F.band, F.beq, F.bnot, F.ari, F.shf, F.neg, F.unx, F.wrap, F.slen, F.sat, F.more, F.rune, F.rnext] at h1
        try simp [real, ncast, ocast] at h1
        try simp only [F.cmp, F.scmp, F.band, F.beq, F.bnot, F.ari, F.shf, F.neg, F.unx, F.wrap, F.slen, F.sat, F.more, F.rune, F.rnext] at h2
        try simp [real, ncast, ocast] at h2
        omega
      · generalize hrs : rstr r = rs
        generalize hla : ari .sub .i64 (slen rs) 1 = la
        have hr0 : 128 ≤ r := by
          try simp only [F.cmp, F.scmp, F.band, F.beq, F.bnot, F.ari, F.shf, F.neg, F.unx, F.wrap, F.slen, F.sat, F.more, F.rune, F.rnext] at h1
          try simp [real, ncast, ocast] at h1
          try simp only [F.cmp, F.scmp, F.band, F.beq, F.bnot, F.ari, F.shf, F.neg, F.unx, F.wrap, F.slen, F.sat, F.more, F.rune, F.rnext] at h2
          try simp [real, ncast, ocast] at h2
          simp [Utf8.valid] at hb
          omega
        have hf := encode_facts r hb.symm hr0
        have hrs' : rs = Utf8.encode r := by rw [← hrs, F.rstr]; rfl
        rw [← hrs'] at hf
        obtain ⟨f1, f2, f3⟩ := hf
        have hla' : la = ((rs.size - 1 : Nat) : Int) := by
          rw [← hla, F.ari, F.slen]
          simp only [real]
          rw [wrap64] <;> omega
        refine ⟨fun mu st => st = ⟨[(0, .c (str s)), (1, .c (.v (.int .i32 r))), (7, .c (str rs)), (8, .c (i64 la)), (9, .c (i64 la)), (10, .c (i64 0))], [], 0⟩, ⟨0, _, rfl, ?_⟩, ?_⟩
        · cbv
          refine F.say ⟨[], [], []⟩ ⟨?_, ?_, ?_, by simp⟩
          · simp [ckE, look, ckV, ckC, mem]
          · simp [ckS]
          · simp [ckN]
        rintro mu _ rfl
        cbv
        refine ⟨fun h5 => ?_, fun h5 => ?_⟩ <;> cbv
        · rw [F.cmp, F.slen] at h5
          simp only [real, decide_eq_true_eq] at h5
          obtain ⟨q, hq⟩ : ∃ q, rs.size - 1 = q := ⟨_, rfl⟩
          rw [hq] at hla'
          have g2 : la.toNat = rs.size - 1 := by rw [hla', hq]; rfl
          have la0 : 0 ≤ la := by omega
          have g1 : la.toNat < s.size := by omega
          have g3 : (sat s la) < 128 := by
            rw [F.sat]
            simp only [real]
            have e : s.data.toList[la.toNat]? = some (s.data.toList[la.toNat]'g1) := List.getElem?_eq_getElem g1
            rw [e]
            have := hs _ (List.getElem_mem (l := s.data.toList) g1)
            simp only [Option.getD_some]
            omega
          have g4 : 128 ≤ sat rs la ∧ sat rs la < 256 := by
            rw [F.sat]
            simp only [real]
            have g5 : la.toNat < rs.data.toList.length := by rw [g2]; show rs.size - 1 < rs.size; omega
            rw [List.getElem?_eq_getElem g5]
            simp only [Option.getD_some]
            have := f3 (by omega)
            have e : (rs.data.toList[la.toNat]'g5) = rs[rs.size - 1]'(by omega) := by
              simp only [g2]
              rfl
            rw [e]
            have := (rs[rs.size - 1]'(by omega)).toNat_lt
            omega
          refine ⟨by rw [F.idx, F.slen]; exact ⟨la0, by simp only [real]; omega⟩, by rw [F.idx, F.slen]; exact ⟨la0, by simp only [real]; omega⟩, fun h6 => ?_, fun h6 => ?_⟩
          · cbv
            have e8 : ari .add .i64 la 1 = la + 1 := by rw [F.ari]; exact wrap64 (by omega) (by omega)
            rw [e8]
            refine ⟨by rw [F.le3, F.slen]; exact ⟨by omega, by simp only [real]; omega, Int.le_refl _⟩, by rw [F.idx, F.slen]; exact ⟨la0, by simp only [real]; omega⟩, ?_⟩
            cbv
            refine F.call (indexByteS _ _) ?_
            rintro v s2 n2 ⟨q2, hq2, rfl, rfl, rfl⟩
            refine ⟨F.lent0, ?_⟩
            cbv
            have q3 : q2 < 0 := by
              rw [hq2]
              refine index_no _ _ fun hm => ?_
              rw [F.ssub] at hm
              have := hs _ (mem_extract hm)
              have e9 : (UInt8.ofNat (sat rs la).toNat).toNat = (sat rs la).toNat := by simp; omega
              have this : (UInt8.ofNat (sat rs la).toNat).toNat < 128 := this
              omega
            refine ⟨fun h7 => ?_, fun h7 => ?_⟩ <;> cbv
            · refine leaf _ _ _ ?_
              omega
            · rw [F.cmp] at h7
              simp [real] at h7
              omega
          · rw [F.bnot, F.cmp] at h6
            simp [real] at h6
            omega
        · refine leaf _ _ _ ?_
          omega

def digs : ByteArray := ⟨#[48, 49, 50, 51, 52, 53, 54, 55, 56, 57, 45, 95]⟩
def inDigs (r : Int) : Bool := decide (48 ≤ r ∧ r ≤ 57) || r == 45 || r == 95
theorem inDigs_iff (r : Int) : inDigs r = true ↔ 0 ≤ r ∧ r < 128 ∧ r.toNat.toUInt8 ∈ digs.data.toList := by
  constructor
  · intro h
    simp only [inDigs, Bool.or_eq_true, decide_eq_true_eq, beq_iff_eq] at h
    have h1 : 0 ≤ r ∧ r < 128 := by omega
    refine ⟨h1.1, h1.2, ?_⟩
    obtain ⟨n, rfl⟩ : ∃ n : Nat, r = n := ⟨r.toNat, by omega⟩
    have h2 : n < 128 := by omega
    have h3 : (48 ≤ n ∧ n ≤ 57) ∨ n = 45 ∨ n = 95 := by omega
    clear h h1
    revert n
    decide
  · rintro ⟨h1, h2, h3⟩
    obtain ⟨n, rfl⟩ : ∃ n : Nat, r = n := ⟨r.toNat, by omega⟩
    have h4 : n < 128 := by omega
    have : ∀ n : Nat, n < 128 → (n.toUInt8 ∈ digs.data.toList) → (48 ≤ n ∧ n ≤ 57) ∨ n = 45 ∨ n = 95 := by decide
    have := this n h4 h3
    simp only [inDigs, Bool.or_eq_true, decide_eq_true_eq, beq_iff_eq]
    omega
theorem containsRune (r : Int) : TriS Try.prog 83 [.c (str ⟨#[48, 49, 50, 51, 52, 53, 54, 55, 56, 57, 45, 95]⟩), .c (.v (.int .i32 r))] [] 0 (RetB (inDigs r)) := by
  obtain ⟨ds, hds⟩ : ∃ ds, ds = digs := ⟨_, rfl⟩
  have e : (⟨#[48, 49, 50, 51, 52, 53, 54, 55, 56, 57, 45, 95]⟩ : ByteArray) = ds := hds.symm
  rw [e]
  refine walk tab_ok mixed (noMeths rfl) (C := cfg83) (fn := Try.f83) (c := Try.f83.body.getD .skip) (by kernel_rfl) (by kernel_rfl) (by kernel_rfl) (by kernel_rfl) (by kernel_rfl) 60 ?_
  intro ari shf cmp scmp band beq bnot neg unx wrap slen sat ssub cat bstr toN sub add shift join setf bytes updb updv rng idx isb le3 nz room nil0 catok rune rnext more rstr nid safe tri weak Kx hK F
  have htoN := F.toN
  subst htoN
  cbv
  refine F.call (indexRune ds (by rw [hds]; decide) (by rw [hds]; decide) r) ?_
  rintro v s2 n2 ⟨k, hk, rfl, rfl, rfl⟩
  refine ⟨F.lent0, ?_⟩
  cbv
  first | refine hK _ _ _ (said_plain ⟨_, ?_, rfl, rfl, rfl⟩ rfl) | refine hK _ _ _ (said_bool ⟨_, ?_, rfl, rfl, rfl⟩)
  try simp only [F.cmp, F.scmp, F.band, F.beq, F.bnot, F.ari, F.shf, F.neg, F.unx, F.wrap, F.slen, F.sat, F.more, F.rune, F.rnext, real]
  rw [Bool.eq_iff_iff, inDigs_iff, ← hds, ← hk]
  simp
end Am
