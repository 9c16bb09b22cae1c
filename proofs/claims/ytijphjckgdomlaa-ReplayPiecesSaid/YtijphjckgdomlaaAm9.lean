/-
  Slices' bounds, conversions, the rest of the operations that leave the store alone.
-/
import Derived.Test.YtijphjckgdomlaaAm8
set_option linter.all false
namespace Am
open Go

section
variable {P : Program} {T : Tab} {g : Gh} {nx : Nat} {w : World} {s : Sto} {e : Env} {a : Act}
variable {tri : FuncId → List AV → Sto → Nat → (AV → Sto → Nat → Prop) → Prop} {weak : St → St → Prop} {K : AV → Prop}

theorem low_val (hE : EnvRel g nx w e a.tmps) {lo : Option Operand} {l : Int} (h : low (lo.map (ev e)) = some l) : (lo = none ∧ l = 0) ∨ ∃ x k, lo = some x ∧ a.eval x = .int k l := by
  cases lo with
  | none => simp [low] at h; exact .inl ⟨rfl, h.symm⟩
  | some x =>
    simp only [Option.map] at h
    unfold low at h
    split at h
    · rename_i h1; cases h1
    · rename_i k n h1
      injection h1 with h1
      injection h with h
      subst h
      exact .inr ⟨x, k, rfl, vv (ev_rel hE h1)⟩
    · cases h
theorem hi_val (hE : EnvRel g nx w e a.tmps) {hi : Option Operand} {q : IntKind} {l : Int} (h : hi.map (ev e) = some (some (.c (.v (.int q l))))) : ∃ x, hi = some x ∧ a.eval x = .int q l := by
  cases hi with
  | none => cases h
  | some x =>
    injection h with h
    exact ⟨x, rfl, vv (ev_rel hE h)⟩
theorem no_val {hi : Option Operand} (h : hi.map (ev e) = none) : hi = none := by
  cases hi with
  | none => rfl
  | some x => cases h

theorem bound_run {k : IntKind} {i : Int} {y : Nat} {c : BoundsCode} (h0 : 0 ≤ i) (h1 : i ≤ y) (w' : World) : (Instr.sliceBound (.int k i) y c).run P w' = .ok i.toNat w' := by
  simp [Instr.sliceBound, asIntOf, h0, h1]

theorem bounds_run (hE : EnvRel g nx w e a.tmps) {lo hi : Option Operand} {l h : Int} {b : Bool} {n cap : Nat} (hl : low (lo.map (ev e)) = some l)
    (hh : (∃ q, hi.map (ev e) = some (some (.c (.v (.int q h))))) ∨ (hi.map (ev e) = none ∧ h = n)) (h0 : 0 ≤ l) (h1 : l ≤ h) (h2 : h ≤ cap) (w' : World) :
    (Instr.sliceBounds b n cap (lo.map a.eval) (hi.map a.eval) none).run P w' = .ok (l.toNat, h.toNat, cap) w' := by
  have hb : (Int.ofNat h.toNat) = h := Int.toNat_of_nonneg (by omega)
  have hle : l ≤ (h.toNat : Nat) := by rw [show ((h.toNat : Nat) : Int) = h from hb]; exact h1
  rcases hh with ⟨q, hh⟩ | ⟨hh, rfl⟩
  · obtain ⟨y, rfl, hy⟩ := hi_val hE hh
    rcases low_val hE hl with ⟨rfl, rfl⟩ | ⟨x, k, rfl, hx⟩
    · simp only [Instr.sliceBounds, Option.map, hy, Sem.run_bind, Sem.run_pure, Result.andThen_ok, bound_run (show (0 : Int) ≤ h by omega) h2]
      rfl
    · simp only [Instr.sliceBounds, Option.map, hy, hx, Sem.run_bind, Sem.run_pure, Result.andThen_ok, bound_run (show (0 : Int) ≤ h by omega) h2, bound_run h0 hle]
  · obtain rfl := no_val hh
    rcases low_val hE hl with ⟨rfl, rfl⟩ | ⟨x, k, rfl, hx⟩
    · simp [Instr.sliceBounds, Option.map]
    · have hle' : l ≤ (n : Int) := h1
      simp only [Instr.sliceBounds, Option.map, hx, Sem.run_bind, Sem.run_pure, Result.andThen_ok, bound_run h0 hle']
      simp

theorem sliceAt_run {t u : Nat} (hu : P.underlying t = some (.slice u)) {z : Nat} (hz : ∀ w, (Go.sizeOf u).run P w = .ok z w) {A : Option Addr} {n cap : Nat} {lo hi mx : Option Value} {l h m : Nat} {w' : World}
    (hb : (Instr.sliceBounds true n cap lo hi mx).run P w' = .ok (l, h, m) w') : (Instr.sliceAt t (.slice A n cap) lo hi mx).run P w' = .ok (.slice (if m = l then A else A.map (·.add (l * z))) (h - l) (m - l)) w' := by
  simp [Instr.sliceAt, run_underlying hu, Instr.slice, hb, hz]
theorem sliceAt_str {t : Nat} (hu : P.underlying t = some .string) {b : ByteArray} {lo hi : Option Value} {l h m : Nat} {w' : World}
    (hb : (Instr.sliceBounds false b.size b.size lo hi none).run P w' = .ok (l, h, m) w') : (Instr.sliceAt t (.string b) lo hi none).run P w' = .ok (.string (b.extract l h)) w' := by
  simp [Instr.sliceAt, run_underlying hu, Instr.slice, hb]

theorem kind_string (hT : TabOk P T) {t : Nat} (h : kindOf T t = .string) : P.underlying t = some .string := by
  obtain ⟨ti, hl, htd⟩ := kindOf_some h (by simp)
  have := (hT t ti hl).td
  rw [htd] at this
  exact this

/-- A cut of a slice that is only read. -/
theorem sl_cut {sz n m : Nat} {f : Nat → List CV} {y : Value} (hy : VRel g nx w (.c (.sl sz n m f)) y) {l h : Nat} (h1 : l ≤ h) (h2 : h ≤ n + m) :
    ∃ A cap, y = .slice A n cap ∧ h ≤ cap ∧ n ≤ cap ∧ DRel g.fz w (.sl sz (h - l) (n + m - h) (fun i => f (i + l))) (.slice (if cap = l then A else A.map (·.add (l * sz))) (h - l) (cap - l)) := by
  rcases vsl hy with ⟨rfl, rfl, rfl⟩ | ⟨b, o, cap, vals, rfl, hcap, hmax, hlen, hc, hf, hr⟩
  · obtain rfl : h = 0 := by omega
    obtain rfl : l = 0 := by omega
    exact ⟨none, 0, rfl, Nat.le_refl _, Nat.le_refl _, .nilsl _ _⟩
  · refine ⟨some ⟨b, o, none⟩, cap, rfl, by omega, by omega, ?_⟩
    by_cases hcl : cap = l
    · rw [if_pos hcl]
      have e1 : h - l = 0 := by omega
      have e2 : n + m - h = 0 := by omega
      have e3 : cap - l = 0 := by omega
      rw [e1, e2, e3]
      exact .sl sz 0 0 _ b o 0 vals (by omega) (by unfold maxLen; omega) (fun i hi => by omega) (fun i j c hi => by omega) (fun i j c hi => by omega) (fun i j c hi => by omega)
    · rw [if_neg hcl]
      simp only [Option.map, add_none]
      refine .sl sz (h - l) (n + m - h) _ b (o + l * sz) (cap - l) (fun i j => vals (i + l) j) (by omega) (by omega) (fun i hi => hlen _ (by omega)) (fun i j c hi hj => ?_) (fun i j c hi hj => ?_) (fun i j c hi hj => hr _ j c (by omega) hj)
      · have := hc (i + l) j c (by omega) hj
        rw [show o + l * sz + (i * sz + j) = o + ((i + l) * sz + j) by rw [Nat.add_mul]; omega]
        exact this
      · have := hf (i + l) j c (by omega) hj
        rw [show o + l * sz + (i * sz + j) = o + ((i + l) * sz + j) by rw [Nat.add_mul]; omega]
        exact this

/-- 'x[0:0:0]'. -/
theorem zero_cut (hE : EnvRel g nx w e a.tmps) {t u : Nat} (hu : P.underlying t = some (.slice u)) {z : Nat} (hz : ∀ w, (Go.sizeOf u).run P w = .ok z w) {A : Option Addr} {n cap : Nat} {lo hi mx : Option Operand} {q q' : IntKind}
    (hl : low (lo.map (ev e)) = some 0) (hh : hi.map (ev e) = some (some (.c (.v (.int q 0))))) (hm : mx.map (ev e) = some (some (.c (.v (.int q' 0))))) (w' : World) :
    (Instr.sliceAt t (.slice A n cap) (lo.map a.eval) (hi.map a.eval) (mx.map a.eval)).run P w' = .ok (.slice A 0 0) w' := by
  obtain ⟨y, rfl, hy⟩ := hi_val hE hh
  obtain ⟨y', rfl, hy'⟩ := hi_val hE hm
  have h1 : (Instr.sliceBounds true n cap (lo.map a.eval) ((some y).map a.eval) ((some y').map a.eval)).run P w' = .ok (0, 0, 0) w' := by
    rcases low_val hE hl with ⟨rfl, _⟩ | ⟨x, k, rfl, hx⟩
    · simp [Instr.sliceBounds, hy, hy', Instr.sliceBound, asIntOf]
    · simp [Instr.sliceBounds, hy, hy', hx, Instr.sliceBound, asIntOf]
  rw [sliceAt_run hu hz h1]
  simp

theorem sliceP_sound (hT : TabOk P T) (hE : EnvRel g nx w e a.tmps) {t : Nat} {x : Operand} {v : AV} {lo hi mx : Option Operand} (hx : ev e x = some v)
    (h : (sliceP (real tri weak) T t v (lo.map (ev e)) (hi.map (ev e)) (mx.map (ev e))).sat K) :
    ∃ r z, K r ∧ VRel g nx w r z ∧ ∀ w', (Instr.sliceAt t (a.eval x) (lo.map a.eval) (hi.map a.eval) (mx.map a.eval)).run P w' = .ok z w' := by
  have hv := ev_rel hE hx
  unfold sliceP at h
  split at h
  · rename_i b l q hh hl hhi hmx
    obtain rfl := no_val hmx
    split at h
    · rename_i hk
      obtain ⟨⟨h0, h1, h2⟩, hK⟩ := h
      rw [vv hv]
      exact ⟨_, _, hK, vstr _, fun w' => sliceAt_str (kind_string hT hk) (bounds_run hE hl (.inl ⟨_, hhi⟩) h0 h1 h2 w')⟩
    · exact h.elim
  · rename_i b l hl hhi hmx
    obtain rfl := no_val hmx
    split at h
    · rename_i hk
      obtain ⟨⟨h0, h1, h2⟩, hK⟩ := h
      rw [vv hv]
      exact ⟨_, _, hK, vstr _, fun w' => sliceAt_str (kind_string hT hk) (bounds_run hE hl (.inr ⟨hhi, rfl⟩) h0 h1 (Int.le_refl _) w')⟩
    · exact h.elim
  · rename_i sz n m f l q hh hl hhi hmx
    obtain rfl := no_val hmx
    split at h
    · rename_i z hz
      split at h
      case h_2 => exact h.elim
      rename_i hb
      have hb := eqt hb
      subst hb
      obtain ⟨⟨h0, h1, h2⟩, hK⟩ := h
      obtain ⟨u, hu, hsz⟩ := elemSz_some hT hz
      have h2' : hh ≤ ((n + m : Nat) : Int) := h2
      obtain ⟨A, cap, hy, hc1, hc2, hd⟩ := sl_cut hv (l := l.toNat) (h := hh.toNat) (by omega) (by omega)
      rw [hy]
      exact ⟨_, _, hK, .c _ _ (.d _ _ hd), fun w' => sliceAt_run hu hsz (bounds_run hE hl (.inl ⟨_, hhi⟩) h0 h1 (by omega) w')⟩
    · exact h.elim
  · rename_i sz n m f l hl hhi hmx
    obtain rfl := no_val hmx
    split at h
    · rename_i z hz
      split at h
      case h_2 => exact h.elim
      rename_i hb
      have hb := eqt hb
      subst hb
      obtain ⟨⟨h0, h1, h2⟩, hK⟩ := h
      obtain ⟨u, hu, hsz⟩ := elemSz_some hT hz
      have h1' : l ≤ (n : Int) := h1
      obtain ⟨A, cap, hy, hc1, hc2, hd⟩ := sl_cut hv (l := l.toNat) (h := n) (by omega) (by omega)
      rw [hy]
      refine ⟨_, _, hK, .c _ _ (.d _ _ ?_), fun w' => sliceAt_run hu hsz (bounds_run (h := (n : Int)) hE hl (.inr ⟨hhi, rfl⟩) h0 h1' (by omega) w')⟩
      have e : n + m - n = m := by omega
      rw [e] at hd
      exact hd
    · exact h.elim
  · rename_i id sz off n q hh hl hhi hmx
    obtain rfl := no_val hmx
    split at h
    · rename_i z hz
      obtain ⟨⟨h0, h1, h2⟩, hK⟩ := h
      obtain ⟨u, hu, hsz⟩ := elemSz_some hT hz
      have h2' : hh ≤ (n : Int) := h2
      obtain ⟨hid, ⟨hy, e1, e2, hn⟩ | ⟨cap, hy, hn, hk, hle⟩⟩ := vref hv
      · rw [hy]
        subst e1
        subst e2
        obtain rfl : hh = 0 := by omega
        refine ⟨_, _, hK, .c _ _ (.refnil id sz hid hn), fun w' => ?_⟩
        have := sliceAt_run (A := none) hu hsz (bounds_run (b := true) (n := 0) (cap := 0) (P := P) hE hl (.inl ⟨_, hhi⟩) (Int.le_refl _) h1 (by omega) w')
        simpa using this
      · rw [hy]
        refine ⟨_, _, hK, .c _ _ (.ref id sz off hh.toNat cap hid hn hk (by omega)), fun w' => ?_⟩
        have := sliceAt_run (A := some ⟨g.β id, off * sz, none⟩) hu hsz (bounds_run (b := true) (n := n) (cap := cap) (P := P) hE hl (.inl ⟨_, hhi⟩) (Int.le_refl _) h1 (by omega) w')
        have e : (if cap = 0 then some (⟨g.β id, off * sz, none⟩ : Addr) else Option.map (fun x : Addr => x.add (0 * z)) (some ⟨g.β id, off * sz, none⟩)) = some ⟨g.β id, off * sz, none⟩ := by
          split <;> simp [add_none]
        have this := this.trans (show _ = Result.ok (Value.slice (if cap = 0 then some (⟨g.β id, off * sz, none⟩ : Addr) else Option.map (fun x : Addr => x.add (0 * z)) (some ⟨g.β id, off * sz, none⟩)) (hh.toNat - 0) (cap - 0)) w' from rfl)
        rw [e] at this
        exact this
    · exact h.elim
  · rename_i sz n m f q q' hl hhi hmx
    split at h
    · rename_i z hz
      obtain ⟨u, hu, hsz⟩ := elemSz_some hT hz
      rcases vsl hv with ⟨hy, _⟩ | ⟨b, o, cap, vals, hy, _⟩
      all_goals
        rw [hy]
        exact ⟨_, _, h, .c _ _ (.d _ _ (.z _)), fun w' => zero_cut hE hu hsz hl hhi hmx w'⟩
    · exact h.elim
  · rename_i id sz off n q q' hl hhi hmx
    split at h
    · rename_i z hz
      obtain ⟨u, hu, hsz⟩ := elemSz_some hT hz
      obtain ⟨hid, ⟨hy, e1, e2, hn⟩ | ⟨cap, hy, hn, hk, hle⟩⟩ := vref hv
      all_goals
        rw [hy]
        exact ⟨_, _, h, .c _ _ (.d _ _ (.z _)), fun w' => zero_cut hE hu hsz hl hhi hmx w'⟩
    · exact h.elim
  · exact h.elim
end
end Am
