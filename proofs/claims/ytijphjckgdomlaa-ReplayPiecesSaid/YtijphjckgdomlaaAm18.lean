/-
  A region that draws its order, gone through by a plan.
-/
import Derived.Test.YtijphjckgdomlaaAm17
set_option linter.all false
namespace Am
open Go

section
variable {P : Program} {T : Tab} {C : Cfg} {N nx0 : Nat} {g0 g : Gh} {s0 : Sto} {w0 w : World} {a : Act} {st : St}

theorem isPop_exec {A : Ar} {o : Oper} (h : isPop o.op = true) {e : Env} {s : Sto} {nx : Nat} {K : AV → Sto → Nat → Prop} (hx : exec A T C o e s nx K) : (pop A T o.op e s).sat (fun v => K v s nx) := by
  unfold exec at hx
  split at hx
  · rename_i c ho
    rw [ho] at h ⊢
    simp only [isPop] at h
    split at hx
    · rename_i f hc; simp [hc] at h
    · rename_i r n hc; simp [hc] at h
    · rename_i b hc
      rw [ho] at hx
      have : aop A T (.call c) e s nx = (pop A T (.call c) e s).out s nx := by
        simp only [aop]
        split
        · rename_i hc2 _ _
          rw [hc2] at h
          simp at h
        · rfl
      rw [this] at hx
      exact out_sat hx
  · rename_i hne
    revert h hx
    cases ho : o.op <;> intro h hx <;> first | exact out_sat hx | (exact absurd ho (hne _)) | (simp [isPop] at h)

theorem gexec_take (hT : TabOk P T) {weak : St → St → Prop} {all : Array Oper} {o : Oper} (hp : isPop o.op = true) (hd : ∀ k, o.dst = some k → k < N) {e : Env} {s : Sto} {nx : Nat} {K : Env → Sto → Nat → Prop}
    (hF : Fr P N g0 nx0 s0 w0 g ⟨e, s, nx⟩ a w) (h : gexec (real (TriS P) weak) T C all.toList o e s nx K) :
    ∃ y e', YieldsIf P all (fun w' => noRead o.op = true ∨ Same w w') o y a ∧ Fr P N g0 nx0 s0 w0 g ⟨e', s, nx⟩ (a.put o.dst y) w ∧ K e' s nx := by
  rcases gexec_cases hF h with ⟨e', hF, hw, h⟩ | ⟨e', hF, hw, h⟩
  · obtain ⟨v, y, h1, h2, h3⟩ := pop_sound hT hF.rel hF.env o (isPop_exec hp h)
    refine ⟨y, _, .inl ⟨hw, fun w' hw' => ?_⟩, hF.step hd (Nat.le_refl _) hF.rel (Stp.refl _ _ _ _) (fun _ h => .inl h) h2, h1⟩
    rcases hw' with hn | hw'
    · have h4 := h3 w (Same.refl w)
      revert hn h4
      unfold execOp
      cases o.op <;> intro hn h4 <;> first | (simp [noRead] at hn; done) | skip
      · simp only [Sem.run_pure, Result.ok.injEq, and_true] at h4 ⊢; exact h4
      · simp only [Sem.run_pure, Result.ok.injEq, and_true] at h4 ⊢; exact h4
      · simp only [Instr.extract] at h4 ⊢
        split at h4
        · split at h4
          · simp at h4 ⊢; exact h4
          · simp [stuck] at h4
        · simp [stuck] at h4
    · exact h3 w' hw'
  · exact ⟨undef, _, .inr ⟨hw, rfl⟩, hF.step hd (Nat.le_refl _) hF.rel (Stp.refl _ _ _ _) (fun _ h => .inl h) .un, h⟩

theorem freeX_spec {ops : Array Oper} {listed : Array Bool} {i : Nat} {oi : Oper} (hi : ops[i]? = some oi) (h : freeX C ops listed i = true) :
    (∀ j oj, ops[j]? = some oj → j ≠ i → listed.getD j true = false → (waits ops i).contains j = false → oi.apart ops oj = true ∧ (noRead oi.op = true ∨ wrO C oj.op = false)) ∧
    (∀ j, (waits ops i).contains j = true → listed.getD j true = false ∧ ∃ oj, ops[j]? = some oj ∧ ∃ e ∈ oj.after, Region.binds .any e = true ∧ (e.on = i ∨ (waits ops i).contains e.on = true)) := by
  simp only [freeX, hi, Bool.and_eq_true] at h
  obtain ⟨h1, h2⟩ := h
  refine ⟨fun j oj hj hne hun hno => ?_, fun j hj => ?_⟩
  · have h3 := List.all_eq_true.1 h2 j (List.mem_range.2 (Array.getElem?_eq_some_iff.1 hj).1)
    simp only [hj, Bool.or_eq_true, beq_iff_eq, hne, false_or, hun, Bool.false_eq_true, hno, Bool.and_eq_true, Bool.not_eq_true'] at h3
    exact h3
  · have h3 := List.all_eq_true.1 h1 j (by simpa using hj)
    simp only [Bool.and_eq_true, Bool.not_eq_true'] at h3
    refine ⟨h3.1, ?_⟩
    have h4 := h3.2
    split at h4
    · rename_i oj hoj
      obtain ⟨e, he, hb⟩ := Array.any_eq_true'.1 h4
      simp only [Bool.and_eq_true, Bool.or_eq_true, beq_iff_eq] at hb
      exact ⟨oj, hoj, e, he, hb.1, hb.2⟩
    · cases h4

/-- The alternatives of a fork. -/
theorem alts_spec {A : Ar} {ops : Array Oper} {fuel : Nat} {listed : Array Bool} {e : Env} {s : Sto} {nx : Nat} {K : Env → Sto → Nat → Prop} : ∀ (p : Plan) (b : Bool), planOk C ops b p (fuel + 1) listed = true → pex A T C ops.toList p e s nx K →
    ∀ j ∈ p.alts, ∃ o q, ops[j]? = some o ∧ planOk C ops true q fuel (listed.setIfInBounds j true) = true ∧ gexec A T C ops.toList o e s nx (fun e s nx => pex A T C ops.toList q e s nx K) := by
  intro p
  induction p with
  | eff i p r ih1 ih2 =>
    intro b hok hx j hj
    have hp : planOk C ops true p fuel (listed.setIfInBounds i true) = true ∧ planOk C ops false r (fuel + 1) listed = true := by
      cases b with
      | true =>
        rw [planOk] at hok
        simp only [Bool.and_eq_true] at hok
        exact ⟨hok.1.2, hok.2⟩
      | false =>
        rw [planOk] at hok
        simp only [Bool.and_eq_true] at hok
        exact hok
    simp only [pex] at hx
    split at hx
    case h_2 => exact hx.elim
    rename_i o ho
    rw [nth_eq] at ho
    have ho' : ops[i]? = some o := by simpa using ho
    simp only [Plan.alts, List.mem_cons] at hj
    rcases hj with rfl | hj
    · exact ⟨o, p, ho', hp.1, hx.1⟩
    · exact ih2 false hp.2 hx.2 j hj
  | _ => intro b _ _ j hj; simp [Plan.alts] at hj

/-- The exits of a region in which nothing panics. -/
def NoPanic (Q : Exit → Act → World → Prop) : Exit → Act → World → Prop
  | .panic _, _, _ => False
  | e, a, w => Q e a w

theorem pex_sound (hT : TabOk P T) (hM : MethsOk P C) {weak : St → St → Prop} {all : Array Oper} (hd : ∀ o ∈ all.toList, ∀ k, o.dst = some k → k < N) (hsel : Region.noSelect all = true) {Q : Exit → Act → World → Prop} {K : Env → Sto → Nat → Prop}
    (hK : ∀ e s nx g a w, Fr P N g0 nx0 s0 w0 g ⟨e, s, nx⟩ a w → K e s nx → Q .normal a w) :
    ∀ (fuel : Nat) (p : Plan) (listed : Array Bool), planOk C all true p fuel listed = true → ∀ (e : Env) (s : Sto) (nx : Nat) (g : Gh) (a : Act) (w : World), Fr P N g0 nx0 s0 w0 g ⟨e, s, nx⟩ a w →
      pex (real (TriS P) weak) T C all.toList p e s nx K → wpAnyX P all (NoPanic Q) (fun j => match all[j]? with | some o => wrO C o.op | none => true) fuel listed a w := by
  intro fuel
  induction fuel with
  | zero =>
    intro p listed hok e s nx g a w hF hx
    cases p with
    | done =>
      rw [planOk] at hok
      exact ⟨by simpa using hok, hK e s nx g a w hF hx⟩
    | _ => simp [planOk] at hok
  | succ fuel ih =>
    intro p listed hok e s nx g a w hF hx
    have step : ∀ (j : Nat) (o : Oper) (q : Plan), all[j]? = some o → o ∈ all.toList → planOk C all true q fuel (listed.setIfInBounds j true) = true →
        gexec (real (TriS P) weak) T C all.toList o e s nx (fun e s nx => pex (real (TriS P) weak) T C all.toList q e s nx K) →
        wpOp P all (NoPanic Q) j (fun a' w' => ((match all[j]? with | some o => wrO C o.op | none => true) = false → Same w w') ∧
          wpAnyX P all (NoPanic Q) (fun j => match all[j]? with | some o => wrO C o.op | none => true) fuel (listed.setIfInBounds j true) a' w') a w := by
      intro j o q ho hmem hq hx
      have := gexec_sound hT hM (hd o hmem) hF hx (Q := NoPanic Q) (next := fun a' w' => ((match all[j]? with | some o => wrO C o.op | none => true) = false → Same w w') ∧
          wpAnyX P all (NoPanic Q) (fun j => match all[j]? with | some o => wrO C o.op | none => true) fuel (listed.setIfInBounds j true) a' w')
        (fun e' s' nx' g' a' w' hF' hs hx' => ⟨fun hw => hs (by simpa [ho] using hw), ih q _ hq e' s' nx' g' a' w' hF' hx'⟩)
      unfold Upon at this
      unfold wpOp
      simp only [ho] at this ⊢
      exact this
    cases p with
    | done =>
      rw [planOk] at hok
      have hr : Region.ready .any all listed = [] := by simpa using hok
      exact ⟨fun _ => hK e s nx g a w hF hx, by rw [hr]; simp⟩
    | no => simp [planOk] at hok
    | take i p =>
      rw [planOk] at hok
      simp only [Bool.and_eq_true] at hok
      obtain ⟨⟨⟨h1, h2⟩, h3⟩, h4⟩ := hok
      simp only [pex] at hx
      split at hx
      case h_2 => exact hx.elim
      rename_i o ho
      rw [nth_eq] at ho
      have ho' : all[i]? = some o := by simpa using ho
      have hmem : o ∈ all.toList := List.mem_of_getElem? ho
      rw [ho'] at h1
      obtain ⟨y, e', hy, hF', hx'⟩ := gexec_take hT h1 (hd o hmem) hF hx
      obtain ⟨f1, f2⟩ := freeX_spec ho' h3
      refine anyX_first (D := fun j => (waits all i).contains j) ho' (Region.noSelect_spec hsel) (fun c a w h => h.elim) fuel listed a w (fun j oj hj hne hun hno => ?_) f2 (by simpa using h2) hy (ih p _ h4 _ _ _ _ _ _ hF' hx')
      simp only [hj]
      exact f1 j oj hj hne hun hno
    | one i p =>
      rw [planOk] at hok
      simp only [Bool.and_eq_true] at hok
      obtain ⟨⟨h1, h2⟩, h3⟩ := hok
      simp only [pex] at hx
      split at hx
      case h_2 => exact hx.elim
      rename_i o ho
      rw [nth_eq] at ho
      have ho' : all[i]? = some o := by simpa using ho
      have hmem : o ∈ all.toList := List.mem_of_getElem? ho
      refine ⟨fun h0 => by simp [h0] at h2, fun j hj => ?_⟩
      have hji : j = i := by simpa using List.all_eq_true.1 h1 j hj
      subst hji
      exact step j o p ho' hmem h3 hx
    | eff i p r =>
      have hok' := hok
      rw [planOk] at hok
      simp only [Bool.and_eq_true] at hok
      obtain ⟨⟨⟨h1, h2⟩, h3⟩, h4⟩ := hok
      have halts := alts_spec (Plan.eff i p r) true hok' hx
      refine ⟨fun h0 => by simp [h0] at h2, fun j hj => ?_⟩
      have hja : j ∈ (Plan.eff i p r).alts := by
        have := List.all_eq_true.1 h1 j hj
        simpa using this
      obtain ⟨o, q, ho, hq, hx⟩ := halts j hja
      have hmem : o ∈ all.toList := List.mem_of_getElem? (i := j) (by simpa using ho)
      exact step j o q ho hmem hq hx
end
end Am
