/-
  Operators, conversions, lengths: what the evaluator says, the run does.
-/
import Derived.Test.YtijphjckgdomlaaAm6
set_option linter.all false
namespace Am
open Go

section
variable {P : Program} {T : Tab} {g : Gh} {nx : Nat} {w : World} {s : Sto} {e : Env} {a : Act}
variable {tri : FuncId → List AV → Sto → Nat → (AV → Sto → Nat → Prop) → Prop} {weak : St → St → Prop} {K : AV → Prop}

/-- '==' or '!=' as the run has them. -/
def cmpOp (neg : Bool) : BinOp := if neg then .neq else .eql
theorem notP_real (neg b : Bool) : notP (real tri weak) neg b = (b != neg) := by cases neg <;> cases b <;> rfl

theorem guard_ok {op : BinOp} {t : Nat} {x y : Operand} {u v : Value} (w' : World) (h1 : u = .nilIface → v = .nilIface → (isCst x || isCst y) = true) (h2 : ∀ c, u ≠ .agg c) : (eqGuard op t x y u v).run P w' = .ok () w' := by
  by_cases hu : u = .nilIface
  · subst hu
    by_cases hv : v = .nilIface
    · subst hv
      have h := h1 rfl rfl
      cases op <;> first | (simp [eqGuard]; done) | (cases x <;> cases y <;> simp [isCst] at h <;> simp [eqGuard])
    · cases v <;> first | exact absurd rfl hv | (cases op <;> simp [eqGuard])
  · cases u <;> first | exact absurd rfl hu | exact absurd rfl (h2 _) | (cases op <;> simp [eqGuard])

theorem eq_other {neg : Bool} {t : Nat} {u v : Value} {b : Bool} {w' : World} (h : (Op.equalIn 10000 t u v).run P w' = .ok b w') (hu : ∀ k n, u ≠ .int k n) (hs : ∀ z, u ≠ .string z) (hf : ∀ k n, u ≠ .float k n) (hc : ∀ k m n, u ≠ .complex k m n) :
    (binOp (cmpOp neg) t u v).run P w' = .ok (.bool (b != neg)) w' := by
  have h' : (Op.equal t u v).run P w' = .ok b w' := h
  cases neg
  · show (binOp .eql t u v).run P w' = _
    cases u <;> first | exact absurd rfl (hu _ _) | exact absurd rfl (hs _) | exact absurd rfl (hf _ _) | exact absurd rfl (hc _ _ _) | (cases v <;> simp [binOp, h'])
  · show (binOp .neq t u v).run P w' = _
    cases u <;> first | exact absurd rfl (hu _ _) | exact absurd rfl (hs _) | exact absurd rfl (hf _ _) | exact absurd rfl (hc _ _ _) | (cases v <;> cases b <;> simp [binOp, h'])

theorem kind_td (hT : TabOk P T) {t : Nat} (hne : kindOf T t ≠ .other) : TDok P t (kindOf T t) := by
  obtain ⟨ti, hl, he⟩ := kindOf_some rfl hne
  rw [← he]
  exact (hT t ti hl).td

/-- Neither a number nor a text nor several cells. -/
def plainV : Value → Bool
  | .int _ _ | .string _ | .float _ _ | .complex _ _ _ | .agg _ | .tuple _ => false
  | _ => true

theorem eq_plain {neg : Bool} {t : Nat} {u v : Value} {b : Bool} {w' : World} (h : (Op.equalIn 10000 t u v).run P w' = .ok b w') (hp : plainV u = true) :
    (binOp (cmpOp neg) t u v).run P w' = .ok (.bool (b != neg)) w' :=
  eq_other h (fun k n e => by subst e; simp [plainV] at hp) (fun z e => by subst e; simp [plainV] at hp) (fun k n e => by subst e; simp [plainV] at hp) (fun k m n e => by subst e; simp [plainV] at hp)

/-- What a value is that is nil (true), or isn't (false). -/
def NilV (td : TD) (b : Bool) (y : Value) : Prop := match td with
  | .iface _ => if b then y = .nilIface else ∃ t v, y = .iface t v
  | .ptr _ => if b then y = .pointer none else ∃ p, y = .pointer (some p)
  | .map _ _ => if b then y = .map none else ∃ r, y = .map (some r)
  | .func => if b then y = .nilFunc else ∃ f p q, y = .func f p q
  | .slice _ => if b then y = .slice none 0 0 else False
  | _ => False

theorem crel_if1 {t : TypeId} {x : CV} {y : Value} (h : CRel g nx w (.if1 t x) y) : ∃ v, y = .iface t v := by
  cases h with
  | d _ _ h => cases h; exact ⟨_, rfl⟩
  | if1 _ _ v _ => exact ⟨v, rfl⟩
theorem crel_ifa {t : TypeId} {x : List CV} {y : Value} (h : CRel g nx w (.ifa t x) y) : ∃ v, y = .iface t v := by
  cases h with
  | d _ _ h => cases h; exact ⟨_, rfl⟩
theorem crel_clo {f : FuncId} {x : List CV} {y : Value} (h : CRel g nx w (.clo f x) y) : ∃ ys : List Value, y = .func (.func f) #[] ys.toArray ∧ Pw (CRel g nx w) x ys := by
  cases h with
  | d _ _ h => cases h
  | clo _ _ ys hl h => exact ⟨ys, rfl, ⟨hl, h⟩⟩

theorem nilOf_val {td : TD} {c : CV} {y : Value} {b : Bool} (h : nilOf td c = some b) (hy : CRel g nx w c y) : NilV td b y := by
  cases td <;> simp only [nilOf] at h <;> (first | (cases h; done) | skip)
  case slice => split at h <;> simp at h <;> subst h; simpa [NilV] using cv hy
  case map => split at h <;> simp at h <;> subst h; simpa [NilV] using cv hy; obtain ⟨h1, _⟩ := vmp (.c _ _ hy); simpa [NilV] using ⟨_, h1⟩
  case ptr =>
    split at h <;> simp at h <;> subst h
    · simpa [NilV] using cv hy
    · obtain ⟨h1, _⟩ := vptr (.c _ _ hy); simpa [NilV] using ⟨_, h1⟩
    · obtain ⟨b, o, v, h1, _⟩ := velp (.c _ _ hy); simpa [NilV] using ⟨_, h1⟩
    · obtain ⟨h1, _⟩ := verp (.c _ _ hy); simpa [NilV] using ⟨_, h1⟩
  case iface =>
    split at h <;> simp at h <;> subst h
    · simpa [NilV] using cv hy
    · obtain ⟨v, h1⟩ := crel_if1 hy; simpa [NilV] using ⟨_, _, h1⟩
    · obtain ⟨v, h1⟩ := crel_ifa hy; simpa [NilV] using ⟨_, _, h1⟩
  case func =>
    split at h <;> simp at h <;> subst h
    · simpa [NilV] using cv hy
    · obtain ⟨v, h1, _⟩ := crel_clo hy; simpa [NilV] using ⟨_, _, _, h1⟩

theorem nil_plain {td : TD} {b : Bool} {y : Value} (h : NilV td b y) : plainV y = true := by
  cases td <;> cases b <;> simp [NilV] at h
  all_goals first
    | (subst h; rfl)
    | (obtain ⟨_, _, _, rfl⟩ := h; rfl)
    | (obtain ⟨_, _, rfl⟩ := h; rfl)
    | (obtain ⟨_, rfl⟩ := h; rfl)

/-- Two values of which one is nil for sure. -/
theorem nil_eq {t : Nat} {td : TD} (htd : TDok P t td) {x y : Value} {b c : Bool} (hp : NilV td b x) (hq : NilV td c y) (ho : b = true ∨ c = true) (d : Nat) (w' : World) :
    (Op.equalIn (d + 1) t x y).run P w' = .ok (b && c) w' := by
  cases td <;> simp only [NilV] at hp hq
  case iface =>
    obtain ⟨ms, hm, _⟩ := htd
    cases b <;> cases c <;> simp at hp hq ho
    · obtain ⟨_, _, rfl⟩ := hp; subst hq; simp [Op.equalIn, run_underlying hm]
    · obtain ⟨_, _, rfl⟩ := hq; subst hp; simp [Op.equalIn, run_underlying hm]
    · subst hp; subst hq; simp [Op.equalIn, run_underlying hm]
  case ptr =>
    cases b <;> cases c <;> simp at hp hq ho
    · obtain ⟨_, rfl⟩ := hp; subst hq; simp [Op.equalIn, run_underlying htd]
    · obtain ⟨_, rfl⟩ := hq; subst hp; simp [Op.equalIn, run_underlying htd]
    · subst hp; subst hq; simp [Op.equalIn, run_underlying htd]
  case map =>
    cases b <;> cases c <;> simp at hp hq ho
    · obtain ⟨_, rfl⟩ := hp; subst hq; simp [Op.equalIn, run_underlying htd]
    · obtain ⟨_, rfl⟩ := hq; subst hp; simp [Op.equalIn, run_underlying htd]
    · subst hp; subst hq; simp [Op.equalIn, run_underlying htd]
  case func =>
    obtain ⟨p, q, r, hm⟩ := htd
    cases b <;> cases c <;> simp at hp hq ho
    · obtain ⟨_, _, _, rfl⟩ := hp; subst hq; simp [Op.equalIn, run_underlying hm]
    · obtain ⟨_, _, _, rfl⟩ := hq; subst hp; simp [Op.equalIn, run_underlying hm]
    · subst hp; subst hq; simp [Op.equalIn, run_underlying hm]
  case slice =>
    cases b <;> cases c <;> simp at hp hq ho
    subst hp; subst hq; simp [Op.equalIn, run_underlying htd]

/-- A slice of which it isn't known whether it is nil. -/
theorem slLen_val {c : CV} {y : Value} {n : Nat} (h : slLen c = some n) (hy : CRel g nx w c y) : ∃ A cap, y = .slice A n cap ∧ (A = none → n = 0) := by
  unfold slLen at h
  split at h
  · injection h with h
    subst h
    rcases vsl (.c _ _ hy) with ⟨h1, h2, _⟩ | ⟨b, o, cap, vals, h1, _⟩
    · exact ⟨_, _, by rw [h1, h2], fun _ => h2⟩
    · exact ⟨_, _, h1, fun h => by cases h⟩
  · injection h with h
    subst h
    obtain ⟨A, h1⟩ := vz (.c _ _ hy)
    exact ⟨A, 0, h1, fun _ => rfl⟩
  · injection h with h
    subst h
    obtain ⟨_, ⟨h1, _, h2, _⟩ | ⟨cap, h1, _⟩⟩ := vref (.c _ _ hy)
    · exact ⟨_, _, by rw [h1, h2], fun _ => h2⟩
    · exact ⟨_, _, h1, fun h => by cases h⟩
  · cases h

/-- '==', '!='. -/
theorem eqP_sound (hT : TabOk P T) {neg : Bool} {t : Nat} {x y : Operand} {u v : AV} {p q : Value} (hu : VRel g nx w u p) (hv : VRel g nx w v q)
    (h : (eqP (real tri weak) T (isCst x || isCst y) neg t u v).sat K) :
    ∃ r z, K r ∧ VRel g nx w r z ∧ ∀ w', (do eqGuard (cmpOp neg) t x y p q; binOp (cmpOp neg) t p q : Sem Value).run P w' = .ok z w' := by
  unfold eqP at h
  split at h
  · -- several cells
    rename_i xs ys
    obtain ⟨us, rfl, hus⟩ := vagg hu
    obtain ⟨vs, rfl, hvs⟩ := vagg hv
    split at h
    case h_2 => exact h.elim
    rename_i fs hk
    cases hb : eqT (real tri weak) T 9 t xs ys with
    | none => simp [hb, PO.sat] at h
    | some b =>
      simp only [hb] at h
      obtain ⟨ti, hl, hs⟩ := kindOf_some hk (by simp)
      obtain ⟨ar, ha, he, hc⟩ := TDok.struct (hT t ti hl) hs
      have h1 := eqT_sound hT 9 t xs ys us vs b ti 10000 (by omega) hl hb hus hvs
      rw [hs] at h1
      simp only [vl] at h1
      refine ⟨_, _, h, vbool _, fun w' => ?_⟩
      rw [notP_real]
      have hg : (eqGuard (cmpOp neg) t x y (.agg us.toArray) (.agg vs.toArray)).run P w' = .ok () w' := run_eqGuard_agg w' _ t x y _ _ (hc rfl).1
      simp only [Sem.run_bind, hg, Result.andThen_ok]
      cases neg
      · show (binOp .eql t _ _).run P w' = _
        rw [run_eql_struct, h1 w']
        simp
      · show (binOp .neq t _ _).run P w' = _
        rw [run_neq_struct, h1 w']
        cases b <;> simp
  · rename_i k m j n
    have e1 := vv hu
    have e2 := vv hv
    subst e1
    subst e2
    split at h
    · rename_i hk
      subst hk
      refine ⟨_, _, h, vbool _, fun w' => ?_⟩
      have hg : (eqGuard (cmpOp neg) t x y (.int k m) (.int k n)).run P w' = .ok () w' := guard_ok w' (by simp) (by simp)
      simp only [Sem.run_bind, hg, Result.andThen_ok, notP_real]
      cases neg <;> simp [cmpOp, binOp, Op.intCmp, real, bne]
    · exact h.elim
  · rename_i m n
    have e1 := vv hu
    have e2 := vv hv
    subst e1
    subst e2
    refine ⟨_, _, h, vbool _, fun w' => ?_⟩
    have hg : (eqGuard (cmpOp neg) t x y (.string m) (.string n)).run P w' = .ok () w' := guard_ok w' (by simp) (by simp)
    simp only [Sem.run_bind, hg, Result.andThen_ok, notP_real]
    cases neg <;> simp [cmpOp, binOp, Op.stringOp, real]
  · rename_i c d hn1 hn2
    cases hu with | c _ _ hu =>
    cases hv with | c _ _ hv =>
    have hg : ∀ w' : World, plainV p = true → (p = .nilIface → q = .nilIface → (isCst x || isCst y) = true) → (eqGuard (cmpOp neg) t x y p q).run P w' = .ok () w' :=
      fun w' hp h1 => guard_ok w' h1 (fun c e => by subst e; simp [plainV] at hp)
    split at h
    · rename_i b hb
      have hne : kindOf T t ≠ .other := by intro hk; rw [hk] at hb; simp [eqc] at hb
      have h1 := fun w' => eqc_sound (kind_td hT hne) hb hu hv 9999 w'
      refine ⟨_, _, h, vbool _, fun w' => ?_⟩
      have hpl : plainV p = true := by
        unfold eqc at hb
        split at hb
        · split at hb
          · exact (hn1 _ _ _ _ rfl rfl).elim
          · cases hb
        · split at hb
          · exact (hn2 _ _ rfl rfl).elim
          · cases hb
        · split at hb
          · rw [clit hu]; rfl
          · rw [cv hu]; rfl
          · rw [clit hu]; rfl
          · rw [cv hu]; rfl
          · cases hb
        · cases hb
      have hni : p ≠ .nilIface := by
        rintro rfl
        unfold eqc at hb
        split at hb
        · split at hb
          · have := cv hu; cases this
          · cases hb
        · split at hb
          · have := cv hu; cases this
          · cases hb
        · split at hb
          · have := clit hu; cases this
          · have := cv hu; cases this
          · have := clit hu; cases this
          · have := cv hu; cases this
          · cases hb
        · cases hb
      simp only [Sem.run_bind, hg w' hpl (fun e => absurd e hni), Result.andThen_ok, notP_real]
      exact eq_plain (h1 w') hpl
    · split at h
      · rename_i hp hq
        have hne : kindOf T t ≠ .other := by intro hk; rw [hk] at hp; simp [nilOf] at hp
        have np := nilOf_val hp hu
        have nq := nilOf_val hq hv
        have hpl := nil_plain np
        have h1 := fun w' => nil_eq (kind_td hT hne) np nq (.inl rfl) 9999 w'
        split at h
        · exact h.elim
        · rename_i hcase
          refine ⟨_, _, h, vlit' _, fun w' => ?_⟩
          have hcs : p = .nilIface → q = .nilIface → (isCst x || isCst y) = true := by
            intro e1 _
            have hif : isIf (kindOf T t) = true := by
              revert np
              subst e1
              cases kindOf T t <;> simp [NilV, isIf]
            cases hcst : (isCst x || isCst y) with
            | true => rfl
            | false => exact (hcase hif hcst).elim
          simp only [Sem.run_bind, hg w' hpl hcs, Result.andThen_ok]
          rw [eq_plain (h1 w') hpl]
          cases neg <;> rfl
      · rename_i hp hq
        have hne : kindOf T t ≠ .other := by intro hk; rw [hk] at hp; simp [nilOf] at hp
        have np := nilOf_val hp hu
        have nq := nilOf_val hq hv
        have hpl := nil_plain np
        have h1 := fun w' => nil_eq (kind_td hT hne) np nq (.inl rfl) 9999 w'
        refine ⟨_, _, h, vlit' _, fun w' => ?_⟩
        have hcs : p = .nilIface → q = .nilIface → (isCst x || isCst y) = true := by
          intro _ e2
          revert nq
          subst e2
          cases kindOf T t <;> simp [NilV]
        simp only [Sem.run_bind, hg w' hpl hcs, Result.andThen_ok]
        rw [eq_plain (h1 w') hpl]
        cases neg <;> rfl
      · rename_i hp hq
        have hne : kindOf T t ≠ .other := by intro hk; rw [hk] at hp; simp [nilOf] at hp
        have np := nilOf_val hp hu
        have nq := nilOf_val hq hv
        have hpl := nil_plain np
        have h1 := fun w' => nil_eq (kind_td hT hne) np nq (.inr rfl) 9999 w'
        refine ⟨_, _, h, vlit' _, fun w' => ?_⟩
        have hcs : p = .nilIface → q = .nilIface → (isCst x || isCst y) = true := by
          intro e1 _
          revert np
          subst e1
          cases kindOf T t <;> simp [NilV]
        simp only [Sem.run_bind, hg w' hpl hcs, Result.andThen_ok]
        rw [eq_plain (h1 w') hpl]
        cases neg <;> rfl
      · rename_i hp hq
        split at h
        · rename_i n hsl hln
          obtain ⟨A, cap, hy, hA⟩ := slLen_val hln hv
          have np := nilOf_val hp hu
          obtain ⟨u, hk⟩ : ∃ u, kindOf T t = .slice u := by
            revert hsl
            cases kindOf T t <;> simp [isSl]
          have hun := kind_slice hT hk
          rw [hk] at np
          simp only [NilV, if_true] at np
          subst np
          subst hy
          simp only [PO.sat] at h
          have h2 := h A.isNone (by simp only [real]; cases A <;> simp; exact hA rfl)
          refine ⟨_, _, h2, vlit' _, fun w' => ?_⟩
          simp only [Sem.run_bind, hg w' rfl (by simp), Result.andThen_ok]
          refine eq_plain ?_ rfl
          have e : ∀ d, (Op.equalIn (d + 1) t (.slice none 0 0) (.slice A n cap)).run P w' = .ok A.isNone w' := fun d => by
            cases A <;> simp [Op.equalIn, run_underlying hun]
          exact e 9999
        · exact h.elim
      · rename_i hp hq
        split at h
        · rename_i n hsl hln
          obtain ⟨A, cap, hy, hA⟩ := slLen_val hln hu
          have nq := nilOf_val hq hv
          obtain ⟨u, hk⟩ : ∃ u, kindOf T t = .slice u := by
            revert hsl
            cases kindOf T t <;> simp [isSl]
          have hun := kind_slice hT hk
          rw [hk] at nq
          simp only [NilV, if_true] at nq
          subst nq
          subst hy
          simp only [PO.sat] at h
          have h2 := h A.isNone (by simp only [real]; cases A <;> simp; exact hA rfl)
          refine ⟨_, _, h2, vlit' _, fun w' => ?_⟩
          simp only [Sem.run_bind, hg w' rfl (by simp), Result.andThen_ok]
          refine eq_plain ?_ rfl
          have e : ∀ d, (Op.equalIn (d + 1) t (.slice A n cap) (.slice none 0 0)).run P w' = .ok A.isNone w' := fun d => by
            cases A <;> simp [Op.equalIn, run_underlying hun]
          exact e 9999
        · exact h.elim
      · exact h.elim
  · exact h.elim
end
end Am
