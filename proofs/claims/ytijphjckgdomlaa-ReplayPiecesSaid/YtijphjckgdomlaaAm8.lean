/-
  All operations that leave the store alone: what the evaluator says, the run does.
-/
import Derived.Test.YtijphjckgdomlaaAm7
set_option linter.all false
namespace Am
open Go

section
variable {P : Program} {T : Tab} {g : Gh} {nx : Nat} {w : World} {s : Sto} {e : Env} {a : Act}
variable {tri : FuncId → List AV → Sto → Nat → (AV → Sto → Nat → Prop) → Prop} {weak : St → St → Prop} {K : AV → Prop}

theorem binOp_int {op : BinOp} {t : Nat} {k : IntKind} {m n : Int} (h1 : op ≠ .shl) (h2 : op ≠ .shr) : Go.binOp op t (.int k m) (.int k n) = (match op with
    | .add | .sub | .mul => Op.intArith op k m n
    | .quo | .rem => Op.intDiv op k m n
    | .and | .or | .xor | .andNot => Op.intBits op k m n
    | _ => Op.intCmp op m n) := by
  cases op <;> first | exact absurd rfl h1 | exact absurd rfl h2 | simp [Go.binOp]

theorem binP_sound (hT : TabOk P T) {op : BinOp} {t : Nat} {x y : Operand} {u v : AV} {p q : Value} (hu : VRel g nx w u p) (hv : VRel g nx w v q)
    (h : (binP (real tri weak) T (isCst x || isCst y) op t u v).sat K) :
    ∃ r z, K r ∧ VRel g nx w r z ∧ ∀ w', (do eqGuard op t x y p q; Go.binOp op t p q : Sem Value).run P w' = .ok z w' := by
  have guard : ∀ (o : BinOp) (w' : World), o ≠ .eql → o ≠ .neq → (eqGuard o t x y p q).run P w' = .ok () w' := fun o w' h1 h2 => by
    cases o <;> first | exact absurd rfl h1 | exact absurd rfl h2 | simp [eqGuard]
  unfold binP at h
  split at h
  · exact eqP_sound hT (neg := false) hu hv h
  · exact eqP_sound hT (neg := true) hu hv h
  · split at h
    · rename_i k m j n
      have e1 := vv hu
      have e2 := vv hv
      subst e1
      subst e2
      obtain ⟨⟨h0, _⟩, hK⟩ := h
      refine ⟨_, _, hK, vint _ _, fun w' => ?_⟩
      simp only [Sem.run_bind, guard .shl w' (by simp) (by simp), Result.andThen_ok]
      simp [Go.binOp, Op.shift, Int.not_lt.mpr h0, real]
    · exact h.elim
  · split at h
    · rename_i k m j n
      have e1 := vv hu
      have e2 := vv hv
      subst e1
      subst e2
      obtain ⟨⟨h0, _⟩, hK⟩ := h
      refine ⟨_, _, hK, vint _ _, fun w' => ?_⟩
      simp only [Sem.run_bind, guard .shr w' (by simp) (by simp), Result.andThen_ok]
      simp [Go.binOp, Op.shift, Int.not_lt.mpr h0, real]
    · exact h.elim
  · rename_i hn1 hn2 hn3 hn4
    split at h
    · rename_i k m j n
      have e1 := vv hu
      have e2 := vv hv
      subst e1
      subst e2
      split at h
      · rename_i hk
        subst hk
        split at h
        · rename_i hc
          refine ⟨_, _, h, vbool _, fun w' => ?_⟩
          simp only [Sem.run_bind, guard _ w' hn1 hn2, Result.andThen_ok]
          rw [binOp_int hn3 hn4]
          cases op <;> simp [isCmp] at hc <;> simp [Op.intCmp, real]
        · split at h
          · rename_i hc
            refine ⟨_, _, h, vint _ _, fun w' => ?_⟩
            simp only [Sem.run_bind, guard _ w' hn1 hn2, Result.andThen_ok]
            rw [binOp_int hn3 hn4]
            cases op <;> simp [isAri] at hc <;> simp [Op.intArith, Op.intBits, real]
          · split at h
            · rename_i hc
              obtain ⟨hz, hK⟩ := h
              refine ⟨_, _, hK, vint _ _, fun w' => ?_⟩
              simp only [Sem.run_bind, guard _ w' hn1 hn2, Result.andThen_ok]
              rw [binOp_int hn3 hn4]
              have hz : n ≠ 0 := hz
              cases op <;> simp [isDiv] at hc <;> simp [Op.intDiv, real, hz]
            · exact h.elim
      · exact h.elim
    · rename_i m n
      have e1 := vv hu
      have e2 := vv hv
      subst e1
      subst e2
      split at h
      · rename_i hc
        refine ⟨_, _, h, vbool _, fun w' => ?_⟩
        simp only [Sem.run_bind, guard _ w' hn1 hn2, Result.andThen_ok]
        cases op <;> simp [isCmp] at hc <;> simp [Go.binOp, Op.stringOp, real]
      · split at h
        · obtain ⟨hz, hK⟩ := h
          refine ⟨_, _, hK, vstr _, fun w' => ?_⟩
          simp only [Sem.run_bind, guard .add w' (by simp) (by simp), Result.andThen_ok]
          have hz : ((m.size + n.size : Nat) : Int) ≤ IntKind.i64.max := hz
          have : ¬ ((m.size + n.size : Nat) : Int) > IntKind.i64.max := by omega
          simp only [Go.binOp, Op.stringOp, if_neg this]
          rfl
        · exact h.elim
    · exact h.elim

theorem unP_sound {op : UnOp} {u : AV} {p : Value} (hu : VRel g nx w u p) (h : (unP (real tri weak) op u).sat K) :
    ∃ r z, K r ∧ VRel g nx w r z ∧ ∀ w', (Op.unary op p).run P w' = .ok z w' := by
  unfold unP at h
  split at h
  · rw [vlit hu]; exact ⟨_, _, h, vlit' _, fun w' => by simp [Op.unary]⟩
  · rw [vv hu]; exact ⟨_, _, h, vbool _, fun w' => by simp [Op.unary, real]⟩
  · rw [vv hu]; exact ⟨_, _, h, vint _ _, fun w' => by simp [Op.unary, Op.intArith, real]⟩
  · rw [vv hu]; exact ⟨_, _, h, vint _ _, fun w' => by simp [Op.unary, Op.intBits, real]⟩
  · exact h.elim
end
end Am
