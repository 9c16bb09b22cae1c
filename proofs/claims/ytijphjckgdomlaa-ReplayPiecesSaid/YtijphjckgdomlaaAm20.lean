/-
  The table of types, made from the program; the closed functions, hidden.
-/
import Derived.Test.YtijphjckgdomlaaAm19
set_option linter.all false
namespace Am
open Go

def tdOf (P : Program) (t : Nat) : TD := match P.underlying t with
  | some .bool => .bool
  | some (.int k) => .int k
  | some .string => .string
  | some (.struct a) => .struct (a.toList.map fun f => (f.offset, f.type)) (!P.eqGuardType P.depth t && !P.stoodInHeld t && a.toList.all fun f => f.name != "_")
  | some (.array n e) => .array n e
  | some (.slice e) => .slice e
  | some (.map k e) => .map k e
  | some (.pointer e) => .ptr e
  | some (.interface ms) => .iface ms.isEmpty
  | some (.func _ _ _) => .func
  | _ => .other

def isOther : TD → Bool
  | .other => true
  | _ => false

def mkTI (P : Program) (t : Nat) : Option TI := match P.info? t with
  | none => none
  | some i => match i.zero with
    | none => none
    | some z => match z.cells.size == i.size && z.cells.toList.all (·.oneCell') && !isOther (tdOf P t) with
      | true => some ⟨tdOf P t, i.size, i.bytes, z⟩
      | false => none

theorem tdOf_ok (P : Program) (t : Nat) : TDok P t (tdOf P t) := by
  unfold tdOf
  split
  · assumption
  · assumption
  · assumption
  · rename_i a h
    refine ⟨a, h, rfl, fun hc => ?_⟩
    simp only [Bool.and_eq_true, Bool.not_eq_true', List.all_eq_true] at hc
    exact ⟨hc.1.1, hc.1.2, fun f hf => by simpa using hc.2 f hf⟩
  · assumption
  · assumption
  · assumption
  · assumption
  · rename_i ms h; exact ⟨ms, h, rfl⟩
  · rename_i a b c h; exact ⟨a, b, c, h⟩
  · trivial

theorem mkTI_ok {P : Program} {t : Nat} {ti : TI} (h : mkTI P t = some ti) : TIok P t ti := by
  unfold mkTI at h
  split at h
  · cases h
  · rename_i i hi
    split at h
    · cases h
    · rename_i z hz
      split at h
      · rename_i hc
        simp only [Bool.and_eq_true, beq_iff_eq, List.all_eq_true, Bool.not_eq_true'] at hc
        injection h with h
        subst h
        exact ⟨⟨i, hi, rfl, rfl, hz⟩, tdOf_ok P t, fun ho => by have := hc.2; simp only at ho; rw [ho] at this; simp [isOther] at this, hc.1.1, hc.1.2⟩
      · cases h

def mkTab (P : Program) : List Nat → Tab
  | [] => []
  | t :: r => match mkTI P t with
    | some ti => (t, ti) :: mkTab P r
    | none => mkTab P r

theorem mkTab_ok (P : Program) (l : List Nat) : TabOk P (mkTab P l) := by
  induction l with
  | nil => intro t ti h; simp [mkTab, look] at h
  | cons t r ih =>
    intro k ti h
    simp only [mkTab] at h
    split at h
    · rename_i ti' ht
      rw [look_cons] at h
      split at h
      · rename_i hk
        subst hk
        injection h with h
        subst h
        exact mkTI_ok ht
      · exact ih k ti h
    · exact ih k ti h

/-- What the proofs know of the closed functions. -/
structure Facts (A : Ar) : Prop where
  arith : ∀ op k a b, A.ari op k a b = (real A.tri A.weak).ari op k a b
  all : A = real A.tri A.weak
end Am
