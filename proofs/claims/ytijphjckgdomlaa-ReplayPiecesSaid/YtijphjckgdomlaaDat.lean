/-
  Sessions, events and states, as cells.
-/
import Derived.Test.YtijphjckgdomlaaAm23
import Derived.Test.YtijphjckgdomlaaTab
import Derived.Test.YtijphjckgdomlaaSp
set_option linter.all false
namespace Am
open Go

abbrev i64 (n : Int) : CV := .v (.int .i64 n)
abbrev u64 (n : Int) : CV := .v (.int .u64 n)
abbrev str (s : ByteArray) : CV := .v (.string s)
abbrev Sess.cells (s : Sess) : List CV := [i64 s.slot, i64 s.birth, i64 s.upslot, i64 s.upbirth, i64 s.kind, str s.user, str s.label, u64 s.scopes, i64 s.level, i64 s.born, i64 s.deadline, i64 s.depth]
abbrev Ev.cells (e : Ev) : List CV := i64 e.kind :: (e.s.cells ++ [i64 e.birth, i64 e.ticks])
/-- A row of sessions. -/
abbrev sess (g : Nat → Sess) : Nat → List CV := fun i => (g i).cells
abbrev evs' (g : Nat → Ev) : Nat → List CV := fun i => (g i).cells

theorem ncast (n : Nat) : @NatCast.natCast Int instNatCastInt n = @Nat.cast Int instNatCastInt n := rfl
theorem ocast (n : Nat) : Int.ofNat n = @Nat.cast Int instNatCastInt n := rfl
theorem ltn {a b : Nat} (h : Nat.ble (a + 1) b = true) : a < b := Nat.le_of_ble_eq_true h
theorem wrap64 {n : Int} (h1 : -9223372036854775808 ≤ n) (h2 : n < 9223372036854775808) : IntKind.i64.wrap n = n := by
  have e1 : (2 : Int) ^ 64 = 18446744073709551616 := by decide
  have e2 : (2 : Int) ^ (64 - 1) = 9223372036854775808 := by decide
  simp only [IntKind.wrap, IntKind.bits, IntKind.signed, e1, e2, Bool.true_and, decide_eq_true_eq]
  by_cases h : n % 18446744073709551616 ≥ 9223372036854775808
  · rw [if_pos h]; omega
  · rw [if_neg h]; omega
theorem wrapU64 {n : Int} (h1 : 0 ≤ n) (h2 : n < 18446744073709551616) : IntKind.u64.wrap n = n := by
  have e1 : (2 : Int) ^ 64 = 18446744073709551616 := by decide
  simp only [IntKind.wrap, IntKind.bits, IntKind.signed, e1, Bool.false_and, Bool.false_eq_true, if_false]
  omega
theorem wrapU8 {n : Int} (h1 : 0 ≤ n) (h2 : n < 256) : IntKind.u8.wrap n = n := by
  have e1 : (2 : Int) ^ 8 = 256 := by decide
  simp only [IntKind.wrap, IntKind.bits, IntKind.signed, e1, Bool.false_and, Bool.false_eq_true, if_false]
  omega
theorem wrapS {k n : Nat} (h : k < n) (hn : n < 4611686018427387904) : IntKind.i64.wrap ((k : Int) + 1) = ((k + 1 : Nat) : Int) := by
  rw [wrap64] <;> omega

theorem safe_none {v : AV} : safeS false v [] := ⟨by simp, by simp [look]⟩
theorem safe_flat {v : AV} (h : flatV v = true) : safeS true v [] := ⟨fun _ => h, by simp [look]⟩
/-- What is handed back: a Bool, a number; no memory. -/
abbrev RetB (p : Bool) (v : AV) (s : Sto) (nx : Nat) : Prop := ∃ r, r = p ∧ v = .c (.lit r) ∧ s = [] ∧ nx = 0
abbrev RetI (k : IntKind) (n : Int) (v : AV) (s : Sto) (nx : Nat) : Prop := ∃ r, r = n ∧ v = .c (.v (.int k r)) ∧ s = [] ∧ nx = 0
/-- A Bool is a Bool that is known. -/
theorem said_bool {P : Program} {K : AV → Sto → Nat → Prop} {b : Bool} {s : Sto} {nx : Nat} (h : K (.c (.lit b)) [] 0) : Said P K (.c (.v (.bool b))) s nx :=
  ⟨.c (.lit b), [], 0, h, weak_of ⟨[], [], []⟩ ⟨⟨by simp [look, ckV, ckC], trivial⟩, trivial, trivial, by simp⟩⟩

/-- What an error is: its number; 0: none. -/
abbrev RetE (e : Int) (v : AV) (s : Sto) (nx : Nat) : Prop := ∃ x, ((e = 0 ∧ x = .v .nilIface) ∨ (e ≠ 0 ∧ x = .if1 62 (i64 e))) ∧ v = .c x ∧ s = [] ∧ nx = 0
/-- A row of sessions. -/
def IsS (l : List Sess) (n : Nat) (f : Nat → List CV) : Prop := n = l.length ∧ ∀ i, i < n → f i = (l.getD i .zero).cells
theorem IsS.mk (l : List Sess) : ∃ n f, IsS l n f := ⟨_, _, rfl, fun _ _ => rfl⟩
theorem IsS.at_ {l : List Sess} {n : Nat} {f : Nat → List CV} (h : IsS l n f) {k : Nat} (hk : k < n) : ∃ x, l[k]? = some x ∧ f k = x.cells := by
  have hk' : k < l.length := by rw [← h.1]; exact hk
  exact ⟨l[k], List.getElem?_eq_getElem hk', by rw [h.2 k hk]; simp [List.getD_eq_getElem?_getD, hk']⟩

theorem TriS.args {P : Program} {f : FuncId} {vs vs' : List AV} {K : AV → Sto → Nat → Prop} (h : TriS P f vs' [] 0 K) (hck : ckVs ⟨[], [], []⟩ [] vs vs') : TriS P f vs [] 0 K := by
  intro g w xs hR hA
  obtain ⟨e1, e2⟩ := ckVs_at hck
  have hfz : ∀ b o, (g.say ⟨[], [], []⟩ []).fz b o ↔ g.fz b o := fun b o => by
    constructor
    · rintro (h | ⟨id, ob, h, _⟩)
      · exact h
      · simp [mem] at h
    · exact .inl
  have hR' : Rel P (g.say ⟨[], [], []⟩ []) 0 [] w := ⟨fun _ _ h => by simp [look] at h, fun _ _ h => by simp [look] at h, fun _ _ _ _ h => by simp [look] at h, fun b o ⟨_, _, h, _⟩ => by simp [look] at h, fun b o h => hR.fzlt b o ((hfz b o).1 h)⟩
  have hA' : Args (g.say ⟨[], [], []⟩ []) 0 w vs' xs := ⟨by rw [← e1]; exact hA.len, fun i v x hv hx => by
    have hi : i < vs.length := by rw [e1]; exact (List.getElem?_eq_some_iff.1 hv).1
    exact say_v (st := ⟨[], [], 0⟩) (st' := ⟨[], [], 0⟩) hR (fun _ _ h => by simp [look] at h) (by simp) (hA.at_ i vs[i] x (List.getElem?_eq_getElem hi) hx) (e2 i _ v (List.getElem?_eq_getElem hi) hv)⟩
  have fin : ∀ {y w'}, Fin P (g.say ⟨[], [], []⟩ []) 0 [] w K y w' → Fin P g 0 [] w K y w' := by
    rintro y w' ⟨v, g', nx', s', hK, h1, h2, h3, h4, h5⟩
    refine ⟨v, g', nx', s', hK, h1, h2, ⟨h3.size, fun b hb _ => h3.blk b hb (fun ⟨_, _, h, _⟩ => by simp [look] at h), h3.os, h3.tape, h3.output, fun id hid => absurd hid (Nat.not_lt_zero _), fun b o h => h3.fz b o ((hfz b o).2 h), fun b o h => ?_⟩, fun b hb => ?_, h5⟩
    · rcases h3.fzn b o h with h | ⟨_, _, h, _⟩ | h
      · exact .inl ((hfz b o).1 h)
      · simp [look] at h
      · exact .inr (.inr h)
    · rcases h4 b hb with ⟨_, _, h, _⟩ | h
      · simp [look] at h
      · exact .inr h
  rcases h _ w xs hR' hA' with ⟨y, w', h1, h2⟩ | ⟨h1, h2⟩
  · exact .inl ⟨y, w', fin h1, h2⟩
  · exact .inr ⟨h1, Calls.mono h2 fun e w' ⟨y, he, hF⟩ => ⟨y, he, fin hF⟩⟩
end Am
