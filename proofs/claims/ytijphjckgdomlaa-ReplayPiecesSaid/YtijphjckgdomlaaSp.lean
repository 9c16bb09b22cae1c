/-
  Sessions, events, states; what an event does to a state: the plain law, no program in it.
-/
import Derived.Laws.Strings
set_option linter.all false
namespace Am
open Go

structure Sess where
  slot : Int
  birth : Int
  upslot : Int
  upbirth : Int
  kind : Int
  user : ByteArray
  label : ByteArray
  scopes : Int
  level : Int
  born : Int
  deadline : Int
  depth : Int
structure Ev where
  kind : Int
  s : Sess
  birth : Int
  ticks : Int
structure State where
  clock : Int
  births : Int
  l : List Sess

abbrev nob : ByteArray := ⟨#[]⟩
def Sess.zero : Sess := ⟨0, 0, 0, 0, 0, nob, nob, 0, 0, 0, 0, 0⟩
def State.zero : State := ⟨0, 0, []⟩

theorem toList_inj {a b : ByteArray} (h : a.toList = b.toList) : a = b := by
  rw [ByteArray.toList_eq, ByteArray.toList_eq] at h
  cases a; cases b; simp_all

/-- The sessions that the row's reader sees. -/
def Sess.same (a b : Sess) : Bool :=
  a.slot == b.slot && a.birth == b.birth && a.upslot == b.upslot && a.upbirth == b.upbirth && a.kind == b.kind && a.user.toList == b.user.toList && a.label.toList == b.label.toList && a.scopes == b.scopes && a.level == b.level && a.born == b.born && a.deadline == b.deadline && a.depth == b.depth
theorem Sess.same_iff {a b : Sess} : a.same b = true ↔ a = b := by
  unfold Sess.same
  cases a; cases b
  simp only [Bool.and_eq_true, beq_iff_eq, Sess.mk.injEq]
  constructor
  · rintro ⟨⟨⟨⟨⟨⟨⟨⟨⟨⟨⟨h1, h2⟩, h3⟩, h4⟩, h5⟩, h6⟩, h7⟩, h8⟩, h9⟩, h10⟩, h11⟩, h12⟩
    exact ⟨h1, h2, h3, h4, h5, toList_inj h6, toList_inj h7, h8, h9, h10, h11, h12⟩
  · rintro ⟨h1, h2, h3, h4, h5, h6, h7, h8, h9, h10, h11, h12⟩
    exact ⟨⟨⟨⟨⟨⟨⟨⟨⟨⟨⟨h1, h2⟩, h3⟩, h4⟩, h5⟩, by rw [h6]⟩, by rw [h7]⟩, h8⟩, h9⟩, h10⟩, h11⟩, h12⟩

def isLetter (c : UInt8) : Bool := 97 ≤ c && c ≤ 122
def isRest (c : UInt8) : Bool := isLetter c || (48 ≤ c && c ≤ 57) || c == 45 || c == 95
/-- Is a text a name? -/
def nameOk (s : ByteArray) : Bool := match s.toList with
  | [] => false
  | c :: r => isLetter c && r.all isRest && decide (r.length < 32)
def frm (n lo hi : Int) : Bool := decide (lo ≤ n) && decide (n ≤ hi)
/-- May a session be born? -/
def birthMay (s : Sess) : Bool :=
  frm s.slot 0 31 && frm s.birth 1 1048576 && nameOk s.user && frm s.level 0 2 && frm s.born 0 1099511627776 && frm s.deadline (s.born + 1) 1099511627776 &&
  (if s.kind = 0 then s.upslot == 0 && s.upbirth == 0 && s.label.toList.isEmpty && s.depth == 0
   else (s.kind == 1 || s.kind == 2 && decide (s.deadline - s.born ≤ 300)) && frm s.upslot 0 31 && frm s.upbirth 1 (s.birth - 1) && nameOk s.label && frm s.depth 1 6)
/-- May there be such an event? -/
def evMay (e : Ev) : Bool :=
  if e.kind = 0 then e.birth == 0 && e.ticks == 0 && birthMay e.s
  else if e.kind = 1 then e.s.same .zero && e.ticks == 0 && frm e.birth 1 1048576
  else if e.kind = 2 then e.s.same .zero && e.birth == 0 && frm e.ticks 1 1073741824
  else false

/-- All of a in b: sets of 64 numbers, as numbers. -/
def within (a b : Int) : Bool := (BitVec.ofInt 64 a &&& ~~~(BitVec.ofInt 64 b)) == 0#64

def parentOk (s p : Sess) : Bool :=
  s.depth == p.depth + 1 && s.user.toList == p.user.toList && within s.scopes p.scopes && decide (s.deadline ≤ p.deadline) && (if s.kind = 2 then decide (p.level < s.level) else s.level == p.level)

/-- What refuses a birth: an error's number, 0 for none. -/
def refuse (st : State) (s : Sess) : Int :=
  if s.birth ≠ st.births + 1 then 18
  else if s.born ≠ st.clock then 12
  else if 32 ≤ st.l.length then 19
  else if st.l.any (fun x => x.slot == s.slot) then 9
  else if s.upbirth = 0 then 0
  else match st.l.find? (fun x => x.birth == s.upbirth) with
    | none => 16
    | some p => if p.slot ≠ s.upslot then 16 else if parentOk s p then 0 else 24

/-- Birth numbers of those that go: they go themselves, or what they stem from goes. -/
inductive Gone (p : Sess → Bool) (l : List Sess) : Int → Prop
  | self (s : Sess) (_ : s ∈ l) (_ : p s = true) : Gone p l s.birth
  | up (s : Sess) (_ : s ∈ l) (_ : Gone p l s.upbirth) (_ : s.upbirth ≠ 0) : Gone p l s.birth
def Stays (p : Sess → Bool) (l : List Sess) (s : Sess) : Prop := p s = false ∧ ¬ (Gone p l s.upbirth ∧ s.upbirth ≠ 0)
open Classical in
noncomputable def wo (p : Sess → Bool) (l : List Sess) : List Sess := l.filter fun s => decide (Stays p l s)

/-- The state behind an event; else the number of what refuses it. -/
noncomputable def apply (st : State) (e : Ev) : State × Int :=
  if evMay e = false then (.zero, 1)
  else if e.kind = 0 then (if refuse st e.s = 0 then (⟨st.clock, st.births + 1, st.l ++ [e.s]⟩, 0) else (.zero, refuse st e.s))
  else if e.kind = 1 then (if st.l.any (fun s => s.birth == e.birth) then (⟨st.clock, st.births, wo (fun s => s.birth == e.birth) st.l⟩, 0) else (.zero, 16))
  else if st.clock < 0 ∨ 1099511627776 - e.ticks < st.clock then (.zero, 12)
  else (⟨st.clock + e.ticks, st.births, wo (fun s => decide (s.deadline ≤ st.clock + e.ticks)) st.l⟩, 0)

/-- The state behind some events, up to the first that is refused; how many these are. -/
noncomputable def all : State → List Ev → State × Nat
  | st, [] => (st, 0)
  | st, e :: r => if (apply st e).2 = 0 then ((all (apply st e).1 r).1, (all (apply st e).1 r).2 + 1) else (st, 0)

/-! ### what holds of every state that events make -/
def narrow (s p : Sess) : Prop :=
  within s.scopes p.scopes = true ∧ s.deadline ≤ p.deadline ∧ s.depth = p.depth + 1 ∧ s.user = p.user ∧ ((s.level = p.level ∧ s.kind = 1) ∨ (p.level < s.level ∧ s.kind = 2 ∧ s.deadline ≤ s.born + 300))
/-- A session of a sound state. -/
structure Ok1 (st : State) (s : Sess) : Prop where
  b1 : 1 ≤ s.birth
  b2 : s.birth ≤ st.births
  live : st.clock < s.deadline
  born : s.born ≤ st.clock
  born0 : 0 ≤ s.born
  dl : s.deadline ≤ 1099511627776
  dep : 0 ≤ s.depth ∧ s.depth ≤ 6
  root : s.upbirth = 0 → s.depth = 0 ∧ s.kind = 0
  up : s.upbirth ≠ 0 → s.upbirth < s.birth ∧ ∃ p ∈ st.l, p.birth = s.upbirth ∧ p.slot = s.upslot ∧ narrow s p
structure Sound (st : State) : Prop where
  len : st.l.length ≤ 32
  bts : 0 ≤ st.births ∧ st.births ≤ 1048576
  clk : 0 ≤ st.clock ∧ st.clock ≤ 1099511627776
  inc : st.l.Pairwise fun a b => a.birth < b.birth
  slots : st.l.Pairwise fun a b => a.slot ≠ b.slot
  all : ∀ s ∈ st.l, Ok1 st s

theorem sound_zero : Sound .zero := ⟨by simp [State.zero], by simp [State.zero], by simp [State.zero], .nil, .nil, by simp [State.zero]⟩

theorem wo_sub {p : Sess → Bool} {l : List Sess} : ∀ s ∈ wo p l, s ∈ l := fun _ h => (List.mem_filter.1 h).1
theorem mem_wo {p : Sess → Bool} {l : List Sess} {s : Sess} : s ∈ wo p l ↔ s ∈ l ∧ Stays p l s := by
  unfold wo
  rw [List.mem_filter]
  simp
theorem wo_len {p : Sess → Bool} {l : List Sess} : (wo p l).length ≤ l.length := List.length_filter_le _ _

/-- What stems from one that goes, goes; so parents stay. -/
theorem wo_parent {p : Sess → Bool} {l : List Sess} {s q : Sess} (hs : s ∈ wo p l) (h0 : s.upbirth ≠ 0) (hq : q ∈ l) (hb : q.birth = s.upbirth) : q ∈ wo p l := by
  have hs' := (mem_wo.1 hs).2
  refine mem_wo.2 ⟨hq, ?_, ?_⟩
  · cases h : p q with
    | false => rfl
    | true => exact absurd ⟨hb ▸ Gone.self q hq h, h0⟩ hs'.2
  · rintro ⟨h, h1⟩
    exact hs'.2 ⟨hb ▸ Gone.up q hq h h1, h0⟩

theorem sound_wo {st : State} (h : Sound st) {p : Sess → Bool} {c : Int} (hc : st.clock ≤ c) (hc2 : c ≤ 1099511627776) (hp : ∀ s ∈ st.l, p s = false → c < s.deadline) : Sound ⟨c, st.births, wo p st.l⟩ := by
  refine ⟨Nat.le_trans wo_len h.len, h.bts, ⟨by have := h.clk.1; simp only; omega, hc2⟩, h.inc.sublist List.filter_sublist, h.slots.sublist List.filter_sublist, fun s hs => ?_⟩
  obtain ⟨h1, h2⟩ := mem_wo.1 hs
  obtain ⟨b1, b2, live, born, born0, dl, dep, root, up⟩ := h.all s h1
  refine ⟨b1, b2, hp s h1 h2.1, by simp only; omega, born0, dl, dep, root, fun h0 => ?_⟩
  obtain ⟨u1, q, q1, q2, q3, q4⟩ := up h0
  exact ⟨u1, q, wo_parent hs h0 q1 q2, q2, q3, q4⟩

theorem frm_iff {n lo hi : Int} : frm n lo hi = true ↔ lo ≤ n ∧ n ≤ hi := by simp [frm]

theorem birthMay_facts {s : Sess} (h : birthMay s = true) : (0 ≤ s.slot ∧ s.slot ≤ 31) ∧ (1 ≤ s.birth ∧ s.birth ≤ 1048576) ∧ (0 ≤ s.born ∧ s.born ≤ 1099511627776) ∧ (s.born + 1 ≤ s.deadline ∧ s.deadline ≤ 1099511627776) ∧
    (0 ≤ s.depth ∧ s.depth ≤ 6) ∧ ((s.kind = 0 ∧ s.upbirth = 0 ∧ s.depth = 0) ∨ ((s.kind = 1 ∨ (s.kind = 2 ∧ s.deadline - s.born ≤ 300)) ∧ 1 ≤ s.upbirth ∧ s.upbirth ≤ s.birth - 1)) := by
  unfold birthMay at h
  simp only [Bool.and_eq_true, frm_iff] at h
  obtain ⟨⟨⟨⟨⟨⟨h1, h2⟩, _⟩, _⟩, h5⟩, h6⟩, h7⟩ := h
  refine ⟨h1, h2, h5, h6, ?_⟩
  split at h7
  · rename_i hk
    simp only [Bool.and_eq_true, beq_iff_eq] at h7
    refine ⟨by omega, .inl ⟨hk, h7.1.1.2, h7.2⟩⟩
  · simp only [Bool.and_eq_true, Bool.or_eq_true, beq_iff_eq, frm_iff, decide_eq_true_eq] at h7
    exact ⟨by omega, .inr ⟨h7.1.1.1.1, h7.1.1.2⟩⟩

theorem nameOk_size {s : ByteArray} (h : nameOk s = true) : s.size ≤ 32 := by
  unfold nameOk at h
  rw [ByteArray.toList_eq] at h
  have e : s.size = s.data.toList.length := rfl
  rw [e]
  split at h
  · rename_i hl; rw [hl]; simp
  · rename_i c r hl
    rw [hl]
    simp only [Bool.and_eq_true, decide_eq_true_eq] at h
    simp only [List.length_cons]
    omega
theorem birthMay_names {s : Sess} (h : birthMay s = true) : s.user.size ≤ 32 ∧ s.label.size ≤ 32 ∧ 0 ≤ s.upslot ∧ s.upslot ≤ 31 ∧ 0 ≤ s.upbirth ∧ s.upbirth ≤ 1048576 ∧ 0 ≤ s.kind ∧ s.kind ≤ 2 ∧ 0 ≤ s.level ∧ s.level ≤ 2 := by
  have hf := birthMay_facts h
  unfold birthMay at h
  simp only [Bool.and_eq_true, frm_iff] at h
  obtain ⟨⟨⟨⟨⟨⟨h1, h2⟩, h3⟩, h4⟩, h5⟩, h6⟩, h7⟩ := h
  refine ⟨nameOk_size h3, ?_⟩
  split at h7
  · rename_i hk
    simp only [Bool.and_eq_true, beq_iff_eq, List.isEmpty_iff] at h7
    obtain ⟨⟨⟨a1, a2⟩, a3⟩, a4⟩ := h7
    rw [ByteArray.toList_eq] at a3
    have e : s.label.size = 0 := by
      show s.label.data.toList.length = 0
      rw [a3]; rfl
    omega
  · simp only [Bool.and_eq_true, Bool.or_eq_true, beq_iff_eq, frm_iff, decide_eq_true_eq] at h7
    obtain ⟨⟨⟨⟨a1, a2⟩, a3⟩, a4⟩, a5⟩ := h7
    have := nameOk_size a4
    omega

theorem sound_birth {st : State} (h : Sound st) {s : Sess} (hm : birthMay s = true) (hr : refuse st s = 0) : Sound ⟨st.clock, st.births + 1, st.l ++ [s]⟩ := by
  obtain ⟨m1, m2, m3, m4, m5, m6⟩ := birthMay_facts hm
  unfold refuse at hr
  split at hr; · omega
  rename_i hb
  split at hr; · omega
  rename_i hc
  split at hr; · omega
  rename_i hl
  split at hr; · omega
  rename_i hs
  have hb : s.birth = st.births + 1 := by omega
  have hc : s.born = st.clock := by omega
  have hs : ∀ x ∈ st.l, x.slot ≠ s.slot := fun x hx he => hs (List.any_eq_true.2 ⟨x, hx, by simpa using he⟩)
  refine ⟨by simp; omega, by have := h.bts; simp only; omega, h.clk, ?_, ?_, fun x hx => ?_⟩
  · refine List.pairwise_append.2 ⟨h.inc, by simp, fun a ha b hb' => ?_⟩
    simp only [List.mem_singleton] at hb'
    subst hb'
    have := (h.all a ha).b2
    omega
  · refine List.pairwise_append.2 ⟨h.slots, by simp, fun a ha b hb' => ?_⟩
    simp only [List.mem_singleton] at hb'
    subst hb'
    exact hs a ha
  · rcases List.mem_append.1 hx with hx | hx
    · obtain ⟨b1, b2, live, born, born0, dl, dep, root, up⟩ := h.all x hx
      refine ⟨b1, by simp only; omega, live, born, born0, dl, dep, root, fun h0 => ?_⟩
      obtain ⟨u1, q, q1, q2⟩ := up h0
      exact ⟨u1, q, List.mem_append_left _ q1, q2⟩
    · simp only [List.mem_singleton] at hx
      subst hx
      refine ⟨by omega, by simp only; omega, by simp only; omega, by simp only; omega, by omega, by omega, m5, fun h0 => ?_, fun h0 => ?_⟩
      · rcases m6 with m | m
        · exact ⟨m.2.2, m.1⟩
        · omega
      · have hr : (match st.l.find? (fun y => y.birth == x.upbirth) with | none => (16 : Int) | some p => if p.slot ≠ x.upslot then 16 else if parentOk x p = true then 0 else 24) = 0 := by
          rw [if_neg h0] at hr
          exact hr
        split at hr
        · omega
        rename_i p hp
        split at hr; · omega
        rename_i hps
        split at hr
        case isFalse => omega
        rename_i hpk
        have hpb : p.birth = x.upbirth := by simpa using List.find?_some hp
        simp only [parentOk, Bool.and_eq_true, beq_iff_eq, decide_eq_true_eq] at hpk
        obtain ⟨⟨⟨⟨q1, q2⟩, q3⟩, q4⟩, q5⟩ := hpk
        refine ⟨by omega, p, List.mem_append_left _ (List.mem_of_find?_eq_some hp), hpb, Classical.not_not.1 hps, q3, q4, q1, toList_inj q2, ?_⟩
        rcases m6 with m | ⟨m | m, _⟩
        · omega
        · rw [if_neg (by omega)] at q5
          exact .inl ⟨by simpa using q5, m⟩
        · rw [if_pos m.1] at q5
          exact .inr ⟨by simpa using q5, m.1, by omega⟩

theorem sound_apply {st : State} (h : Sound st) (e : Ev) : Sound (apply st e).1 := by
  unfold apply
  split; · exact sound_zero
  rename_i hm
  split
  · rename_i hk
    split
    · rename_i hr
      refine sound_birth h ?_ hr
      unfold evMay at hm
      rw [if_pos hk] at hm
      simp only [Bool.and_eq_false_iff, not_or, Bool.not_eq_false] at hm
      exact hm.2
    · exact sound_zero
  split
  · split
    · exact sound_wo h (Int.le_refl _) h.clk.2 fun s hs _ => (h.all s hs).live
    · exact sound_zero
  rename_i hk0 hk1
  split; · exact sound_zero
  rename_i hc
  have ht : 1 ≤ e.ticks := by
    unfold evMay at hm
    rw [if_neg hk0, if_neg hk1] at hm
    split at hm
    · simp only [Bool.and_eq_false_iff, not_or, Bool.not_eq_false, frm_iff] at hm
      omega
    · exact absurd rfl hm
  refine sound_wo h (by omega) (by omega) fun _ _ hp => ?_
  simpa using hp
end Am
