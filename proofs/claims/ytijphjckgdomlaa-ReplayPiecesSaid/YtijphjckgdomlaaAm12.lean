/-
  Operations that make or turn own objects.
-/
import Derived.Test.YtijphjckgdomlaaAm11
import Derived.Deep.AppendSrc
import Derived.Great.BuildSlice
set_option linter.all false
namespace Am
open Go

/-- Own blocks are the old own ones and new ones. -/
def Ow (g : Gh) (s : Sto) (w : World) (g' : Gh) (s' : Sto) : Prop := ∀ b, own g' s' b → own g s b ∨ w.heap.size ≤ b

/-- The operation's outcome: value, ghosts, store, world. -/
def Does (m : Bool) (P : Program) (g : Gh) (nx : Nat) (s : Sto) (w : World) (K : AV → Sto → Nat → Prop) (S : Sem Next) : Prop :=
  ∃ v y g' nx' s' w', K v s' nx' ∧ nx ≤ nx' ∧ Rel P g' nx' s' w' ∧ Stp (own g s) nx g w g' w' ∧ Ow g s w g' s' ∧ VRel g' nx' w' v y ∧
    (S.run P w = .ok (.value y) w' ∨ (y = undef ∧ S.run P w = .ok .skip w')) ∧ (m = false → Same w w')

def Gh.add (g : Gh) (nx b k : Nat) (n : Bool) : Gh := ⟨fun i => if i = nx then b else g.β i, fun i => if i = nx then k else g.κ i, fun i => if i = nx then n else g.nl i, g.fz⟩

theorem Does.le {m : Bool} {P : Program} {g : Gh} {nx : Nat} {s : Sto} {w : World} {K : AV → Sto → Nat → Prop} {S : Sem Next} (h : Does false P g nx s w K S) : Does m P g nx s w K S :=
  let ⟨v, y, g', nx', s', w', h1, h2, h3, h4, h5, h6, h7, h8⟩ := h
  ⟨v, y, g', nx', s', w', h1, h2, h3, h4, h5, h6, h7, fun _ => h8 rfl⟩
theorem same_alloc (w : World) (o : Go.Obj) : Same w (w.alloc o) := fun b hb => by
  show (w.heap.push o)[b]? = _
  rw [Array.getElem?_push_lt hb, Array.getElem?_eq_getElem hb]

section
variable {P : Program} {T : Tab} {g g' : Gh} {nx nx' : Nat} {w w' : World} {s : Sto} {e : Env} {a : Act}
variable {tri : FuncId → List AV → Sto → Nat → (AV → Sto → Nat → Prop) → Prop} {weak : St → St → Prop} {K : AV → Sto → Nat → Prop}

theorem out_sat {p : PO} : (p.out s nx).sat K → p.sat (fun v => K v s nx) := by
  induction p with
  | ok v => exact id
  | need q o ih => exact fun h => ⟨h.1, ih h.2⟩
  | any q o ih => exact fun h b hb => ih b (h b hb)
  | br b x y ih1 ih2 => exact fun h => ⟨fun hb => ih1 (h.1 hb), fun hb => ih2 (h.2 hb)⟩
  | stuck => exact id

/-- An object comes or turns, the others stay. -/
theorem Rel.put (hR : Rel P g nx s w) (hK : Keeps nx g w g' w') (hn : nx ≤ nx') (hfz : g'.fz = g.fz) (hsz : w.heap.size ≤ w'.heap.size) {s' : Sto} {k : Nat} {o' : Obj}
    (hs : ∀ id o, look id s' = some o → (id = k ∧ o = o') ∨ (id ≠ k ∧ look id s = some o ∧ (phys g id o = true → w'.heap[g.β id]? = w.heap[g.β id]?)))
    (hk : k < nx') (ho : ORel P g' nx' w' k o')
    (hb : ∀ id o, id ≠ k → look id s' = some o → phys g id o = true → phys g' k o' = true → g.β id ≠ g'.β k)
    (hf : phys g' k o' = true → ∀ q, ¬ g.fz (g'.β k) q) : Rel P g' nx' s' w' := by
  have old : ∀ id o, id ≠ k → look id s' = some o → look id s = some o := fun id o hne h => by
    rcases hs id o h with ⟨h1, _⟩ | ⟨_, h1, _⟩
    · exact absurd h1 hne
    · exact h1
  have ph : ∀ id o, id ≠ k → look id s' = some o → phys g' id o = phys g id o ∧ g'.β id = g.β id := fun id o hne h => by
    have := hK.bet id (hR.lt _ _ (old id o hne h))
    exact ⟨phys_bet this.2.2 o, this.1⟩
  have new : ∀ o, look k s' = some o → o = o' := fun o h => by
    rcases hs k o h with ⟨_, h1⟩ | ⟨h1, _⟩
    · exact h1
    · exact absurd rfl h1
  refine ⟨fun id o h => ?_, fun id o h => ?_, fun id id' o o2 h h' hp hp' he => ?_, fun b q ⟨id, o, h, hp, hbe⟩ hq => ?_, fun b q hq => ?_⟩
  · rcases hs id o h with ⟨rfl, rfl⟩ | ⟨hne, h1, h2⟩
    · exact ho
    · exact (hR.obj id o h1).keeps hK hn (hR.lt id o h1) h2
  · rcases hs id o h with ⟨rfl, rfl⟩ | ⟨hne, h1, h2⟩
    · exact hk
    · exact Nat.lt_of_lt_of_le (hR.lt id o h1) hn
  · by_cases h1 : id = k
    · by_cases h2 : id' = k
      · rw [h1, h2]
      · subst h1
        rw [(ph id' o2 h2 h').1] at hp'
        rw [(ph id' o2 h2 h').2] at he
        rw [new o h] at hp
        exact absurd he.symm (hb id' o2 h2 h' hp' hp)
    · by_cases h2 : id' = k
      · subst h2
        rw [(ph id o h1 h).1] at hp
        rw [(ph id o h1 h).2] at he
        rw [new o2 h'] at hp'
        exact absurd he (hb id o h1 h hp hp')
      · rw [(ph id o h1 h).1] at hp
        rw [(ph id' o2 h2 h').1] at hp'
        rw [(ph id o h1 h).2, (ph id' o2 h2 h').2] at he
        exact hR.inj id id' o o2 (old id o h1 h) (old id' o2 h2 h') hp hp' he
  · rw [hfz] at hq
    by_cases h1 : id = k
    · subst h1
      rw [new o h] at hp
      rw [← hbe] at hq
      exact hf hp q hq
    · rw [(ph id o h1 h).1] at hp
      rw [(ph id o h1 h).2] at hbe
      exact hR.nofz b q ⟨id, o, old id o h1 h, hp, hbe⟩ hq
  · rw [hfz] at hq
    exact Nat.lt_of_lt_of_le (hR.fzlt b q hq) hsz

theorem stp_add {O : Nat → Prop} (b k : Nat) (n : Bool) (hsz : w.heap.size ≤ w'.heap.size) (hblk : ∀ b, b < w.heap.size → ¬ O b → w'.heap[b]? = w.heap[b]?)
    (hos : w'.os = w.os) (ht : w'.tape = w.tape) (ho : w'.output = w.output) : Stp O nx g w (g.add nx b k n) w' :=
  ⟨hsz, hblk, hos, ht, ho, fun id hid => by
    have hne : ¬ id = nx := Nat.ne_of_lt hid
    simp [Gh.add, hne], fun _ _ h => h, fun _ _ h => .inl h⟩
theorem stp_same {O : Nat → Prop} (hsz : w.heap.size ≤ w'.heap.size) (hblk : ∀ b, b < w.heap.size → ¬ O b → w'.heap[b]? = w.heap[b]?)
    (hos : w'.os = w.os) (ht : w'.tape = w.tape) (ho : w'.output = w.output) : Stp O nx g w g w' :=
  ⟨hsz, hblk, hos, ht, ho, fun _ _ => ⟨rfl, rfl, rfl⟩, fun _ _ h => h, fun _ _ h => .inl h⟩

theorem phys_lt (hR : Rel P g nx s w) {id : Nat} {o : Obj} (h : look id s = some o) (hp : phys g id o = true) : g.β id < w.heap.size := by
  cases hR.obj id o h with
  | box cs ys T hb h => exact (Array.getElem?_eq_some_iff.1 hb).1
  | arrnil e sz f hn => simp [phys, hn] at hp
  | arr e sz n f ys hn hb => exact (Array.getElem?_eq_some_iff.1 hb).1
  | map k u ag dom val es clock hb h => exact (Array.getElem?_eq_some_iff.1 hb).1
  | sit b pos hb => exact (Array.getElem?_eq_some_iff.1 hb).1

/-- A new object in a new block. -/
theorem Rel.fresh (hR : Rel P g nx s w) (k : Nat) {o : Obj} {b : Go.Obj} (hh : w'.heap = w.heap.push b) (hos : w'.os = w.os) (ht : w'.tape = w.tape) (hou : w'.output = w.output)
    (ho : Keeps nx g w (g.add nx w.heap.size k false) w' → ORel P (g.add nx w.heap.size k false) (nx + 1) w' nx o) :
    Rel P (g.add nx w.heap.size k false) (nx + 1) ((nx, o) :: s) w' ∧ Stp (own g s) nx g w (g.add nx w.heap.size k false) w' ∧ Ow g s w (g.add nx w.heap.size k false) ((nx, o) :: s) := by
  have hold : ∀ b, b < w.heap.size → w'.heap[b]? = w.heap[b]? := fun b hb => by rw [hh, Array.getElem?_push_lt hb, Array.getElem?_eq_getElem hb]
  have hsz : w.heap.size ≤ w'.heap.size := by rw [hh]; simp
  have hst : Stp (own g s) nx g w (g.add nx w.heap.size k false) w' := stp_add _ _ _ hsz (fun b hb _ => hold b hb) hos ht hou
  have hK := hst.keeps hR (fun _ h => h)
  have e1 : (g.add nx w.heap.size k false).β nx = w.heap.size := by simp [Gh.add]
  refine ⟨hR.put hK (Nat.le_succ _) rfl hsz (k := nx) (o' := o) (fun id o2 h => ?_) (Nat.lt_succ_self _) (ho hK) (fun id o2 hne h hp _ => ?_) (fun _ q hq => ?_), hst, fun b ⟨id, o2, h1, h2, h3⟩ => ?_⟩
  · rw [look_cons] at h
    by_cases h1 : id = nx
    · rw [if_pos h1] at h; injection h with h; exact .inl ⟨h1, h.symm⟩
    · rw [if_neg h1] at h; exact .inr ⟨h1, h, fun hp => hold _ (phys_lt hR h hp)⟩
  · rw [look_cons, if_neg hne] at h
    rw [e1]
    have := phys_lt hR h hp
    omega
  · rw [e1] at hq
    exact absurd (hR.fzlt _ _ hq) (Nat.lt_irrefl _)
  · rw [look_cons] at h1
    by_cases hid : id = nx
    · subst hid
      rw [e1] at h3
      exact .inr (Nat.le_of_eq h3)
    · rw [if_neg hid] at h1
      have hlt := hR.lt id o2 h1
      have := hst.bet id hlt
      rw [phys_bet this.2.2] at h2
      rw [this.1] at h3
      exact .inl ⟨id, o2, h1, h2, h3⟩

theorem vptr_new (k : Nat) : VRel (g.add nx w.heap.size k false) (nx + 1) w' (.c (.ptr nx 0)) (.pointer (some ⟨w.heap.size, 0, none⟩)) := by
  have : CRel (g.add nx w.heap.size k false) (nx + 1) w' (.ptr nx 0) (.pointer (some ⟨(g.add nx w.heap.size k false).β nx, 0, none⟩)) := .ptr nx 0 (Nat.lt_succ_self _)
  have e1 : (g.add nx w.heap.size k false).β nx = w.heap.size := by simp [Gh.add]
  rw [e1] at this
  exact .c _ _ this

theorem box_new (hR : Rel P g nx s w) {z : AV} {y : Value} {cs : List CV} (hz : VRel g nx w z y) (hc : cellsOf z = some cs) (t : Nat) (h : K (.c (.ptr nx 0)) ((nx, .box cs) :: s) (nx + 1)) {S : Sem Next}
    (hS : S.run P w = .ok (.value (.pointer (some ⟨w.heap.size, 0, none⟩))) (w.alloc (.cells y.cells t))) : Does false P g nx s w K S := by
  have hp := vcells hz hc
  obtain ⟨h1, h2, h3⟩ := hR.fresh 0 (w' := w.alloc (.cells y.cells t)) (o := .box cs) rfl rfl rfl rfl (fun hK =>
    .box cs y.cells.toList t (by simp only [Gh.add, if_true]; rw [heap_alloc_new]) (hp.imp fun _ _ h => h.keeps hK (Nat.le_succ _)))
  exact ⟨_, _, _, _, _, _, h, Nat.le_succ _, h1, h2, h3, vptr_new 0, .inl hS, fun _ => same_alloc _ _⟩

theorem alloc_sound (hT : TabOk P T) (hR : Rel P g nx s w) {t : Nat} (h : (aop (real tri weak) T (.alloc t) e s nx).sat K) :
    Does false P g nx s w K (do pure (.value (← Instr.alloc t true (.tuple #[])))) := by
  simp only [aop] at h
  split at h
  case h_2 => exact h.elim
  rename_i ti hl
  split at h
  case h_2 => exact h.elim
  rename_i z hz
  split at h
  case h_2 => exact h.elim
  rename_i cs hc
  exact box_new hR (ofV_rel hz) hc t h (by simp [Instr.alloc, (hT t ti hl).zero, newVar, newRow])

theorem box_sound (hR : Rel P g nx s w) (hE : EnvRel g nx w e a.tmps) {t : Nat} {x : Operand} (h : (aop (real tri weak) T (.box t x) e s nx).sat K) :
    Does false P g nx s w K (do pure (.value (← Instr.box t (a.eval x)))) := by
  simp only [aop] at h
  split at h
  case h_2 => exact h.elim
  rename_i z hz
  split at h
  case h_2 => exact h.elim
  rename_i cs hc
  exact box_new hR (ev_rel hE hz) hc t h (by simp [Instr.box, newVar, newRow])

/-! ### what is stored into own objects -/
theorem look_put_old {k : Nat} {o' : Obj} {id : Nat} {o : Obj} (h : look id (ins k o' s) = some o) : (id = k ∧ o = o') ∨ (id ≠ k ∧ look id s = some o) := by
  rw [look_ins] at h
  by_cases h1 : id = k
  · rw [if_pos h1] at h; injection h with h; exact .inl ⟨h1, h.symm⟩
  · rw [if_neg h1] at h; exact .inr ⟨h1, h⟩

/-- An own object turns in its block. -/
theorem Rel.turn (hR : Rel P g nx s w) {k : Nat} {o o' : Obj} (hl : look k s = some o) (hp : phys g k o = true) (_ : phys g k o' = true) (hsz : w'.heap.size = w.heap.size)
    (hold : ∀ b, b ≠ g.β k → w'.heap[b]? = w.heap[b]?) (hos : w'.os = w.os) (ht : w'.tape = w.tape) (hou : w'.output = w.output) (ho : Keeps nx g w g w' → ORel P g nx w' k o') :
    Rel P g nx (ins k o' s) w' ∧ Stp (own g s) nx g w g w' ∧ Ow g s w g (ins k o' s) := by
  have hst : Stp (own g s) nx g w g w' := stp_same (Nat.le_of_eq hsz.symm) (fun b _ hn => hold b (fun e => hn ⟨k, o, hl, hp, e.symm⟩)) hos ht hou
  have hK := hst.keeps hR (fun _ h => h)
  refine ⟨hR.put hK (Nat.le_refl _) rfl (Nat.le_of_eq hsz.symm) (k := k) (o' := o') (fun id o2 h => ?_) (hR.lt k o hl) (ho hK) (fun id o2 hne h hp2 _ he => ?_) (fun _ q hq => ?_), hst, fun b ⟨id, o2, h1, h2, h3⟩ => ?_⟩
  · rcases look_put_old h with h1 | ⟨h1, h2⟩
    · exact .inl h1
    · exact .inr ⟨h1, h2, fun hp2 => hold _ (fun he => h1 (hR.inj id k o2 o h2 hl hp2 hp he))⟩
  · rcases look_put_old h with ⟨h1, _⟩ | ⟨_, h2⟩
    · exact hne h1
    · exact hne (hR.inj id k o2 o h2 hl hp2 hp he)
  · exact hR.nofz _ q ⟨k, o, hl, hp, rfl⟩ hq
  · rcases look_put_old h1 with ⟨e, _⟩ | ⟨_, h4⟩
    · subst e; exact .inl ⟨_, o, hl, hp, h3⟩
    · exact .inl ⟨id, o2, h4, h2, h3⟩

theorem setRow_size (w : World) (b : Nat) (cs : Array Value) : (w.setRow b cs).heap.size = w.heap.size := by simp [World.setRow]

theorem run_storeAt {t b o : Nat} {ti : TI} (hT : TabOk P T) (hl : look t T = some ti) {y : Value} (hy : y.cells.size = ti.size) {ys : List Value} {u : Nat} (hb : w.heap[b]? = some (.cells ys.toArray u (0, 0)))
    (hfit : o + y.cells.size ≤ ys.length) (h1 : ∀ v ∈ y.cells.toList, v.oneCell' = true) :
    (Instr.storeAt t (.pointer (some ⟨b, o, none⟩)) y).run P w = .ok () (w.setRow b (ys.take o ++ y.cells.toList ++ ys.drop (o + y.cells.size)).toArray) := by
  have := run_storeCells_at P b o u y.cells.toList 0 ys.toArray w hb (by simpa using hfit) h1
  simp only [Nat.add_zero] at this
  simp only [Instr.storeAt, Instr.sureAddr, Sem.run_bind, Sem.run_pure, Result.andThen_ok, storeVar, (hT t ti hl).size, hy]
  simp [this, hy]

theorem seg_get {ys zs : List Value} {o : Nat} (h : o + zs.length ≤ ys.length) (j : Nat) : (ys.take o ++ zs ++ ys.drop (o + zs.length))[j]? = if o ≤ j ∧ j < o + zs.length then zs[j - o]? else ys[j]? := by
  rw [List.append_assoc, List.getElem?_append]
  have e1 : (ys.take o).length = o := by simp; omega
  rw [e1]
  by_cases h1 : j < o
  · rw [if_pos h1, if_neg (by omega), List.getElem?_take, if_pos h1]
  · rw [if_neg h1, List.getElem?_append]
    by_cases h2 : j - o < zs.length
    · rw [if_pos h2, if_pos (by omega)]
    · rw [if_neg h2, if_neg (by omega), List.getElem?_drop]
      congr 1
      omega

theorem undef_rel : VRel g nx w .un undef := .un

theorem store_sound (hT : TabOk P T) (hR : Rel P g nx s w) (hE : EnvRel g nx w e a.tmps) {t : Nat} {x y : Operand} (h : (aop (real tri weak) T (.store t x y) e s nx).sat K) :
    Does true P g nx s w K (do Instr.storeAt t (a.eval x) (a.eval y); pure .skip) := by
  simp only [aop] at h
  split at h
  · rename_i id off v ti hx hv hl
    obtain ⟨hy, hid⟩ := vptr (ev_rel hE hx)
    split at h
    case h_2 => exact h.elim
    rename_i cs xs hlk hc
    split at h
    case isFalse => exact h.elim
    rename_i h1
    split at h
    case isFalse => exact h.elim
    rename_i h2
    have hp := vcells (ev_rel hE hv) hc
    cases hR.obj id _ hlk with
    | box _ ys u hb hpw =>
      have hs1 : (a.eval y).cells.size = xs.length := by simpa using hp.len.symm
      have hs2 : off + (a.eval y).cells.size ≤ ys.length := by rw [hs1, ← hpw.len]; exact h2
      have hone : ∀ v ∈ (a.eval y).cells.toList, v.oneCell' = true := pw_one hp
      have hrun := run_storeAt hT hl (y := a.eval y) (by rw [hs1]; exact h1) hb hs2 hone
      obtain ⟨zs, hzs⟩ : ∃ zs, zs = ys.take off ++ (a.eval y).cells.toList ++ ys.drop (off + (a.eval y).cells.size) := ⟨_, rfl⟩
      rw [← hzs] at hrun
      have hzp : Pw (CRel g nx w) (setAll cs off xs) zs := Pw.setAll hpw hp (off := off) h2 (by rw [hzs]; simp; omega) (fun j => by
        have := seg_get (ys := ys) (zs := (a.eval y).cells.toList) (o := off) (by simpa using hs2) j
        rw [Array.length_toList] at this ⊢
        rw [hzs]
        exact this)
      obtain ⟨r1, r2, r3⟩ := hR.turn (w' := w.setRow (g.β id) zs.toArray) hlk (o' := .box (setAll cs off xs)) rfl rfl (setRow_size _ _ _) (fun b hb => setRow_other w _ b _ hb) rfl rfl rfl (fun hK =>
        .box _ zs u (setRow_heap w _ _ _ _ _ hb) (hzp.imp fun _ _ h => h.keeps hK (Nat.le_refl _)))
      refine ⟨_, _, _, _, _, _, h, Nat.le_refl _, r1, r2, r3, undef_rel, .inr ⟨rfl, ?_⟩, fun h => by cases h⟩
      rw [hy]
      simp [hrun]
  · rename_i id z i off v ti hx hv hl
    obtain ⟨hy, hid, hnl⟩ := verp (ev_rel hE hx)
    split at h
    case h_2 => exact h.elim
    rename_i u sz n f xs hlk hc
    split at h
    case h_2 => exact h.elim
    rename_i hz
    have hz := eqt hz
    subst hz
    split at h
    case isFalse => exact h.elim
    rename_i h1
    split at h
    case isFalse => exact h.elim
    rename_i h2
    obtain ⟨⟨_, hi⟩, h⟩ := h
    have hi : i < n := Int.ofNat_lt.mp hi
    have hp := vcells (ev_rel hE hv) hc
    cases hR.obj id _ hlk with
    | arrnil _ _ _ hn => rw [hn] at hnl; cases hnl
    | arr _ _ _ _ ys hn hb hk hm hsz hlen hcr hone1 =>
      have hs1 : (a.eval y).cells.size = xs.length := by simpa using hp.len.symm
      have hle : i * z + z ≤ ys.length := by
        rw [hsz, ← Nat.succ_mul]
        exact Nat.mul_le_mul_right _ (by omega)
      have hs2 : i * z + off + (a.eval y).cells.size ≤ ys.length := by omega
      have hone : ∀ v ∈ (a.eval y).cells.toList, v.oneCell' = true := pw_one hp
      have hrun := run_storeAt hT hl (y := a.eval y) (by rw [hs1]; exact h1) hb hs2 hone
      have hph : phys g id (.arr u z n f) = true := by simp [phys, hnl]
      obtain ⟨zs, hzs⟩ : ∃ zs, zs = ys.take (i * z + off) ++ (a.eval y).cells.toList ++ ys.drop (i * z + off + (a.eval y).cells.size) := ⟨_, rfl⟩
      rw [← hzs] at hrun
      obtain ⟨r1, r2, r3⟩ := hR.turn (w' := w.setRow (g.β id) zs.toArray) hlk (o' := .arr u z n (fun j => if j = i then setAll (f i) off xs else f j)) hph (by simp [phys, hnl]) (setRow_size _ _ _) (fun b hb => setRow_other w _ b _ hb) rfl rfl rfl (fun hK => by
        refine .arr u z n _ zs hn (setRow_heap w _ _ _ _ _ hb) hk hm ?_ ?_ ?_ ?_
        · rw [← hsz, hzs]; simp; omega
        · intro j hj
          by_cases hji : j = i
          · subst hji; simp [setAll_length, hlen j hj]
          · simp [hji, hlen j hj]
        · intro j q c v hj hc' hv'
          have hget := seg_get (ys := ys) (zs := (a.eval y).cells.toList) (o := i * z + off) (by simpa using hs2) (j * z + q)
          rw [Array.length_toList] at hget
          rw [hzs, hget] at hv'
          refine CRel.keeps hK (Nat.le_refl _) ?_
          by_cases hji : j = i
          · subst hji
            simp only [if_true] at hc'
            rw [setAll_get xs (f j) off q (by rw [hlen j hj]; exact h2)] at hc'
            split at hc'
            · rename_i hq
              rw [if_pos (by omega)] at hv'
              rw [show j * z + q - (j * z + off) = q - off by omega] at hv'
              exact hp.at_ _ _ _ hc' hv'
            · rename_i hq
              rw [if_neg (by omega)] at hv'
              exact hcr j q c v hj hc' hv'
          · rw [if_neg hji] at hc'
            have hql : q < z := by have := (List.getElem?_eq_some_iff.1 hc').1; rw [hlen j hj] at this; exact this
            have hout : ¬ (i * z + off ≤ j * z + q ∧ j * z + q < i * z + off + (a.eval y).cells.size) := by
              rcases Nat.lt_or_gt_of_ne hji with hlt | hgt
              · have := Nat.mul_le_mul_right z (show j + 1 ≤ i by omega)
                rw [Nat.succ_mul] at this
                omega
              · have := Nat.mul_le_mul_right z (show i + 1 ≤ j by omega)
                rw [Nat.succ_mul] at this
                omega
            rw [if_neg hout] at hv'
            exact hcr j q c v hj hc' hv'
        · intro v hv'
          simp only [hzs, List.mem_append] at hv'
          rcases hv' with (hv' | hv') | hv'
          · exact hone1 v (List.mem_of_mem_take hv')
          · exact hone v hv'
          · exact hone1 v (List.mem_of_mem_drop hv'))
      refine ⟨_, _, _, _, _, _, h, Nat.le_refl _, r1, r2, r3, undef_rel, .inr ⟨rfl, ?_⟩, fun h => by cases h⟩
      rw [hy]
      simp [hrun]
  · exact h.elim
end
end Am
