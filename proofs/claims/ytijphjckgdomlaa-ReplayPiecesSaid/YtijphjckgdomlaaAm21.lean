/-
  One state of the evaluator said in other words: own objects renumbered, dropped, made rows of data that stay as they are; nil made an empty row.
-/
import Derived.Test.YtijphjckgdomlaaAm20
set_option linter.all false
namespace Am
open Go

/-- How: new numbers with the old ones; new numbers of nil rows; old numbers of what stays as it is from now on. -/
structure Way where
  ren : List (Nat × Nat)
  nils : List Nat
  frz : List Nat

mutual
def ckC (W : Way) (s : Sto) : CV → CV → Prop
  | .ptr id off, .ptr id' off' => look id' W.ren = some id ∧ mem id' W.nils = false ∧ off = off'
  | .ref id sz off n, .ref id' sz' off' n' => look id' W.ren = some id ∧ mem id' W.nils = false ∧ sz = sz' ∧ off = off' ∧ n = n'
  | .ref id sz off n, .sl sz' n' m' f' => mem id W.frz = true ∧ sz = sz' ∧ n = n' ∧ m' = 0 ∧ (match look id s with
    | some (.arr _ z k f) => z = sz ∧ off + n ≤ k ∧ ∀ i, i < n → noIds (f (i + off)) = true ∧ f' i = f (i + off)
    | _ => False)
  | .erp id sz i off, .erp id' sz' i' off' => look id' W.ren = some id ∧ mem id' W.nils = false ∧ sz = sz' ∧ i = i' ∧ off = off'
  | .mp id, .mp id' => look id' W.ren = some id
  | .clo f caps, .clo f' caps' => f = f' ∧ ckCs W s caps caps'
  | .if1 t x, .if1 t' y => t = t' ∧ ckC W s x y
  | .v x, .ref id' _ off n => x = .slice none 0 0 ∧ mem id' W.nils = true ∧ off = 0 ∧ n = 0
  | .v x, .sl _ n m _ => x = .slice none 0 0 ∧ n = 0 ∧ m = 0
  | .v x, .v y => x = y
  | .v x, .lit b => x = .bool b
  | .lit b, .v y => y = .bool b
  | .lit b, .lit c => b = c
  | .sl sz n m f, .sl sz' n' m' f' => sz = sz' ∧ n = n' ∧ m = m' ∧ ∀ i, i < n + m → f' i = f i
  | .z, .z => True
  | .ifa t xs, .ifa t' ys => t = t' ∧ xs = ys
  | .elp xs off, .elp ys off' => xs = ys ∧ off = off'
  | _, _ => False
def ckCs (W : Way) (s : Sto) : List CV → List CV → Prop
  | [], [] => True
  | c :: r, c' :: r' => ckC W s c c' ∧ ckCs W s r r'
  | _, _ => False
end
mutual
def ckV (W : Way) (s : Sto) : AV → AV → Prop
  | .c x, .c y => ckC W s x y
  | .agg xs, .agg ys => ckCs W s xs ys
  | .tup vs, .tup us => ckVs W s vs us
  | .un, .un => True
  | _, _ => False
def ckVs (W : Way) (s : Sto) : List AV → List AV → Prop
  | [], [] => True
  | c :: r, c' :: r' => ckV W s c c' ∧ ckVs W s r r'
  | _, _ => False
end
def ckO (W : Way) (s : Sto) : Obj → Obj → Prop
  | .box cs, .box cs' => ckCs W s cs cs'
  | .arr e sz n f, .arr e' sz' n' f' => e = e' ∧ sz = sz' ∧ n' ≤ n ∧ ∀ i, i < n' → ckCs W s (f i) (f' i)
  | .map k u ag dom val, .map k' u' ag' dom' val' => k = k' ∧ u = u' ∧ ag = ag' ∧ (∀ n, dom' n = dom n) ∧ (∀ n, val' n = val n)
  | .sit b pos, .sit b' pos' => b = b' ∧ pos = pos'
  | _, _ => False
def ckE (W : Way) (st : St) : Env → Prop
  | [] => True
  | (k, v') :: r => (match look k st.env with | some v => ckV W st.sto v v' | none => False) ∧ ckE W st r
def ckS (W : Way) (s : Sto) (nx' : Nat) : Sto → Prop
  | [] => True
  | (id', o') :: r => id' < nx' ∧ (match mem id' W.nils, o' with
      | true, .arr _ _ 0 _ => True
      | true, _ => False
      | false, o' => (match look id' W.ren with
        | some id => (match look id s with | some o => mem id W.frz = false ∧ ckO W s o o' | none => False)
        | none => False)) ∧ ckS W s nx' r
/-- Numbers: none twice, all in reach. -/
def ckN (nx' : Nat) : List (Nat × Nat) → Prop
  | [] => True
  | (id', id) :: r => id' < nx' ∧ (∀ p ∈ r, p.2 ≠ id) ∧ ckN nx' r

structure Ck (W : Way) (st st' : St) : Prop where
  env : ckE W st st'.env
  sto : ckS W st.sto st'.nx st'.sto
  ren : ckN st'.nx W.ren
  nils : ∀ id ∈ W.nils, id < st'.nx

section
variable {P : Program} {W : Way} {g : Gh} {w : World} {st st' : St}

def Gh.say (g : Gh) (W : Way) (s : Sto) : Gh :=
  ⟨fun i => g.β ((look i W.ren).getD 0), fun i => g.κ ((look i W.ren).getD 0), fun i => mem i W.nils || g.nl ((look i W.ren).getD 0),
    fun b o => g.fz b o ∨ ∃ id ob, mem id W.frz = true ∧ look id s = some ob ∧ phys g id ob = true ∧ g.β id = b⟩

theorem mem_iff (k : Nat) : ∀ (l : List Nat), mem k l = true ↔ k ∈ l := by
  intro l
  induction l with
  | nil => simp [mem]
  | cons j r ih =>
    simp only [mem]
    split
    · rename_i h; simp [eqt h]
    · rename_i h; have := nef h; simp [ih]; omega

theorem ckN_lt : ∀ {l : List (Nat × Nat)} {nx' id' id : Nat}, ckN nx' l → look id' l = some id → id' < nx' := by
  intro l
  induction l with
  | nil => intro nx' id' id _ h; simp [look] at h
  | cons p r ih =>
    obtain ⟨a, b⟩ := p
    intro nx' id' id h hl
    rw [look_cons] at hl
    split at hl
    · rename_i he; rw [he]; exact h.1
    · exact ih h.2.2 hl
theorem look_mem {α : Type} : ∀ {l : List (Nat × α)} {k : Nat} {x : α}, look k l = some x → (k, x) ∈ l := by
  intro l
  induction l with
  | nil => intro k x h; simp [look] at h
  | cons p r ih =>
    obtain ⟨a, b⟩ := p
    intro k x h
    rw [look_cons] at h
    split at h
    · rename_i he; injection h with h; subst h; subst he; simp
    · exact List.mem_cons_of_mem _ (ih h)
theorem ckN_inj : ∀ {l : List (Nat × Nat)} {nx' a b id : Nat}, ckN nx' l → look a l = some id → look b l = some id → a = b := by
  intro l
  induction l with
  | nil => intro nx' a b id _ h; simp [look] at h
  | cons p r ih =>
    obtain ⟨x, y⟩ := p
    intro nx' a b id h ha hb
    rw [look_cons] at ha hb
    split at ha
    · rename_i he
      injection ha with ha
      subst ha
      split at hb
      · rename_i he2; rw [he, he2]
      · exact absurd rfl (h.2.1 _ (look_mem hb))
    · split at hb
      · injection hb with hb
        subst hb
        exact absurd rfl (h.2.1 _ (look_mem ha))
      · exact ih h.2.2 ha hb

theorem say_new {id' id : Nat} (h : look id' W.ren = some id) (hn : mem id' W.nils = false) (s : Sto) : (g.say W s).β id' = g.β id ∧ (g.say W s).κ id' = g.κ id ∧ (g.say W s).nl id' = g.nl id := by
  simp [Gh.say, h, hn]

theorem say_d {s : Sto} {c : CV} {y : Value} (h : DRel g.fz w c y) : DRel (g.say W s).fz w c y := h.mono (fun _ _ h => .inl h) (fun _ _ _ => rfl)

theorem ckCs_at {s : Sto} : ∀ {cs cs' : List CV}, ckCs W s cs cs' → cs.length = cs'.length ∧ ∀ (i : Nat) (c c' : CV), cs[i]? = some c → cs'[i]? = some c' → ckC W s c c' := by
  intro cs
  induction cs with
  | nil => intro cs' h; cases cs' with
    | nil => exact ⟨rfl, fun i c c' h => by simp at h⟩
    | cons => exact h.elim
  | cons c r ih =>
    intro cs' h
    cases cs' with
    | nil => exact h.elim
    | cons c' r' =>
      obtain ⟨h1, h2⟩ := ih h.2
      refine ⟨by simp [h1], fun i x x' hx hx' => ?_⟩
      cases i with
      | zero => simp at hx hx'; subst hx; subst hx'; exact h.1
      | succ i => exact h2 i x x' (by simpa using hx) (by simpa using hx')
theorem ckVs_at {s : Sto} : ∀ {cs cs' : List AV}, ckVs W s cs cs' → cs.length = cs'.length ∧ ∀ (i : Nat) (c c' : AV), cs[i]? = some c → cs'[i]? = some c' → ckV W s c c' := by
  intro cs
  induction cs with
  | nil => intro cs' h; cases cs' with
    | nil => exact ⟨rfl, fun i c c' h => by simp at h⟩
    | cons => exact h.elim
  | cons c r ih =>
    intro cs' h
    cases cs' with
    | nil => exact h.elim
    | cons c' r' =>
      obtain ⟨h1, h2⟩ := ih h.2
      refine ⟨by simp [h1], fun i x x' hx hx' => ?_⟩
      cases i with
      | zero => simp at hx hx'; subst hx; subst hx'; exact h.1
      | succ i => exact h2 i x x' (by simpa using hx) (by simpa using hx')

theorem say_c (hR : Rel P g st.nx st.sto w) (hN : ∀ a b, look a W.ren = some b → a < st'.nx) (hL : ∀ id ∈ W.nils, id < st'.nx) {c : CV} {y : Value} (h : CRel g st.nx w c y) : ∀ {c' : CV}, ckC W st.sto c c' → CRel (g.say W st.sto) st'.nx w c' y := by
  induction h with
  | d c y h =>
    intro c' hk
    induction h generalizing c' with
    | v x hx =>
      cases c' <;> simp only [ckC] at hk <;> first | exact hk.elim | skip
      · subst hk; exact .d _ _ (.v _ hx)
      · subst hk; exact .d _ _ (.lit _)
      · obtain ⟨rfl, rfl, rfl⟩ := hk; exact .d _ _ (.nilsl _ _)
      · obtain ⟨rfl, hm, rfl, rfl⟩ := hk
        exact .refnil _ _ (hL _ ((mem_iff _ _).1 hm)) (by simp [Gh.say, hm])
    | lit b =>
      cases c' <;> simp only [ckC] at hk <;> first | exact hk.elim | skip
      · subst hk; exact .d _ _ (.v _ rfl)
      · subst hk; exact .d _ _ (.lit _)
    | z A => cases c' <;> simp only [ckC] at hk <;> first | exact hk.elim | exact .d _ _ (.z A)
    | nilsl sz f =>
      cases c' <;> simp only [ckC] at hk <;> first | exact hk.elim | skip
      obtain ⟨rfl, rfl, rfl, _⟩ := hk
      exact .d _ _ (.nilsl _ _)
    | sl sz n m f b o cap vals hcap hmax hlen hc hf hr ih =>
      cases c' <;> simp only [ckC] at hk <;> first | exact hk.elim | skip
      obtain ⟨rfl, rfl, rfl, he⟩ := hk
      exact .d _ _ (.sl _ _ _ _ b o cap vals hcap hmax (fun i hi => by rw [he i hi]; exact hlen i hi) (fun i j c hi hj => hc i j c hi (by rw [← he i hi]; exact hj))
        (fun i j c hi hj => .inl (hf i j c hi (by rw [← he i hi]; exact hj))) (fun i j c hi hj => say_d (hr i j c hi (by rw [← he i hi]; exact hj))))
    | if1 t c y h ih =>
      cases c' <;> simp only [ckC] at hk <;> first | exact hk.elim | skip
      obtain ⟨rfl, hk⟩ := hk
      exact .if1 _ _ _ (ih hk)
    | ifa t xs ys hl h ih =>
      cases c' <;> simp only [ckC] at hk <;> first | exact hk.elim | skip
      obtain ⟨rfl, rfl⟩ := hk
      exact .d _ _ (say_d (.ifa _ _ _ hl h))
    | elp xs off b o vals hc hf hr ih =>
      cases c' <;> simp only [ckC] at hk <;> first | exact hk.elim | skip
      obtain ⟨rfl, rfl⟩ := hk
      exact .d _ _ (say_d (.elp _ _ b o vals hc hf hr))
  | ptr id off h =>
    intro c' hk
    cases c' <;> simp only [ckC] at hk <;> first | exact hk.elim | skip
    obtain ⟨h1, h2, rfl⟩ := hk
    rename_i id'
    have := CRel.ptr (g := g.say W st.sto) (nx := st'.nx) (w := w) id' off (hN _ _ h1)
    rw [(say_new h1 h2 st.sto).1] at this
    exact this
  | refnil id sz h hn =>
    intro c' hk
    cases c' <;> simp only [ckC] at hk <;> first | exact hk.elim | skip
    · obtain ⟨_, rfl, rfl, rfl, _⟩ := hk
      exact .d _ _ (.nilsl _ _)
    · obtain ⟨h1, h2, rfl, rfl, rfl⟩ := hk
      exact .refnil _ _ (hN _ _ h1) (by rw [(say_new h1 h2 st.sto).2.2]; exact hn)
  | ref id sz off len cap h hn hc hle =>
    intro c' hk
    cases c' <;> simp only [ckC] at hk <;> first | exact hk.elim | skip
    · obtain ⟨hz, rfl, rfl, rfl, hm⟩ := hk
      rename_i f'
      split at hm
      case h_2 => exact hm.elim
      rename_i u z k f hlk
      obtain ⟨rfl, hk, hno⟩ := hm
      cases hR.obj id _ hlk with
      | arrnil _ _ _ hn' => rw [hn'] at hn; cases hn
      | arr _ _ _ _ ys hn' hb hkk hm hsz hlen hcr hone =>
        have get : ∀ i j c, i < k → (f i)[j]? = some c → ys[i * z + j]? = some (ys[i * z + j]?.getD undef) := fun i j c hi hj => by
          have hjl : j < z := by have := (List.getElem?_eq_some_iff.1 hj).1; rw [hlen i hi] at this; exact this
          have hlt : i * z + j < ys.length := by
            have := Nat.mul_le_mul_right z (show i + 1 ≤ g.κ id by omega)
            rw [Nat.succ_mul] at this
            omega
          simp [hlt]
        have e : ∀ i j, off * z + (i * z + j) = (i + off) * z + j := fun i j => by rw [Nat.add_mul]; omega
        refine .d _ _ (.sl z len 0 f' (g.β id) (off * z) cap (fun i j => ys[(i + off) * z + j]?.getD undef) (by omega) (by omega) (fun i hi => by rw [(hno i (by omega)).2]; exact hlen _ (by omega)) (fun i j c hi hj => ?_)
          (fun i j c hi hj => .inr ⟨id, _, hz, hlk, by simp [phys, hn], rfl⟩) (fun i j c hi hj => ?_))
        · rw [(hno i (by omega)).2] at hj
          rw [e, cell_of_row w _ _ _ _ _ hb]
          simpa using get (i + off) j c (by omega) hj
        · rw [(hno i (by omega)).2] at hj
          have hi' : i + off < k := by omega
          have hp : Pw (CRel g st.nx w) (f (i + off)) ((ys.drop ((i + off) * z)).take z) := by
            have hle2 : (i + off) * z + z ≤ ys.length := by
              have := Nat.mul_le_mul_right z (show i + off + 1 ≤ g.κ id by omega)
              rw [Nat.succ_mul] at this
              omega
            refine ⟨by rw [hlen _ hi']; simp; omega, fun q c y h1 h2 => ?_⟩
            simp only [List.getElem?_take, List.getElem?_drop] at h2
            split at h2
            · exact hcr _ q c y hi' h1 h2
            · cases h2
          have hd := noIds_d (hno i (by omega)).1 hp
          have hjl : j < z := by have := (List.getElem?_eq_some_iff.1 hj).1; rw [hlen _ hi'] at this; exact this
          exact say_d (hd.at_ j c _ hj (by rw [List.getElem?_take, if_pos hjl, List.getElem?_drop]; exact get (i + off) j c hi' hj))
    · obtain ⟨h1, h2, rfl, rfl, rfl⟩ := hk
      rename_i id'
      have := CRel.ref (g := g.say W st.sto) (nx := st'.nx) (w := w) id' sz off len cap (hN _ _ h1) (by rw [(say_new h1 h2 st.sto).2.2]; exact hn) (by rw [(say_new h1 h2 st.sto).2.1]; exact hc) hle
      rw [(say_new h1 h2 st.sto).1] at this
      exact this
  | erp id sz i off h hn =>
    intro c' hk
    cases c' <;> simp only [ckC] at hk <;> first | exact hk.elim | skip
    obtain ⟨h1, h2, rfl, rfl, rfl⟩ := hk
    rename_i id'
    have := CRel.erp (g := g.say W st.sto) (nx := st'.nx) (w := w) id' sz i off (hN _ _ h1) (by rw [(say_new h1 h2 st.sto).2.2]; exact hn)
    rw [(say_new h1 h2 st.sto).1] at this
    exact this
  | mp id h =>
    intro c' hk
    cases c' <;> simp only [ckC] at hk <;> first | exact hk.elim | skip
    rename_i id'
    have := CRel.mp (g := g.say W st.sto) (nx := st'.nx) (w := w) id' (hN _ _ hk)
    have e : (g.say W st.sto).β id' = g.β id := by simp [Gh.say, hk]
    rw [e] at this
    exact this
  | clo f caps ys hl h ih =>
    intro c' hk
    cases c' <;> simp only [ckC] at hk <;> first | exact hk.elim | skip
    obtain ⟨rfl, hk⟩ := hk
    obtain ⟨e1, e2⟩ := ckCs_at hk
    refine .clo _ _ ys (by rw [← e1, hl]) (fun i c y hc hy => ?_)
    have hi : i < caps.length := by rw [e1]; exact (List.getElem?_eq_some_iff.1 hc).1
    exact ih i caps[i] y (List.getElem?_eq_getElem hi) hy (e2 i _ c (List.getElem?_eq_getElem hi) hc)
  | if1 t c y h ih =>
    intro c' hk
    cases c' <;> simp only [ckC] at hk <;> first | exact hk.elim | skip
    obtain ⟨rfl, hk⟩ := hk
    exact .if1 _ _ _ (ih hk)

theorem say_cs (hR : Rel P g st.nx st.sto w) (hN : ∀ a b, look a W.ren = some b → a < st'.nx) (hL : ∀ id ∈ W.nils, id < st'.nx) {cs cs' : List CV} {ys : List Value} (h : Pw (CRel g st.nx w) cs ys) (hk : ckCs W st.sto cs cs') : Pw (CRel (g.say W st.sto) st'.nx w) cs' ys := by
  obtain ⟨e1, e2⟩ := ckCs_at hk
  refine ⟨by rw [← e1]; exact h.len, fun i c y hc hy => ?_⟩
  have hi : i < cs.length := by rw [e1]; exact (List.getElem?_eq_some_iff.1 hc).1
  exact say_c hR hN hL (h.at_ i cs[i] y (List.getElem?_eq_getElem hi) hy) (e2 i _ c (List.getElem?_eq_getElem hi) hc)

theorem say_v (hR : Rel P g st.nx st.sto w) (hN : ∀ a b, look a W.ren = some b → a < st'.nx) (hL : ∀ id ∈ W.nils, id < st'.nx) {v : AV} {y : Value} (h : VRel g st.nx w v y) : ∀ {v' : AV}, ckV W st.sto v v' → VRel (g.say W st.sto) st'.nx w v' y := by
  induction h with
  | c x y h => intro v' hk; cases v' <;> simp only [ckV] at hk <;> first | exact hk.elim | exact .c _ _ (say_c hR hN hL h hk)
  | agg xs ys h => intro v' hk; cases v' <;> simp only [ckV] at hk <;> first | exact hk.elim | exact .agg _ _ (say_cs hR hN hL h hk)
  | tup vs ys hl h ih =>
    intro v' hk
    cases v' <;> simp only [ckV] at hk <;> first | exact hk.elim | skip
    obtain ⟨e1, e2⟩ := ckVs_at hk
    refine .tup _ ys (by rw [← e1, hl]) (fun i c y hc hy => ?_)
    have hi : i < vs.length := by rw [e1]; exact (List.getElem?_eq_some_iff.1 hc).1
    exact ih i vs[i] y (List.getElem?_eq_getElem hi) hy (e2 i _ c (List.getElem?_eq_getElem hi) hc)
  | un => intro v' hk; cases v' <;> simp only [ckV] at hk <;> first | exact hk.elim | exact .un

theorem ckE_at : ∀ {e : Env}, ckE W st e → ∀ k v', look k e = some v' → ∃ v, look k st.env = some v ∧ ckV W st.sto v v' := by
  intro e
  induction e with
  | nil => intro _ k v' h; simp [look] at h
  | cons p r ih =>
    obtain ⟨j, u⟩ := p
    intro h k v' hl
    rw [look_cons] at hl
    split at hl
    · rename_i hkj
      subst hkj
      injection hl with hl
      subst hl
      have h1 := h.1
      split at h1
      · rename_i v hv; exact ⟨v, hv, h1⟩
      · exact h1.elim
    · exact ih h.2 k v' hl

theorem ckS_at {s : Sto} {nx' : Nat} : ∀ {s' : Sto}, ckS W s nx' s' → ∀ id' o', look id' s' = some o' → id' < nx' ∧
    ((mem id' W.nils = true ∧ ∃ e sz f, o' = .arr e sz 0 f) ∨ (mem id' W.nils = false ∧ ∃ id o, look id' W.ren = some id ∧ look id s = some o ∧ mem id W.frz = false ∧ ckO W s o o')) := by
  intro s'
  induction s' with
  | nil => intro _ id' o' h; simp [look] at h
  | cons p r ih =>
    obtain ⟨j, u⟩ := p
    intro h id' o' hl
    rw [look_cons] at hl
    split at hl
    · rename_i hkj
      subst hkj
      injection hl with hl
      subst hl
      refine ⟨h.1, ?_⟩
      have h1 := h.2.1
      split at h1
      · rename_i hm; exact .inl ⟨hm, _, _, _, rfl⟩
      · exact h1.elim
      · rename_i hm
        split at h1
        case h_2 => exact h1.elim
        rename_i id hid
        split at h1
        case h_2 => exact h1.elim
        rename_i o ho
        exact .inr ⟨hm, id, o, hid, ho, h1.1, h1.2⟩
    · exact ih h.2.2 id' o' hl

theorem say_o (hR : Rel P g st.nx st.sto w) (hN : ∀ a b, look a W.ren = some b → a < st'.nx) (hL : ∀ id ∈ W.nils, id < st'.nx) {id id' : Nat} {o o' : Obj} (h : ORel P g st.nx w id o) (hi : look id' W.ren = some id) (hm : mem id' W.nils = false) (hk : ckO W st.sto o o') : ORel P (g.say W st.sto) st'.nx w id' o' := by
  obtain ⟨e1, e2, e3⟩ := say_new (g := g) hi hm st.sto
  cases h with
  | box cs ys T hb hp =>
    cases o' <;> simp only [ckO] at hk <;> first | exact hk.elim | skip
    exact .box _ ys T (by rw [e1]; exact hb) (say_cs hR hN hL hp hk)
  | arrnil e sz f hn =>
    cases o' <;> simp only [ckO] at hk <;> first | exact hk.elim | skip
    rename_i e' sz' n' f'
    obtain ⟨_, _, hn', _⟩ := hk
    obtain rfl : n' = 0 := by omega
    exact .arrnil _ _ _ (by rw [e3]; exact hn)
  | arr e sz n f ys hn hb hkk hmx hsz hlen hcr hone =>
    cases o' <;> simp only [ckO] at hk <;> first | exact hk.elim | skip
    rename_i e' sz' n' f'
    obtain ⟨rfl, rfl, hn', hcs⟩ := hk
    refine .arr e sz n' f' ys (by rw [e3]; exact hn) (by rw [e1]; exact hb) (by rw [e2]; omega) (by rw [e2]; exact hmx) (by rw [e2]; exact hsz) (fun i hi => ?_) (fun i j c y hi hc hy => ?_) hone
    · rw [← (ckCs_at (hcs i hi)).1]; exact hlen i (by omega)
    · obtain ⟨q1, q2⟩ := ckCs_at (hcs i hi)
      have hj : j < (f i).length := by rw [q1]; exact (List.getElem?_eq_some_iff.1 hc).1
      exact say_c hR hN hL (hcr i j _ y (by omega) (List.getElem?_eq_getElem hj) hy) (q2 j _ c (List.getElem?_eq_getElem hj) hc)
  | map k u ag dom val es clock hb hM =>
    cases o' <;> simp only [ckO] at hk <;> first | exact hk.elim | skip
    rename_i k' u' ag' dom' val'
    obtain ⟨rfl, rfl, rfl, h1, h2⟩ := hk
    have e4 : dom' = dom := funext h1
    have e5 : val' = val := funext h2
    subst e4
    subst e5
    exact .map _ _ _ _ _ es clock (by rw [e1]; exact hb) (hM.mono (fun _ _ h => .inl h) (fun _ _ _ => rfl))
  | sit b pos hb =>
    cases o' <;> simp only [ckO] at hk <;> first | exact hk.elim | skip
    obtain ⟨rfl, rfl⟩ := hk
    exact .sit _ _ (by rw [e1]; exact hb)

theorem phys_ck {s : Sto} {id id' : Nat} {o o' : Obj} (hi : look id' W.ren = some id) (hm : mem id' W.nils = false) (hk : ckO W s o o') : phys (g.say W s) id' o' = phys g id o := by
  obtain ⟨e1, e2, e3⟩ := say_new (g := g) hi hm s
  cases o <;> cases o' <;> simp only [ckO] at hk <;> first | exact hk.elim | simp [phys, e3]

/-- THE LAW. -/
theorem weak_of (W : Way) (h : Ck W st st') : WeakS P 0 st st' := by
  intro g w t hE hR _
  have obj : ∀ id' o', look id' st'.sto = some o' → phys (g.say W st.sto) id' o' = true → ∃ id o, look id' W.ren = some id ∧ look id st.sto = some o ∧ mem id W.frz = false ∧ phys g id o = true ∧ (g.say W st.sto).β id' = g.β id := by
    intro id' o' hl hp
    obtain ⟨_, ⟨hm, e, sz, f, rfl⟩ | ⟨hm, id, o, h1, h2, h3, h4⟩⟩ := ckS_at h.sto id' o' hl
    · simp [phys, Gh.say, hm] at hp
    · rw [phys_ck h1 hm h4] at hp
      exact ⟨id, o, h1, h2, h3, hp, (say_new h1 hm st.sto).1⟩
  have own' : ∀ b, own (g.say W st.sto) st'.sto b → own g st.sto b := fun b ⟨id', o', hl, hp, hb⟩ => by
    obtain ⟨id, o, _, h2, _, h4, h5⟩ := obj id' o' hl hp
    exact ⟨id, o, h2, h4, by rw [← h5]; exact hb⟩
  refine ⟨g.say W st.sto, fun k v' hk => ?_, ⟨fun id' o' hl => ?_, fun id' o' hl => (ckS_at h.sto id' o' hl).1, fun id' id2' o o2 hl hl2 hp hp2 he => ?_, fun b q ⟨id', o', hl, hp, hb⟩ hq => ?_, fun b q hq => ?_⟩, Nat.zero_le _,
    ⟨Nat.le_refl _, fun _ _ _ => rfl, rfl, rfl, rfl, fun id hid => absurd hid (Nat.not_lt_zero _), fun _ _ h => .inl h, fun b o hq => ?_⟩, own'⟩
  · obtain ⟨v, hv, hck⟩ := ckE_at h.env k v' hk
    obtain ⟨x, hx, hr⟩ := hE k v hv
    exact ⟨x, hx, say_v hR (fun _ _ => ckN_lt h.ren) h.nils hr hck⟩
  · obtain ⟨_, ⟨hm, e, sz, f, rfl⟩ | ⟨hm, id, o, h1, h2, h3, h4⟩⟩ := ckS_at h.sto id' o' hl
    · exact .arrnil _ _ _ (by simp [Gh.say, hm])
    · exact say_o hR (fun _ _ => ckN_lt h.ren) h.nils (hR.obj id o h2) h1 hm h4
  · obtain ⟨a, oa, a1, a2, _, a4, a5⟩ := obj id' o hl hp
    obtain ⟨b, ob, b1, b2, _, b4, b5⟩ := obj id2' o2 hl2 hp2
    rw [a5, b5] at he
    have := hR.inj a b oa ob a2 b2 a4 b4 he
    subst this
    exact ckN_inj h.ren a1 b1
  · obtain ⟨a, oa, a1, a2, a3, a4, a5⟩ := obj id' o' hl hp
    rw [a5] at hb
    rcases hq with hq | ⟨id, ob, q1, q2, q3, q4⟩
    · exact hR.nofz b q ⟨a, oa, a2, a4, hb⟩ hq
    · have := hR.inj a id oa ob a2 q2 a4 q3 (by rw [hb, q4])
      subst this
      rw [q1] at a3
      cases a3
  · rcases hq with hq | ⟨id, ob, q1, q2, q3, q4⟩
    · exact hR.fzlt b q hq
    · rw [← q4]; exact phys_lt hR q2 q3
  · rcases hq with hq | ⟨id, ob, q1, q2, q3, q4⟩
    · exact .inl hq
    · exact .inr (.inl ⟨id, ob, q2, q3, q4⟩)

/-- Own objects that live have one number. -/
def injL (ren : List (Nat × Nat)) (s : Sto) : Bool := s.all fun p => s.all fun q => match look p.1 ren, look q.1 ren with
  | some a, some b => !Nat.beq a b || Nat.beq p.1 q.1
  | _, _ => true
theorem injL_at {ren : List (Nat × Nat)} {s : Sto} (h : injL ren s = true) {a b id : Nat} {o o' : Obj} (ha : look a s = some o) (hb : look b s = some o') (h1 : look a ren = some id) (h2 : look b ren = some id) : a = b := by
  unfold injL at h
  have h3 := List.all_eq_true.1 h _ (look_mem ha)
  have h4 := List.all_eq_true.1 h3 _ (look_mem hb)
  simp only [h1, h2, Nat.beq_eq, Bool.or_eq_true, Bool.not_eq_true', Nat.beq_eq_true_eq] at h4
  rcases h4 with h4 | h4
  · have : Nat.beq id id = true := Nat.beq_refl id
    rw [this] at h4; cases h4
  · exact h4
/-- The caller's numbers stay. -/
def lowL (n0 : Nat) (W : Way) : Bool := (List.range n0).all fun i => (match look i W.ren with | some j => Nat.beq i j | none => false) && !mem i W.nils
theorem lowL_at {n0 : Nat} {W : Way} (h : lowL n0 W = true) {i : Nat} (hi : i < n0) : look i W.ren = some i ∧ mem i W.nils = false := by
  unfold lowL at h
  have := List.all_eq_true.1 h i (List.mem_range.2 hi)
  simp only [Bool.and_eq_true, Bool.not_eq_true'] at this
  obtain ⟨h1, h2⟩ := this
  refine ⟨?_, h2⟩
  split at h1
  · rename_i j hj; rw [hj, eqt h1]
  · cases h1
/-- The same, where the caller has own objects. -/
structure CkA (n0 : Nat) (W : Way) (st st' : St) : Prop where
  env : ckE W st st'.env
  sto : ckS W st.sto st'.nx st'.sto
  lt : W.ren.all (fun p => Nat.blt p.1 st'.nx) = true
  inj : injL W.ren st'.sto = true
  low : lowL n0 W = true
  nx : Nat.ble n0 st'.nx = true
  nils : W.nils.all (fun i => Nat.blt i st'.nx) = true
theorem blt_lt {a b : Nat} (h : Nat.blt a b = true) : a < b := Nat.lt_of_lt_of_le (Nat.le_of_ble_eq_true h) (Nat.le_refl _)

/-- THE LAW. -/
theorem weak_at {n0 : Nat} (W : Way) (h : CkA n0 W st st') : WeakS P n0 st st' := by
  have hren : ∀ a b, look a W.ren = some b → a < st'.nx := fun a b hl => blt_lt (List.all_eq_true.1 h.lt _ (look_mem hl))
  have hnils : ∀ id ∈ W.nils, id < st'.nx := fun id hi => blt_lt (List.all_eq_true.1 h.nils _ hi)
  intro g w t hE hR _
  have obj : ∀ id' o', look id' st'.sto = some o' → phys (g.say W st.sto) id' o' = true → ∃ id o, look id' W.ren = some id ∧ look id st.sto = some o ∧ mem id W.frz = false ∧ phys g id o = true ∧ (g.say W st.sto).β id' = g.β id := by
    intro id' o' hl hp
    obtain ⟨_, ⟨hm, e, sz, f, rfl⟩ | ⟨hm, id, o, h1, h2, h3, h4⟩⟩ := ckS_at h.sto id' o' hl
    · simp [phys, Gh.say, hm] at hp
    · rw [phys_ck h1 hm h4] at hp
      exact ⟨id, o, h1, h2, h3, hp, (say_new h1 hm st.sto).1⟩
  have own' : ∀ b, own (g.say W st.sto) st'.sto b → own g st.sto b := fun b ⟨id', o', hl, hp, hb⟩ => by
    obtain ⟨id, o, _, h2, _, h4, h5⟩ := obj id' o' hl hp
    exact ⟨id, o, h2, h4, by rw [← h5]; exact hb⟩
  refine ⟨g.say W st.sto, fun k v' hk => ?_, ⟨fun id' o' hl => ?_, fun id' o' hl => (ckS_at h.sto id' o' hl).1, fun id' id2' o o2 hl hl2 hp hp2 he => ?_, fun b q ⟨id', o', hl, hp, hb⟩ hq => ?_, fun b q hq => ?_⟩, Nat.le_of_ble_eq_true h.nx,
    ⟨Nat.le_refl _, fun _ _ _ => rfl, rfl, rfl, rfl, fun id hid => ?_, fun _ _ h => .inl h, fun b o hq => ?_⟩, own'⟩
  · obtain ⟨v, hv, hck⟩ := ckE_at h.env k v' hk
    obtain ⟨x, hx, hr⟩ := hE k v hv
    exact ⟨x, hx, say_v hR hren hnils hr hck⟩
  · obtain ⟨_, ⟨hm, e, sz, f, rfl⟩ | ⟨hm, id, o, h1, h2, h3, h4⟩⟩ := ckS_at h.sto id' o' hl
    · exact .arrnil _ _ _ (by simp [Gh.say, hm])
    · exact say_o hR hren hnils (hR.obj id o h2) h1 hm h4
  · obtain ⟨a, oa, a1, a2, _, a4, a5⟩ := obj id' o hl hp
    obtain ⟨b, ob, b1, b2, _, b4, b5⟩ := obj id2' o2 hl2 hp2
    rw [a5, b5] at he
    have := hR.inj a b oa ob a2 b2 a4 b4 he
    subst this
    exact injL_at h.inj hl hl2 a1 b1
  · obtain ⟨a, oa, a1, a2, a3, a4, a5⟩ := obj id' o' hl hp
    rw [a5] at hb
    rcases hq with hq | ⟨id, ob, q1, q2, q3, q4⟩
    · exact hR.nofz b q ⟨a, oa, a2, a4, hb⟩ hq
    · have := hR.inj a id oa ob a2 q2 a4 q3 (by rw [hb, q4])
      subst this
      rw [q1] at a3
      cases a3
  · rcases hq with hq | ⟨id, ob, q1, q2, q3, q4⟩
    · exact hR.fzlt b q hq
    · rw [← q4]; exact phys_lt hR q2 q3
  · obtain ⟨l1, l2⟩ := lowL_at h.low hid
    exact say_new l1 l2 st.sto
  · rcases hq with hq | ⟨id, ob, q1, q2, q3, q4⟩
    · exact .inl hq
    · exact .inr (.inl ⟨id, ob, q2, q3, q4⟩)

/-- A contract, its end said in other words. -/
theorem TriS.say {n0 : Nat} {f : FuncId} {vs : List AV} {s : Sto} {K K' : AV → Sto → Nat → Prop} (h : TriS P f vs s n0 K) (hk : ∀ v s nx, K v s nx → ∃ v' s' nx', K' v' s' nx' ∧ WeakS P n0 ⟨[(0, v)], s, nx⟩ ⟨[(0, v')], s', nx'⟩) : TriS P f vs s n0 K' := by
  have fin : ∀ {g w y w'}, Fin P g n0 s w K y w' → Fin P g n0 s w K' y w' := by
    intro g w y w' ⟨v, g', nx', s', hK, h1, hR, hst, how, hv⟩
    obtain ⟨v', s2, nx2, hK', hw⟩ := hk v s' nx' hK
    obtain ⟨g2, e1, e2, e3, e4, e5⟩ := hw g' w' #[y] (fun k u hu => by
      rw [look_cons] at hu
      split at hu
      · rename_i hk0
        subst hk0
        injection hu with hu
        subst hu
        exact ⟨y, rfl, hv⟩
      · simp [look] at hu) hR h1
    obtain ⟨x, hx, hr⟩ := e1 0 v' (by simp [look])
    simp at hx
    subst hx
    exact ⟨v', g2, nx2, s2, hK', e3, e2, hst.trans e4 (Nat.le_refl _) how, fun b hb => how b (e5 b hb), hr⟩
  intro g w xs hR hA
  rcases h g w xs hR hA with ⟨y, w', h1, h2⟩ | ⟨h1, h2⟩
  · exact .inl ⟨y, w', fin h1, h2⟩
  · exact .inr ⟨h1, Calls.mono h2 fun e w' ⟨y, he, hF⟩ => ⟨y, he, fin hF⟩⟩
theorem TriS.mono {f : FuncId} {vs : List AV} {s : Sto} {nx : Nat} {K K' : AV → Sto → Nat → Prop} (h : TriS P f vs s nx K) (hk : ∀ v s nx, K v s nx → K' v s nx) : TriS P f vs s nx K' := by
  have fin : ∀ {g w y w'}, Fin P g nx s w K y w' → Fin P g nx s w K' y w' := fun ⟨v, g', nx', s', hK, h⟩ => ⟨v, g', nx', s', hk _ _ _ hK, h⟩
  intro g w xs hR hA
  rcases h g w xs hR hA with ⟨y, w', h1, h2⟩ | ⟨h1, h2⟩
  · exact .inl ⟨y, w', fin h1, h2⟩
  · exact .inr ⟨h1, Calls.mono h2 fun e w' ⟨y, he, hF⟩ => ⟨y, he, fin hF⟩⟩

theorem noId_ck {s : Sto} {c : CV} (h : noId c = true) : ckC W s c c := by
  cases c with
  | if1 t x => simp only [ckC, true_and]; exact noId_ck (by simpa [noId] using h)
  | _ => first | (simp [noId] at h; done) | simp [ckC]
theorem noIds_ck {s : Sto} : ∀ {cs : List CV}, noIds cs = true → ckCs W s cs cs := by
  intro cs
  induction cs with
  | nil => intro _; trivial
  | cons c r ih =>
    intro h
    simp only [noIds] at h
    split at h
    · rename_i hc; exact ⟨noId_ck hc, ih h⟩
    · cases h
end
end Am
