/-
  A contract that speaks of own objects by numbers from 0, at a caller's numbers: the other objects stay.
-/
import Derived.Test.YtijphjckgdomlaaAm22
set_option linter.all false
namespace Am
open Go

mutual
def reC (t : Nat → Nat) : CV → CV
  | .ptr id off => .ptr (t id) off
  | .ref id sz off len => .ref (t id) sz off len
  | .erp id sz i off => .erp (t id) sz i off
  | .mp id => .mp (t id)
  | .clo f caps => .clo f (reCs t caps)
  | .if1 ty x => .if1 ty (reC t x)
  | c => c
def reCs (t : Nat → Nat) : List CV → List CV
  | [] => []
  | c :: r => reC t c :: reCs t r
end
mutual
def reV (t : Nat → Nat) : AV → AV
  | .c x => .c (reC t x)
  | .agg xs => .agg (reCs t xs)
  | .tup vs => .tup (reVs t vs)
  | .un => .un
def reVs (t : Nat → Nat) : List AV → List AV
  | [] => []
  | v :: r => reV t v :: reVs t r
end
def reO (t : Nat → Nat) : Obj → Obj
  | .box cs => .box (reCs t cs)
  | o => o
def reS (t : Nat → Nat) : Sto → Sto → Sto
  | [], s => s
  | (id, o) :: r, s => (t id, reO t o) :: reS t r s
def tau (ρ : List (Nat × Nat)) (nc nx : Nat) (j : Nat) : Nat := match Nat.blt j nc with
  | true => (match look j ρ with | some i => i | none => 0)
  | false => j - nc + nx
def dels : List (Nat × Nat) → Sto → Sto
  | [], s => s
  | (_, i) :: r, s => del i (dels r s)
def frOk (ρ : List (Nat × Nat)) (nx : Nat) : Nat → Bool
  | 0 => true
  | j + 1 => (match look j ρ with | some i => Nat.blt i nx | none => false) && frOk ρ nx j

theorem frOk_at {ρ : List (Nat × Nat)} {nx : Nat} : ∀ {nc : Nat}, frOk ρ nx nc = true → ∀ j, j < nc → ∃ i, look j ρ = some i ∧ i < nx := by
  intro nc
  induction nc with
  | zero => intro _ j hj; omega
  | succ n ih =>
    intro h j hj
    simp only [frOk, Bool.and_eq_true] at h
    by_cases hjn : j = n
    · subst hjn
      have h1 := h.1
      split at h1
      · rename_i i hi; exact ⟨i, hi, Nat.le_of_ble_eq_true h1⟩
      · cases h1
    · exact ih h.2 j (by omega)

theorem look_dels : ∀ (ρ : List (Nat × Nat)) {s : Sto} {id : Nat} {o : Obj}, look id (dels ρ s) = some o → look id s = some o ∧ ∀ j, look j ρ ≠ some id := by
  intro ρ
  induction ρ with
  | nil => intro s id o h; exact ⟨h, fun j h => by simp [look] at h⟩
  | cons p r ih =>
    obtain ⟨a, i⟩ := p
    intro s id o h
    simp only [dels] at h
    rw [look_del] at h
    split at h
    · cases h
    · rename_i hne
      obtain ⟨h1, h2⟩ := ih h
      refine ⟨h1, fun j hj => ?_⟩
      rw [look_cons] at hj
      split at hj
      · injection hj with hj; exact hne hj.symm
      · exact h2 j hj

theorem reCs_eq (t : Nat → Nat) : ∀ (cs : List CV), reCs t cs = cs.map (reC t) := by
  intro cs
  induction cs with
  | nil => rfl
  | cons x r ih => simp [reCs, ih]
theorem reVs_eq (t : Nat → Nat) : ∀ (cs : List AV), reVs t cs = cs.map (reV t) := by
  intro cs
  induction cs with
  | nil => rfl
  | cons x r ih => simp [reVs, ih]
theorem re_d {fz : Nat → Nat → Prop} {w : World} {c : CV} {y : Value} (t : Nat → Nat) (h : DRel fz w c y) : reC t c = c := by
  induction h with
  | if1 ty c y h ih => simp [reC, ih]
  | _ => rfl

section
variable {P : Program} {g' gm : Gh} {n' nm : Nat} {w' : World} {t : Nat → Nat}

/-- How numbers of one ghost lie in another. -/
structure Into (g' gm : Gh) (n' nm : Nat) (t : Nat → Nat) : Prop where
  lt : ∀ j, j < n' → t j < nm
  bet : ∀ j, j < n' → gm.β (t j) = g'.β j ∧ gm.κ (t j) = g'.κ j ∧ gm.nl (t j) = g'.nl j
  fz : ∀ b o, g'.fz b o → gm.fz b o

theorem into_c (hI : Into g' gm n' nm t) {c : CV} {y : Value} (h : CRel g' n' w' c y) : CRel gm nm w' (reC t c) y := by
  induction h with
  | d c y h => rw [re_d t h]; exact .d _ _ (h.mono hI.fz (fun _ _ _ => rfl))
  | ptr id off h =>
    have := CRel.ptr (g := gm) (nx := nm) (w := w') (t id) off (hI.lt id h)
    rw [(hI.bet id h).1] at this
    exact this
  | refnil id sz h hn => exact .refnil _ _ (hI.lt id h) (by rw [(hI.bet id h).2.2]; exact hn)
  | ref id sz off len cap h hn hc hl =>
    have := CRel.ref (g := gm) (nx := nm) (w := w') (t id) sz off len cap (hI.lt id h) (by rw [(hI.bet id h).2.2]; exact hn) (by rw [(hI.bet id h).2.1]; exact hc) hl
    rw [(hI.bet id h).1] at this
    exact this
  | erp id sz i off h hn =>
    have := CRel.erp (g := gm) (nx := nm) (w := w') (t id) sz i off (hI.lt id h) (by rw [(hI.bet id h).2.2]; exact hn)
    rw [(hI.bet id h).1] at this
    exact this
  | mp id h =>
    have := CRel.mp (g := gm) (nx := nm) (w := w') (t id) (hI.lt id h)
    rw [(hI.bet id h).1] at this
    exact this
  | clo f caps ys hl h ih =>
    simp only [reC, reCs_eq]
    refine .clo f _ ys (by simpa using hl) (fun i c y hc hy => ?_)
    rw [List.getElem?_map] at hc
    cases hq : caps[i]? with
    | none => simp [hq] at hc
    | some q =>
      simp only [hq, Option.map_some] at hc
      injection hc with hc
      subst hc
      exact ih i q y hq hy
  | if1 ty c y h ih => exact .if1 ty _ y ih

theorem into_cs (hI : Into g' gm n' nm t) {cs : List CV} {ys : List Value} (h : Pw (CRel g' n' w') cs ys) : Pw (CRel gm nm w') (reCs t cs) ys := by
  rw [reCs_eq]
  refine ⟨by simpa using h.len, fun i c y hc hy => ?_⟩
  rw [List.getElem?_map] at hc
  cases hq : cs[i]? with
  | none => simp [hq] at hc
  | some q =>
    simp only [hq, Option.map_some] at hc
    injection hc with hc
    subst hc
    exact into_c hI (h.at_ i q y hq hy)

theorem into_v (hI : Into g' gm n' nm t) {v : AV} {y : Value} (h : VRel g' n' w' v y) : VRel gm nm w' (reV t v) y := by
  induction h with
  | c x y h => exact .c _ _ (into_c hI h)
  | agg xs ys h => exact .agg _ _ (into_cs hI h)
  | tup vs ys hl h ih =>
    simp only [reV, reVs_eq]
    refine .tup _ ys (by simpa using hl) (fun i v y hv hy => ?_)
    rw [List.getElem?_map] at hv
    cases hq : vs[i]? with
    | none => simp [hq] at hv
    | some q =>
      simp only [hq, Option.map_some] at hv
      injection hv with hv
      subst hv
      exact ih i q y hq hy
  | un => exact .un

theorem noIds_at : ∀ {cs : List CV}, noIds cs = true → ∀ (j : Nat) (c : CV), cs[j]? = some c → noId c = true := by
  intro cs
  induction cs with
  | nil => intro _ j c h; simp at h
  | cons x r ih =>
    intro h j c hc
    simp only [noIds] at h
    split at h
    · cases j with
      | zero => simp at hc; subst hc; assumption
      | succ j => exact ih h j c (by simpa using hc)
    · cases h

theorem into_o (hI : Into g' gm n' nm t) {k : Nat} (hk : k < n') {o : Obj} (h : ORel P g' n' w' k o) (hs : safeO false o) : ORel P gm nm w' (t k) (reO t o) := by
  obtain ⟨e1, e2, e3⟩ := hI.bet k hk
  cases h with
  | box cs ys T hb hp => exact .box _ ys T (by rw [e1]; exact hb) (into_cs hI hp)
  | arrnil e sz f hn => exact .arrnil e sz f (by rw [e3]; exact hn)
  | arr e sz n f ys hn hb hk hm hsz hlen hcr hone =>
    refine .arr e sz n f ys (by rw [e3]; exact hn) (by rw [e1]; exact hb) (by rw [e2]; exact hk) (by rw [e2]; exact hm) (by rw [e2]; exact hsz) hlen (fun i j c y hi hc hy => ?_) hone
    exact .d _ _ ((noId_d (noIds_at (hs i hi).1 j c hc) (hcr i j c y hi hc hy)).mono hI.fz (fun _ _ _ => rfl))
  | map k' u ag dom val es clock hb hM => exact .map _ _ _ _ _ es clock (by rw [e1]; exact hb) (hM.mono hI.fz (fun _ _ _ => rfl))
  | sit b pos hb => exact .sit b pos (by rw [e1]; exact hb)

theorem look_reS (t : Nat → Nat) (s : Sto) : ∀ (s2 : Sto) (id : Nat) (o : Obj), look id (reS t s2 s) = some o → (∀ j k o o', look j s2 = some o → look k s2 = some o' → t j = t k → j = k) →
    (∃ k o2, id = t k ∧ look k s2 = some o2 ∧ o = reO t o2) ∨ look id s = some o := by
  intro s2
  induction s2 with
  | nil => exact fun id o h _ => .inr h
  | cons p r ih =>
    obtain ⟨k, o2⟩ := p
    intro id o h hinj
    simp only [reS] at h
    rw [look_cons] at h
    split at h
    · rename_i hk
      injection h with h
      exact .inl ⟨k, o2, hk, by simp [look], h.symm⟩
    · rename_i hk
      have up : ∀ j o, look j r = some o → ∃ o', look j ((k, o2) :: r) = some o' := fun j o hj => by
        rw [look_cons]
        split
        · exact ⟨_, rfl⟩
        · exact ⟨o, hj⟩
      rcases ih id o h (fun a b oa ob ha hb he => by
        obtain ⟨x, hx⟩ := up a oa ha
        obtain ⟨y, hy⟩ := up b ob hb
        exact hinj a b x y hx hy he) with ⟨k', o', h1, h2, h3⟩ | h1
      · refine .inl ⟨k', o', h1, ?_, h3⟩
        rw [look_cons, if_neg (fun e => hk (by rw [h1, e]))]
        exact h2
      · exact .inr h1

theorem phys_re {g g' : Gh} {id id' : Nat} (t : Nat → Nat) (o : Obj) (h : g.nl id = g'.nl id') : phys g id (reO t o) = phys g' id' o := by
  cases o <;> simp [phys, reO, h]

/-- THE LAW. -/
theorem TriS.frame {f : FuncId} {vs vsc : List AV} {s sc : Sto} {nx nc : Nat} {K Kc : AV → Sto → Nat → Prop} (hc : TriS P f vsc sc nc Kc) (ρ : List (Nat × Nat))
    (hck : Ck ⟨ρ, [], []⟩ ⟨argEnv 0 vs, s, nx⟩ ⟨argEnv 0 vsc, sc, nc⟩) (hlen : vs.length = vsc.length) (hρ : frOk ρ nx nc = true)
    (hK : ∀ v s' n', Kc v s' n' → safeS false v s' ∧ K (reV (tau ρ nc nx) v) (reS (tau ρ nc nx) s' (dels ρ s)) (n' - nc + nx)) : TriS P f vs s nx K := by
  intro g w xs hR hA
  obtain ⟨gc, hgc⟩ : ∃ gc, gc = g.say ⟨ρ, [], []⟩ s := ⟨_, rfl⟩
  have hcb : ∀ j i, look j ρ = some i → gc.β j = g.β i ∧ gc.κ j = g.κ i ∧ gc.nl j = g.nl i := fun j i h => by rw [hgc]; exact say_new (W := ⟨ρ, [], []⟩) h rfl s
  have hcf : ∀ b o, gc.fz b o ↔ g.fz b o := fun b o => by
    rw [hgc]
    refine ⟨fun h => ?_, .inl⟩
    rcases h with h | ⟨id, ob, h, _⟩
    · exact h
    · simp [mem] at h
  have hE : EnvRel g nx w (argEnv 0 vs) xs.toArray := fun k v hk => by
    obtain ⟨_, h2⟩ := look_argEnv vs 0 k v hk
    simp only [Nat.sub_zero] at h2
    have hk2 : k < xs.length := by rw [← hA.len]; exact (List.getElem?_eq_some_iff.1 h2).1
    exact ⟨xs[k], by simp [hk2], hA.at_ k v _ h2 (List.getElem?_eq_getElem hk2)⟩
  have hAc : Args gc nc w vsc xs := by
    refine ⟨by rw [← hlen]; exact hA.len, fun i v x hv hx => ?_⟩
    have lk : ∀ (us : List AV) (a i : Nat) (v : AV), us[i]? = some v → look (i + a) (argEnv a us) = some v := by
      intro us
      induction us with
      | nil => intro a i v h; simp at h
      | cons u r ih =>
        intro a i v h
        simp only [argEnv]
        rw [look_cons]
        cases i with
        | zero => simp at h; simp [h]
        | succ i =>
          rw [if_neg (by omega), show i + 1 + a = i + (a + 1) by omega]
          exact ih (a + 1) i v (by simpa using h)
    obtain ⟨u, hu, hcv⟩ := ckE_at hck.env i v (by have := lk vsc 0 i v hv; simpa using this)
    obtain ⟨x', hx', hr⟩ := hE i u hu
    have : x' = x := by
      have h3 : xs.toArray[i]? = some x := by simpa using hx
      rw [h3] at hx'
      injection hx' with hx'
      exact hx'.symm
    subst this
    rw [hgc]
    exact say_v (st := ⟨argEnv 0 vs, s, nx⟩) (st' := ⟨argEnv 0 vsc, sc, nc⟩) hR (fun _ _ => ckN_lt hck.ren) hck.nils hr hcv
  have hRc : Rel P gc nc sc w := by
    have := weak_of (P := P) (st := ⟨[], s, nx⟩) (st' := ⟨[], sc, nc⟩) ⟨ρ, [], []⟩ ⟨trivial, hck.sto, hck.ren, hck.nils⟩
    have objc : ∀ j o', look j sc = some o' → ∃ i o, look j ρ = some i ∧ look i s = some o ∧ ckO ⟨ρ, [], []⟩ s o o' ∧ phys gc j o' = phys g i o ∧ gc.β j = g.β i := fun j o' hl => by
      obtain ⟨_, ⟨hm, _⟩ | ⟨_, i, o, h1, h2, _, h4⟩⟩ := ckS_at hck.sto j o' hl
      · simp [mem] at hm
      · exact ⟨i, o, h1, h2, h4, by rw [hgc]; exact phys_ck (W := ⟨ρ, [], []⟩) h1 rfl h4, (hcb j i h1).1⟩
    refine ⟨fun j o' hl => ?_, fun j o' hl => (ckS_at hck.sto j o' hl).1, fun a b oa ob ha hb hp hp' he => ?_, fun b q ⟨j, o', hl, hp, hb⟩ hq => ?_, fun b q hq => hR.fzlt b q ((hcf b q).1 hq)⟩
    · obtain ⟨i, o, h1, h2, h4, _⟩ := objc j o' hl
      rw [hgc]
      exact say_o (st := ⟨[], s, nx⟩) (st' := ⟨[], sc, nc⟩) hR (fun _ _ => ckN_lt hck.ren) hck.nils (hR.obj i o h2) h1 rfl h4
    · obtain ⟨i, o, h1, h2, _, h5, h6⟩ := objc a oa ha
      obtain ⟨i2, o2, q1, q2, _, q5, q6⟩ := objc b ob hb
      rw [h5] at hp
      rw [q5] at hp'
      rw [h6, q6] at he
      have := hR.inj i i2 o o2 h2 q2 hp hp' he
      subst this
      exact ckN_inj hck.ren h1 q1
    · obtain ⟨i, o, h1, h2, _, h5, h6⟩ := objc j o' hl
      rw [h5] at hp
      rw [h6] at hb
      exact hR.nofz b q ⟨i, o, h2, hp, hb⟩ ((hcf b q).1 hq)
  have ownc : ∀ b, own gc sc b → ∃ j i o, look j ρ = some i ∧ look i s = some o ∧ phys g i o = true ∧ g.β i = b := fun b ⟨j, o', hl, hp, hb⟩ => by
    obtain ⟨_, ⟨hm, _⟩ | ⟨_, i, o, h1, h2, _, h4⟩⟩ := ckS_at hck.sto j o' hl
    · simp [mem] at hm
    · have e := phys_ck (W := ⟨ρ, [], []⟩) (g := g) h1 rfl h4
      rw [← hgc] at e
      exact ⟨j, i, o, h1, h2, by rw [← e]; exact hp, by rw [← (hcb j i h1).1]; exact hb⟩
  have fin : ∀ {y w'}, Fin P gc nc sc w Kc y w' → Fin P g nx s w K y w' := by
    intro y w' ⟨v, g', n', s', hKc, hn, hR', hst, how, hv⟩
    obtain ⟨hs, hKK⟩ := hK v s' n' hKc
    obtain ⟨gm, hgm⟩ : ∃ gm : Gh, gm = ⟨fun i => if i < nx then g.β i else g'.β (i - nx + nc), fun i => if i < nx then g.κ i else g'.κ (i - nx + nc), fun i => if i < nx then g.nl i else g'.nl (i - nx + nc), g'.fz⟩ := ⟨_, rfl⟩
    have old : ∀ i, i < nx → gm.β i = g.β i ∧ gm.κ i = g.κ i ∧ gm.nl i = g.nl i := fun i hi => by rw [hgm]; simp [hi]
    have tlow : ∀ j, j < nc → ∃ i, look j ρ = some i ∧ i < nx ∧ tau ρ nc nx j = i := fun j hj => by
      obtain ⟨i, h1, h2⟩ := frOk_at hρ j hj
      refine ⟨i, h1, h2, ?_⟩
      have : Nat.blt j nc = true := Nat.ble_eq_true_of_le hj
      simp [tau, this, h1]
    have thigh : ∀ j, nc ≤ j → tau ρ nc nx j = j - nc + nx := fun j hj => by
      have : Nat.blt j nc = false := by
        cases h : Nat.blt j nc with
        | false => rfl
        | true => have := Nat.le_of_ble_eq_true h; omega
      simp [tau, this]
    have hI : Into g' gm n' (n' - nc + nx) (tau ρ nc nx) := by
      refine ⟨fun j hj => ?_, fun j hj => ?_, fun b o h => by rw [hgm]; exact h⟩
      · rcases Nat.lt_or_ge j nc with h | h
        · obtain ⟨i, _, h2, h3⟩ := tlow j h; omega
        · rw [thigh j h]; omega
      · rcases Nat.lt_or_ge j nc with h | h
        · obtain ⟨i, h1, h2, h3⟩ := tlow j h
          obtain ⟨a1, a2, a3⟩ := old i h2
          obtain ⟨b1, b2, b3⟩ := hcb j i h1
          obtain ⟨c1, c2, c3⟩ := hst.bet j h
          rw [h3]
          exact ⟨by rw [a1, c1, b1], by rw [a2, c2, b2], by rw [a3, c3, b3]⟩
        · rw [thigh j h, hgm]
          have h1 : ¬ j - nc + nx < nx := by omega
          have h2 : j - nc + nc = j := by omega
          simp [h1, h2]
    have tinj : ∀ j k, tau ρ nc nx j = tau ρ nc nx k → j = k := fun j k he => by
      rcases Nat.lt_or_ge j nc with h | h
      · obtain ⟨i, h1, h2, h3⟩ := tlow j h
        rcases Nat.lt_or_ge k nc with h' | h'
        · obtain ⟨i', q1, q2, q3⟩ := tlow k h'
          rw [h3, q3] at he
          subst he
          exact ckN_inj hck.ren h1 q1
        · rw [h3, thigh k h'] at he; omega
      · rcases Nat.lt_or_ge k nc with h' | h'
        · obtain ⟨i', q1, q2, q3⟩ := tlow k h'
          rw [q3, thigh j h] at he; omega
        · rw [thigh j h, thigh k h'] at he; omega
    have notown : ∀ id o, look id s = some o → phys g id o = true → (∀ j, look j ρ ≠ some id) → ¬ own gc sc (g.β id) := fun id o hl hp hno ho => by
      obtain ⟨j, i, o2, h1, h2, h3, h4⟩ := ownc _ ho
      have := hR.inj i id o2 o h2 hl h3 hp h4
      subst this
      exact hno j h1
    have blkold : ∀ b, b < w.heap.size → ¬ own g s b → w'.heap[b]? = w.heap[b]? := fun b hb hn => hst.blk b hb (fun ho => by
      obtain ⟨j, i, o, _, h2, h3, h4⟩ := ownc b ho
      exact hn ⟨i, o, h2, h3, h4⟩)
    have hst2 : Stp (own g s) nx g w gm w' := ⟨hst.size, blkold, hst.os, hst.tape, hst.output, old, fun b o h => by rw [hgm]; exact hst.fz b o ((hcf b o).2 h), fun b o h => by
      rw [hgm] at h
      rcases hst.fzn b o h with h | h | h
      · exact .inl ((hcf b o).1 h)
      · obtain ⟨j, i, o2, _, h2, h3, h4⟩ := ownc b h
        exact .inr (.inl ⟨i, o2, h2, h3, h4⟩)
      · exact .inr (.inr h)⟩
    have hKp := hst2.keeps hR (fun _ h => h)
    have split : ∀ id o, look id (reS (tau ρ nc nx) s' (dels ρ s)) = some o → (∃ k o2, id = tau ρ nc nx k ∧ look k s' = some o2 ∧ o = reO (tau ρ nc nx) o2) ∨ (look id s = some o ∧ ∀ j, look j ρ ≠ some id) := fun id o h => by
      rcases look_reS _ _ s' id o h (fun j k o o' _ _ he => tinj j k he) with h | h
      · exact .inl h
      · exact .inr (look_dels ρ h)
    have physNew : ∀ k o2, look k s' = some o2 → phys gm (tau ρ nc nx k) (reO (tau ρ nc nx) o2) = phys g' k o2 := fun k o2 h => phys_re _ _ (hI.bet k (hR'.lt k o2 h)).2.2
    have physOld : ∀ id o, look id s = some o → phys gm id o = phys g id o ∧ gm.β id = g.β id := fun id o h => ⟨phys_bet (old id (hR.lt id o h)).2.2 o, (old id (hR.lt id o h)).1⟩
    have newOr : ∀ k o2, look k s' = some o2 → phys g' k o2 = true → own gc sc (g'.β k) ∨ w.heap.size ≤ g'.β k := fun k o2 h hp => how _ ⟨k, o2, h, hp, rfl⟩
    refine ⟨reV (tau ρ nc nx) v, gm, n' - nc + nx, _, hKK, by omega, ⟨fun id o h => ?_, fun id o h => ?_, fun id id' o o' h h' hp hp' he => ?_, fun b q ⟨id, o, h, hp, hb⟩ hq => ?_, fun b q hq => ?_⟩, hst2, fun b ⟨id, o, h, hp, hb⟩ => ?_, into_v hI hv⟩
    · rcases split id o h with ⟨k, o2, rfl, h1, rfl⟩ | ⟨h1, h2⟩
      · exact into_o hI (hR'.lt k o2 h1) (hR'.obj k o2 h1) (hs.2 k o2 h1)
      · exact (hR.obj id o h1).keeps hKp (by omega) (hR.lt id o h1) (fun hp => hst.blk _ (phys_lt hR h1 hp) (notown id o h1 hp h2))
    · rcases split id o h with ⟨k, o2, rfl, h1, rfl⟩ | ⟨h1, h2⟩
      · exact hI.lt k (hR'.lt k o2 h1)
      · have := hR.lt id o h1; omega
    · have mixed : ∀ k o2 id o, look k s' = some o2 → look id s = some o → phys g' k o2 = true → phys g id o = true → (∀ j, look j ρ ≠ some id) → g'.β k = g.β id → False := fun k o2 id o q1 q2 q3 q4 q5 q6 => by
        rcases newOr k o2 q1 q3 with h | h
        · rw [q6] at h; exact notown id o q2 q4 q5 h
        · have := phys_lt hR q2 q4; omega
      rcases split id o h with ⟨k, o2, rfl, h1, rfl⟩ | ⟨h1, h2⟩
      · rw [physNew k o2 h1] at hp
        rw [(hI.bet k (hR'.lt k o2 h1)).1] at he
        rcases split id' o' h' with ⟨k', o2', rfl, h1', rfl⟩ | ⟨h1', h2'⟩
        · rw [physNew k' o2' h1'] at hp'
          rw [(hI.bet k' (hR'.lt k' o2' h1')).1] at he
          rw [hR'.inj k k' o2 o2' h1 h1' hp hp' he]
        · rw [(physOld id' o' h1').1] at hp'
          rw [(physOld id' o' h1').2] at he
          exact (mixed k o2 id' o' h1 h1' hp hp' h2' he).elim
      · rw [(physOld id o h1).1] at hp
        rw [(physOld id o h1).2] at he
        rcases split id' o' h' with ⟨k', o2', rfl, h1', rfl⟩ | ⟨h1', h2'⟩
        · rw [physNew k' o2' h1'] at hp'
          rw [(hI.bet k' (hR'.lt k' o2' h1')).1] at he
          exact (mixed k' o2' id o h1' h1 hp' hp h2 he.symm).elim
        · rw [(physOld id' o' h1').1] at hp'
          rw [(physOld id' o' h1').2] at he
          exact hR.inj id id' o o' h1 h1' hp hp' he
    · have hq' : g'.fz b q := by rw [hgm] at hq; exact hq
      rcases split id o h with ⟨k, o2, rfl, h1, rfl⟩ | ⟨h1, h2⟩
      · rw [physNew k o2 h1] at hp
        rw [(hI.bet k (hR'.lt k o2 h1)).1] at hb
        exact hR'.nofz b q ⟨k, o2, h1, hp, hb⟩ hq'
      · rw [(physOld id o h1).1] at hp
        rw [(physOld id o h1).2] at hb
        rcases hst.fzn b q hq' with h | h | h
        · exact hR.nofz b q ⟨id, o, h1, hp, hb⟩ ((hcf b q).1 h)
        · rw [← hb] at h; exact notown id o h1 hp h2 h
        · have := phys_lt hR h1 hp; omega
    · rw [hgm] at hq; exact hR'.fzlt b q hq
    · rcases split id o h with ⟨k, o2, rfl, h1, rfl⟩ | ⟨h1, h2⟩
      · rw [physNew k o2 h1] at hp
        rw [(hI.bet k (hR'.lt k o2 h1)).1] at hb
        rcases newOr k o2 h1 hp with h | h
        · rw [hb] at h
          obtain ⟨j, i, o3, _, q2, q3, q4⟩ := ownc b h
          exact .inl ⟨i, o3, q2, q3, q4⟩
        · rw [hb] at h; exact .inr h
      · rw [(physOld id o h1).1] at hp
        rw [(physOld id o h1).2] at hb
        exact .inl ⟨id, o, h1, hp, hb⟩
  rcases hc gc w xs hRc hAc with ⟨y, w', h1, h2⟩ | ⟨h1, h2⟩
  · exact .inl ⟨y, w', fin h1, h2⟩
  · exact .inr ⟨h1, Calls.mono h2 fun e w' ⟨y, he, hF⟩ => ⟨y, he, fin hF⟩⟩
end

section
variable {P : Program}
variable {n0 : Nat}
variable {ari' : BinOp → IntKind → Int → Int → Int} {shf' : BinOp → IntKind → Int → Int → Int} {cmp' : BinOp → Int → Int → Bool} {scmp' : BinOp → ByteArray → ByteArray → Bool} {band' : Bool → Bool → Bool} {beq' : Bool → Bool → Bool} {bnot' : Bool → Bool} {neg' : IntKind → Int → Int} {unx' : IntKind → Int → Int} {wrap' : IntKind → Int → Int} {slen' : ByteArray → Int} {sat' : ByteArray → Int → Int} {ssub' : ByteArray → Int → Int → ByteArray} {cat' : ByteArray → ByteArray → ByteArray} {bstr' : Nat → (Nat → List CV) → ByteArray} {toN' : Int → Nat} {sub' : Nat → Nat → Nat} {add' : Nat → Nat → Nat} {shift' : (Nat → List CV) → Nat → Nat → List CV} {join' : Nat → (Nat → List CV) → (Nat → List CV) → Nat → List CV} {setf' : (Nat → List CV) → Nat → List CV → Nat → List CV} {bytes' : ByteArray → Nat → List CV} {updb' : (Int → Bool) → Int → Bool → Int → Bool} {updv' : (Int → List CV) → Int → List CV → Int → List CV} {rng' : Nat → Int → Prop} {idx' : Int → Int → Prop} {isb' : Nat → (Nat → List CV) → Prop} {le3' : Int → Int → Int → Prop} {nz' : Int → Prop} {room' : Nat → Nat → Prop} {nil0' : Nat → Bool → Prop} {catok' : ByteArray → ByteArray → Prop} {rune' : ByteArray → Nat → Int} {rnext' : ByteArray → Nat → Nat} {more' : ByteArray → Nat → Bool} {rstr' : Int → ByteArray} {nid' : Nat → (Nat → List CV) → Prop} {safe' : Bool → AV → Sto → Prop} {tri' : FuncId → List AV → Sto → Nat → (AV → Sto → Nat → Prop) → Prop} {weak' : St → St → Prop}
/-- A call that turns what it is handed, by a contract over its own numbers. -/
theorem Fct.callF (F : Fct P n0 ⟨ari', shf', cmp', scmp', band', beq', bnot', neg', unx', wrap', slen', sat', ssub', cat', bstr', toN', sub', add', shift', join', setf', bytes', updb', updv', rng', idx', isb', le3', nz', room', nil0', catok', rune', rnext', more', rstr', nid', safe', tri', weak'⟩) {f : FuncId} {vs vsc : List AV} {s sc : Sto} {nx nc : Nat} {K Kc : AV → Sto → Nat → Prop} (h : TriS P f vsc sc nc Kc) (ρ : List (Nat × Nat))
    (hck : Ck ⟨ρ, [], []⟩ ⟨argEnv 0 vs, s, nx⟩ ⟨argEnv 0 vsc, sc, nc⟩) (hlen : vs.length = vsc.length) (hρ : frOk ρ nx nc = true)
    (hK : ∀ v s' n', Kc v s' n' → safeS false v s' ∧ K (reV (tau ρ nc nx) v) (reS (tau ρ nc nx) s' (dels ρ s)) (n' - nc + nx)) : tri' f vs s nx K := by
  rw [F.tri]
  exact TriS.frame h ρ hck hlen hρ hK
end
end Am
