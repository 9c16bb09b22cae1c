/-
  What comes back from a call, taken in; calls.
-/
import Derived.Test.YtijphjckgdomlaaAm15
set_option linter.all false
namespace Am
open Go

section
variable {P : Program} {T : Tab} {g g' gl : Gh} {nx nx' n2 : Nat} {w w' : World} {s s2 : Sto} {lent : Bool}

/-- The caller's ghosts behind the call. -/
def Gh.take (g : Gh) (nx : Nat) (s : Sto) (lent : Bool) (g' : Gh) : Gh :=
  ⟨fun i => if i < nx then g.β i else g'.β (i - nx), fun i => if i < nx then g.κ i else g'.κ (i - nx), fun i => if i < nx then g.nl i else g'.nl (i - nx), fun b o => g'.fz b o ∧ (lent = true → ¬ own g s b)⟩

theorem take_new (id : Nat) : (g.take nx s lent g').β (id + nx) = g'.β id ∧ (g.take nx s lent g').κ (id + nx) = g'.κ id ∧ (g.take nx s lent g').nl (id + nx) = g'.nl id := by
  have h1 : ¬ id + nx < nx := by omega
  have h2 : id + nx - nx = id := by omega
  simp [Gh.take, h1, h2]
theorem take_old {id : Nat} (h : id < nx) : (g.take nx s lent g').β id = g.β id ∧ (g.take nx s lent g').κ id = g.κ id ∧ (g.take nx s lent g').nl id = g.nl id := by
  simp [Gh.take, h]

theorem flatCs_at : ∀ {cs : List CV}, flatCs cs = true → ∀ (i : Nat) (c : CV), cs[i]? = some c → flatC c = true := by
  intro cs
  induction cs with
  | nil => intro _ i c h; simp at h
  | cons x r ih =>
    intro h i c hc
    simp only [flatCs, Bool.and_eq_true] at h
    cases i with
    | zero => simp at hc; subst hc; exact h.1
    | succ i => exact ih h.2 i c (by simpa using hc)
theorem flatVs_at : ∀ {cs : List AV}, flatVs cs = true → ∀ (i : Nat) (c : AV), cs[i]? = some c → flatV c = true := by
  intro cs
  induction cs with
  | nil => intro _ i c h; simp at h
  | cons x r ih =>
    intro h i c hc
    simp only [flatVs, Bool.and_eq_true] at h
    cases i with
    | zero => simp at hc; subst hc; exact h.1
    | succ i => exact ih h.2 i c (by simpa using hc)
theorem shCs_eq (n : Nat) : ∀ (cs : List CV), shCs n cs = cs.map (shC n) := by
  intro cs
  induction cs with
  | nil => rfl
  | cons x r ih => simp [shCs, ih]
theorem shVs_eq (n : Nat) : ∀ (cs : List AV), shVs n cs = cs.map (shV n) := by
  intro cs
  induction cs with
  | nil => rfl
  | cons x r ih => simp [shVs, ih]

theorem flat_d {fz fz' : Nat → Nat → Prop} {c : CV} {y : Value} (h : DRel fz w c y) : flatC c = true → DRel fz' w' c y := by
  induction h with
  | v x h => exact fun _ => .v x h
  | lit b => exact fun _ => .lit b
  | z A => exact fun _ => .z A
  | nilsl sz f => exact fun h => by simp [flatC] at h
  | sl => exact fun h => by simp [flatC] at h
  | if1 t c y h ih => exact fun hf => .if1 t c y (ih (by simpa [flatC] using hf))
  | ifa t xs ys hl h ih => exact fun hf => .ifa t xs ys hl (fun i c y hc hy => ih i c y hc hy (flatCs_at (by simpa [flatC] using hf) i c hc))
  | elp => exact fun h => by simp [flatC] at h

theorem take_d {c : CV} {y : Value} (h : DRel g'.fz w' c y) (hf : lent = true → flatC c = true) : DRel (g.take nx s lent g').fz w' c y := by
  cases lent with
  | false => exact h.mono (fun _ _ h => ⟨h, by simp⟩) (fun _ _ _ => rfl)
  | true => exact flat_d h (hf rfl)

theorem take_c {c : CV} {y : Value} (h : CRel g' n2 w' c y) : (lent = true → flatC c = true) → CRel (g.take nx s lent g') (n2 + nx) w' (shC nx c) y := by
  induction h with
  | d c y h => exact fun hf => by rw [sh_d nx h]; exact .d _ _ (take_d h hf)
  | ptr id off h =>
    intro _
    have := CRel.ptr (g := g.take nx s lent g') (nx := n2 + nx) (w := w') (id + nx) off (by omega)
    rw [(take_new id).1] at this
    exact this
  | refnil id sz h hn => exact fun _ => .refnil (id + nx) sz (by omega) (by rw [(take_new id).2.2]; exact hn)
  | ref id sz off len cap h hn hc hl =>
    intro _
    have := CRel.ref (g := g.take nx s lent g') (nx := n2 + nx) (w := w') (id + nx) sz off len cap (by omega) (by rw [(take_new id).2.2]; exact hn) (by rw [(take_new id).2.1]; exact hc) hl
    rw [(take_new id).1] at this
    exact this
  | erp id sz i off h hn =>
    intro _
    have := CRel.erp (g := g.take nx s lent g') (nx := n2 + nx) (w := w') (id + nx) sz i off (by omega) (by rw [(take_new id).2.2]; exact hn)
    rw [(take_new id).1] at this
    exact this
  | mp id h =>
    intro _
    have := CRel.mp (g := g.take nx s lent g') (nx := n2 + nx) (w := w') (id + nx) (by omega)
    rw [(take_new id).1] at this
    exact this
  | clo f caps ys hl h ih =>
    intro hf
    simp only [shC, shCs_eq]
    refine .clo f _ ys (by simpa using hl) (fun i c y hc hy => ?_)
    rw [List.getElem?_map] at hc
    cases hq : caps[i]? with
    | none => simp [hq] at hc
    | some q =>
      simp only [hq, Option.map_some] at hc
      injection hc with hc
      subst hc
      exact ih i q y hq hy (fun hl => flatCs_at (by simpa [flatC] using hf hl) i q hq)
  | if1 t c y h ih =>
    intro hf
    simp only [shC]
    exact .if1 t _ y (ih (fun hl => by simpa [flatC] using hf hl))

theorem take_cs {cs : List CV} {ys : List Value} (h : Pw (CRel g' n2 w') cs ys) (hf : lent = true → flatCs cs = true) : Pw (CRel (g.take nx s lent g') (n2 + nx) w') (shCs nx cs) ys := by
  rw [shCs_eq]
  refine ⟨by simpa using h.len, fun i c y hc hy => ?_⟩
  rw [List.getElem?_map] at hc
  cases hq : cs[i]? with
  | none => simp [hq] at hc
  | some q =>
    simp only [hq, Option.map_some] at hc
    injection hc with hc
    subst hc
    exact take_c (h.at_ i q y hq hy) (fun hl => flatCs_at (hf hl) i q hq)

theorem take_v {v : AV} {y : Value} (h : VRel g' n2 w' v y) : (lent = true → flatV v = true) → VRel (g.take nx s lent g') (n2 + nx) w' (shV nx v) y := by
  induction h with
  | c x y h => exact fun hf => .c _ _ (take_c h (fun hl => by simpa [flatV] using hf hl))
  | agg xs ys h => exact fun hf => .agg _ _ (take_cs h (fun hl => by simpa [flatV] using hf hl))
  | tup vs ys hl h ih =>
    intro hf
    simp only [shV, shVs_eq]
    refine .tup _ ys (by simpa using hl) (fun i v y hv hy => ?_)
    rw [List.getElem?_map] at hv
    cases hq : vs[i]? with
    | none => simp [hq] at hv
    | some q =>
      simp only [hq, Option.map_some] at hv
      injection hv with hv
      subst hv
      exact ih i q y hq hy (fun hl => flatVs_at (by simpa [flatV] using hf hl) i q hq)
  | un => exact fun _ => .un

theorem look_shS (n : Nat) (s : Sto) : ∀ (s2 : Sto) (id : Nat) (o : Obj), look id (shS n s2 s) = some o → (∃ k o2, id = k + n ∧ look k s2 = some o2 ∧ o = shO n o2) ∨ look id s = some o := by
  intro s2
  induction s2 with
  | nil => exact fun id o h => .inr h
  | cons p r ih =>
    obtain ⟨k, o2⟩ := p
    intro id o h
    simp only [shS] at h
    rw [look_cons] at h
    split at h
    · rename_i hk
      injection h with h
      exact .inl ⟨k, o2, hk, by simp [look], h.symm⟩
    · rename_i hk
      rcases ih id o h with ⟨k', o', h1, h2, h3⟩ | h1
      · refine .inl ⟨k', o', h1, ?_, h3⟩
        rw [look_cons, if_neg (by omega)]
        exact h2
      · exact .inr h1

theorem phys_shO (g g' : Gh) (id id' n : Nat) (o : Obj) (h : g.nl id = g'.nl id') : phys g id (shO n o) = phys g' id' o := by
  cases o <;> simp [phys, shO, h]

/-- WHAT COMES BACK, TAKEN IN. -/
theorem take_in (hR : Rel P g nx s w) (hfz : ∀ b o, gl.fz b o → g.fz b o ∨ (lent = true ∧ own g s b)) (hfz2 : ∀ b o, g.fz b o → gl.fz b o) (hR' : Rel P g' n2 s2 w') (hst : Stp (own gl []) 0 gl w g' w') (how : Ow gl [] w g' s2)
    {v : AV} {y : Value} (hv : VRel g' n2 w' v y) (hs : safeS lent v s2) :
    Rel P (g.take nx s lent g') (n2 + nx) (shS nx s2 s) w' ∧ Stp (own g s) nx g w (g.take nx s lent g') w' ∧ Ow g s w (g.take nx s lent g') (shS nx s2 s) ∧ VRel (g.take nx s lent g') (n2 + nx) w' (shV nx v) y ∧ Same w w' := by
  have noown : ∀ b, ¬ own gl [] b := fun b ⟨id, o, h, _⟩ => by simp [look] at h
  have same : Same w w' := fun b hb => hst.blk b hb (noown b)
  have newlt : ∀ b, own g' s2 b → w.heap.size ≤ b := fun b hb => (how b hb).resolve_left (noown b)
  have fzold : ∀ b o, g.fz b o → (g.take nx s lent g').fz b o := fun b o h => ⟨hst.fz b o (hfz2 b o h), fun _ ho => hR.nofz b o ho h⟩
  have hK : Keeps nx g w (g.take nx s lent g') w' := ⟨fun id hid => take_old hid, fzold, fun b o h => cell_blk (same b (hR.fzlt b o h))⟩
  have fzn : ∀ b o, (g.take nx s lent g').fz b o → g.fz b o ∨ w.heap.size ≤ b := fun b o ⟨h1, h2⟩ => by
    rcases hst.fzn b o h1 with h | h | h
    · rcases hfz b o h with h | ⟨hl, ho⟩
      · exact .inl h
      · exact absurd ho (h2 hl)
    · exact absurd h (noown b)
    · exact .inr h
  have physNew : ∀ k o2, phys (g.take nx s lent g') (k + nx) (shO nx o2) = phys g' k o2 := fun k o2 => phys_shO _ _ _ _ _ _ (take_new k).2.2
  have physOld : ∀ id o, look id s = some o → phys (g.take nx s lent g') id o = phys g id o ∧ (g.take nx s lent g').β id = g.β id := fun id o h =>
    ⟨phys_bet (take_old (hR.lt id o h)).2.2 o, (take_old (hR.lt id o h)).1⟩
  have ownNew : ∀ k o2, look k s2 = some o2 → phys g' k o2 = true → w.heap.size ≤ g'.β k := fun k o2 h hp => newlt _ ⟨k, o2, h, hp, rfl⟩
  refine ⟨⟨fun id o h => ?_, fun id o h => ?_, fun id id' o o' h h' hp hp' he => ?_, fun b q ⟨id, o, h, hp, hb⟩ hq => ?_, fun b o h => ?_⟩, ⟨hst.size, fun b hb _ => same b hb, hst.os, hst.tape, hst.output, fun id hid => take_old hid, fzold, fun b o h => ?_⟩, fun b ⟨id, o, h, hp, hb⟩ => ?_, take_v hv hs.1, same⟩
  · rcases look_shS nx s s2 id o h with ⟨k, o2, rfl, h1, rfl⟩ | h1
    · have hsf := hs.2 k o2 h1
      cases hR'.obj k o2 h1 with
      | box cs ys T hb hp => exact .box _ ys T (by rw [(take_new k).1]; exact hb) (take_cs hp hsf)
      | arrnil e sz f hn => exact .arrnil e sz f (by rw [(take_new k).2.2]; exact hn)
      | arr e sz n f ys hn hb hk hm hsz hlen hcr hone =>
        refine .arr e sz n f ys (by rw [(take_new k).2.2]; exact hn) (by rw [(take_new k).1]; exact hb) (by rw [(take_new k).2.1]; exact hk) (by rw [(take_new k).2.1]; exact hm) (by rw [(take_new k).2.1]; exact hsz) hlen (fun i j c y hi hc hy => ?_) hone
        have hno := (hsf i hi).1
        have hnoc : noId c = true := by
          have : ∀ {cs : List CV}, noIds cs = true → ∀ (j : Nat) (c : CV), cs[j]? = some c → noId c = true := by
            intro cs
            induction cs with
            | nil => intro _ j c h; simp at h
            | cons x r ih =>
              intro h j c hc
              simp only [noIds] at h
              split at h
              · cases j with
                | zero => simp at hc; subst hc; assumption
                | succ j => exact ih h j c (by simpa using hc)
              · cases h
          exact this hno j c hc
        exact .d _ _ (take_d (noId_d hnoc (hcr i j c y hi hc hy)) (fun hl => flatCs_at ((hsf i hi).2 hl) j c hc))
      | sit b pos hb => exact .sit b pos (by rw [(take_new k).1]; exact hb)
      | map k' u ag dom val es clock hb hM =>
        have hl : lent = false := hsf
        exact .map _ _ _ _ _ es clock (by rw [(take_new k).1]; exact hb) (hM.mono (fun _ _ h => ⟨h, by simp [hl]⟩) (fun _ _ _ => rfl))
    · exact (hR.obj id o h1).keeps hK (Nat.le_add_left _ _) (hR.lt id o h1) (fun hp => same _ (phys_lt hR h1 hp))
  · rcases look_shS nx s s2 id o h with ⟨k, o2, rfl, h1, rfl⟩ | h1
    · have := hR'.lt k o2 h1; omega
    · have := hR.lt id o h1; omega
  · rcases look_shS nx s s2 id o h with ⟨k, o2, rfl, h1, rfl⟩ | h1
    · rw [physNew] at hp
      rw [(take_new k).1] at he
      rcases look_shS nx s s2 id' o' h' with ⟨k', o2', rfl, h1', rfl⟩ | h1'
      · rw [physNew] at hp'
        rw [(take_new k').1] at he
        rw [hR'.inj k k' o2 o2' h1 h1' hp hp' he]
      · rw [(physOld id' o' h1').1] at hp'
        rw [(physOld id' o' h1').2] at he
        have a1 := ownNew k o2 h1 hp
        have a2 := phys_lt hR h1' hp'
        omega
    · rw [(physOld id o h1).1] at hp
      rw [(physOld id o h1).2] at he
      rcases look_shS nx s s2 id' o' h' with ⟨k', o2', rfl, h1', rfl⟩ | h1'
      · rw [physNew] at hp'
        rw [(take_new k').1] at he
        have a1 := ownNew k' o2' h1' hp'
        have a2 := phys_lt hR h1 hp
        omega
      · rw [(physOld id' o' h1').1] at hp'
        rw [(physOld id' o' h1').2] at he
        exact hR.inj id id' o o' h1 h1' hp hp' he
  · rcases look_shS nx s s2 id o h with ⟨k, o2, rfl, h1, rfl⟩ | h1
    · rw [physNew] at hp
      rw [(take_new k).1] at hb
      exact hR'.nofz b q ⟨k, o2, h1, hp, hb⟩ hq.1
    · rw [(physOld id o h1).1] at hp
      rw [(physOld id o h1).2] at hb
      rcases fzn b q hq with hq | hq
      · exact hR.nofz b q ⟨id, o, h1, hp, hb⟩ hq
      · have := phys_lt hR h1 hp
        omega
  · exact hR'.fzlt b o h.1
  · rcases fzn b o h with h | h
    · exact .inl h
    · exact .inr (.inr h)
  · rcases look_shS nx s s2 id o h with ⟨k, o2, rfl, h1, rfl⟩ | h1
    · rw [physNew] at hp
      rw [(take_new k).1] at hb
      exact .inr (newlt b ⟨k, o2, h1, hp, hb⟩)
    · rw [(physOld id o h1).1] at hp
      rw [(physOld id o h1).2] at hb
      exact .inl ⟨id, o, h1, hp, hb⟩

theorem Rel.hold (hR : Rel P g nx s w) : Rel P (g.hold s) 0 [] w :=
  ⟨fun id o h => by simp [look] at h, fun id o h => by simp [look] at h, fun id id' o o' h => by simp [look] at h, fun b q ⟨id, o, h, _⟩ => by simp [look] at h, fun b o h => by
    rcases h with h | ⟨id, o', h1, h2, h3⟩
    · exact hR.fzlt b o h
    · rw [← h3]; exact phys_lt hR h1 h2⟩
theorem Rel.bare (hR : Rel P g nx s w) : Rel P g 0 [] w :=
  ⟨fun id o h => by simp [look] at h, fun id o h => by simp [look] at h, fun id id' o o' h => by simp [look] at h, fun b q ⟨id, o, h, _⟩ => by simp [look] at h, hR.fzlt⟩

/-- A call's end: and nothing that was there has turned, unless the function is one that turns what it is handed. -/
def FinX (m : Bool) (P : Program) (g : Gh) (nx : Nat) (s : Sto) (w : World) (K : AV → Sto → Nat → Prop) (y : Value) (w' : World) : Prop :=
  Fin P g nx s w K y w' ∧ (m = false → Same w w')

theorem fin_take {K : AV → Sto → Nat → Prop} (hR : Rel P g nx s w) (hfz : ∀ b o, gl.fz b o → g.fz b o ∨ (lent = true ∧ own g s b)) (hfz2 : ∀ b o, g.fz b o → gl.fz b o) {y : Value}
    (h : Fin P gl 0 [] w (fun v s2 n2 => safeS lent v s2 ∧ K (shV nx v) (shS nx s2 s) (n2 + nx)) y w') : FinX false P g nx s w K y w' := by
  obtain ⟨v, g', n2, s2, ⟨hs, hK⟩, _, hR', hst, how, hv⟩ := h
  obtain ⟨h1, h2, h3, h4, h5⟩ := take_in hR hfz hfz2 hR' hst how hv hs
  exact ⟨⟨_, _, _, _, hK, Nat.le_add_left _ _, h1, h2, h3, h4⟩, fun _ => h5⟩

theorem callX_sound {weak : St → St → Prop} {C : Cfg} {f : Nat} {vs : List AV} {K : AV → Sto → Nat → Prop} (hR : Rel P g nx s w) {xs : List Value} (hA : Args g nx w vs xs) (h : callX (real (TriS P) weak) C f vs s nx K) :
    (∃ y w', FinX (mem f C.muts) P g nx s w K y w' ∧ (callFunc f xs.toArray).run P w = .ok (.value y) w') ∨
    ((callFunc f xs.toArray).run P w = .ok (.enter f xs.toArray) w ∧ Calls P f xs.toArray w fun e w' => ∃ y, e = .returned y ∧ FinX (mem f C.muts) P g nx s w K y w') := by
  unfold callX at h
  split at h
  · rename_i hm
    rcases h g w xs hR hA with ⟨y, w', h1, h2⟩ | ⟨h1, h2⟩
    · exact .inl ⟨y, w', ⟨h1, by simp [hm]⟩, h2⟩
    · exact .inr ⟨h1, Calls.mono h2 fun e w' ⟨y, he, hF⟩ => ⟨y, he, hF, by simp [hm]⟩⟩
  · rename_i hm
    split at h
    · rename_i vs' hl
      have hA' : Args g 0 w vs' xs := lendVs_args hl hA (fun c d q y h1 h2 h3 _ => by have := h3 rfl; subst this; exact lendC_none h1 h2)
      have fin : ∀ {y w'}, Fin P g 0 [] w (fun v s2 n2 => safeS false v s2 ∧ K (shV nx v) (shS nx s2 s) (n2 + nx)) y w' → FinX (mem f C.muts) P g nx s w K y w' := fun hF => by
        rw [hm]
        exact fin_take hR (fun _ _ h => .inl h) (fun _ _ h => h) hF
      rcases h g w xs hR.bare hA' with ⟨y, w', h1, h2⟩ | ⟨h1, h2⟩
      · exact .inl ⟨y, w', fin h1, h2⟩
      · exact .inr ⟨h1, Calls.mono h2 fun e w' ⟨y, he, hF⟩ => ⟨y, he, fin hF⟩⟩
    · rename_i vs' p hl
      obtain ⟨hp, h⟩ := h
      have hA' : Args (g.hold s) 0 w vs' xs := lendVs_args hl hA (fun c d q y h1 h2 _ h4 => lendC_some hR h1 h2 (h4 (fun r hr => by injection hr with hr; exact hr ▸ hp)))
      have fin : ∀ {y w'}, Fin P (g.hold s) 0 [] w (fun v s2 n2 => safeS true v s2 ∧ K (shV nx v) (shS nx s2 s) (n2 + nx)) y w' → FinX (mem f C.muts) P g nx s w K y w' := fun hF => by
        rw [hm]
        exact fin_take (gl := g.hold s) hR (fun _ _ h => Or.imp (fun q => q) (fun h => ⟨rfl, h⟩) h) (fun _ _ h => Or.inl h) hF
      rcases h (g.hold s) w xs hR.hold hA' with ⟨y, w', h1, h2⟩ | ⟨h1, h2⟩
      · exact .inl ⟨y, w', fin h1, h2⟩
      · exact .inr ⟨h1, Calls.mono h2 fun e w' ⟨y, he, hF⟩ => ⟨y, he, fin hF⟩⟩
    · exact h.elim
end
end Am
