/-
  What is handed to a call, lent; what comes back, taken in.
-/
import Derived.Test.YtijphjckgdomlaaAm14
set_option linter.all false
namespace Am
open Go

/-- An end that fits. -/
def Fin (P : Program) (g : Gh) (nx : Nat) (s : Sto) (w : World) (K : AV → Sto → Nat → Prop) (y : Value) (w' : World) : Prop :=
  ∃ v g' nx' s', K v s' nx' ∧ nx ≤ nx' ∧ Rel P g' nx' s' w' ∧ Stp (own g s) nx g w g' w' ∧ Ow g s w g' s' ∧ VRel g' nx' w' v y

structure Args (g : Gh) (nx : Nat) (w : World) (vs : List AV) (xs : List Value) : Prop where
  len : vs.length = xs.length
  at_ : ∀ (i : Nat) (v : AV) (x : Value), vs[i]? = some v → xs[i]? = some x → VRel g nx w v x

/-- What a call of a function comes to: of every world that fits. -/
def TriS (P : Program) (f : FuncId) (vs : List AV) (s : Sto) (nx : Nat) (K : AV → Sto → Nat → Prop) : Prop :=
  ∀ (g : Gh) (w : World) (xs : List Value), Rel P g nx s w → Args g nx w vs xs →
    (∃ y w', Fin P g nx s w K y w' ∧ (callFunc f xs.toArray).run P w = .ok (.value y) w') ∨
    ((callFunc f xs.toArray).run P w = .ok (.enter f xs.toArray) w ∧ Calls P f xs.toArray w fun e w' => ∃ y, e = .returned y ∧ Fin P g nx s w K y w')

section
variable {P : Program} {T : Tab} {g g' : Gh} {nx nx' n2 : Nat} {w w' : World} {s s2 : Sto}
variable {A : Ar}

theorem lend_d {fz : Nat → Nat → Prop} {c : CV} {y : Value} (h : DRel fz w c y) : lendC A s c = some ⟨c, none⟩ := by
  induction h with
  | if1 t c y h ih => simp [lendC, ih]
  | _ => rfl
theorem sh_d {fz : Nat → Nat → Prop} {c : CV} {y : Value} (n : Nat) (h : DRel fz w c y) : shC n c = c := by
  induction h with
  | if1 t c y h ih => simp [shC, ih]
  | _ => rfl

theorem andP_none {p q : Option Prop} (h : andP p q = none) : p = none ∧ q = none := by
  cases p <;> cases q <;> first | exact ⟨rfl, rfl⟩ | cases h
theorem lendCs_at : ∀ {cs : List CV} {l : List CV} {p : Option Prop}, lendCs A s cs = some ⟨l, p⟩ → l.length = cs.length ∧
    ∀ (i : Nat) (c : CV), cs[i]? = some c → ∃ d q, l[i]? = some d ∧ lendC A s c = some ⟨d, q⟩ ∧ (p = none → q = none) ∧ ((∀ r, p = some r → r) → ∀ r, q = some r → r) := by
  intro cs
  induction cs with
  | nil => intro l p h; simp [lendCs] at h; obtain ⟨rfl, rfl⟩ := h; exact ⟨rfl, fun i c h => by simp at h⟩
  | cons c r ih =>
    intro l p h
    simp only [lendCs] at h
    split at h
    case h_2 => cases h
    rename_i d q l' p' h1 h2
    simp only [Option.some.injEq, Lt.mk.injEq] at h
    obtain ⟨rfl, rfl⟩ := h
    obtain ⟨ih1, ih2⟩ := ih h2
    refine ⟨by simp [ih1], fun i c' hc => ?_⟩
    cases i with
    | zero =>
      simp at hc
      subst hc
      refine ⟨d, q, rfl, h1, fun hn => (andP_none hn).1, fun hp r hr => ?_⟩
      · subst hr
        cases p' with
        | none => exact hp r rfl
        | some p' => exact (hp (r ∧ p') rfl).1
    | succ i =>
      obtain ⟨d', q', e1, e2, e3, e4⟩ := ih2 i c' (by simpa using hc)
      refine ⟨d', q', by simpa using e1, e2, fun hn => e3 (andP_none hn).2, fun hp => e4 ?_⟩
      · intro r hr
        subst hr
        cases q with
        | none => exact hp r rfl
        | some q => exact (hp (q ∧ r) rfl).2

/-- Nothing was lent. -/
theorem lendC_none {c d : CV} {y : Value} (h : CRel g nx w c y) : lendC A s c = some ⟨d, none⟩ → CRel g 0 w d y := by
  induction h generalizing d with
  | d c y h =>
    intro hl
    rw [lend_d h] at hl
    simp only [Option.some.injEq, Lt.mk.injEq, and_true] at hl
    subst hl
    exact .d _ _ h
  | ptr id off h => intro hl; simp only [lendC] at hl; split at hl <;> (try split at hl) <;> simp_all
  | refnil id sz h hn => intro hl; simp only [lendC] at hl; split at hl <;> (try split at hl) <;> simp_all
  | ref id sz off len cap h hn hc hle => intro hl; simp only [lendC] at hl; split at hl <;> (try split at hl) <;> simp_all
  | erp id sz i off h hn => intro hl; simp [lendC] at hl
  | mp id h => intro hl; simp [lendC] at hl
  | clo f caps ys hl h ih =>
    intro hd
    simp only [lendC] at hd
    split at hd
    case h_2 => cases hd
    rename_i l p hl'
    simp only [Option.some.injEq, Lt.mk.injEq] at hd
    obtain ⟨rfl, rfl⟩ := hd
    obtain ⟨e1, e2⟩ := lendCs_at hl'
    refine .clo f l ys (by rw [e1, hl]) (fun i c y hc hy => ?_)
    have hi : i < caps.length := by rw [← e1]; exact (List.getElem?_eq_some_iff.1 hc).1
    obtain ⟨d', q, q1, q2, q3, _⟩ := e2 i caps[i] (List.getElem?_eq_getElem hi)
    rw [hc] at q1
    injection q1 with q1
    subst q1
    have hq := q3 rfl
    subst hq
    exact ih i caps[i] y (List.getElem?_eq_getElem hi) hy q2
  | if1 t c y h ih =>
    intro hd
    simp only [lendC] at hd
    split at hd
    case h_2 => cases hd
    rename_i x p hx
    simp only [Option.some.injEq, Lt.mk.injEq] at hd
    obtain ⟨rfl, rfl⟩ := hd
    exact .if1 t x y (ih hx)

/-- While the call lasts, what is own stays as it is. -/
def Gh.hold (g : Gh) (s : Sto) : Gh := ⟨g.β, g.κ, g.nl, fun b o => g.fz b o ∨ own g s b⟩

theorem lendC_some {tri : FuncId → List AV → Sto → Nat → (AV → Sto → Nat → Prop) → Prop} {weak : St → St → Prop} (hR : Rel P g nx s w) {c d : CV} {p : Option Prop} {y : Value} (h : CRel g nx w c y) :
    lendC (real tri weak) s c = some ⟨d, p⟩ → (∀ q, p = some q → q) → CRel (g.hold s) 0 w d y := by
  have mono : ∀ {c y}, DRel g.fz w c y → DRel (g.hold s).fz w c y := fun h => h.mono (fun _ _ h => .inl h) (fun _ _ _ => rfl)
  induction h generalizing d p with
  | d c y h =>
    intro hl _
    rw [lend_d h] at hl
    simp only [Option.some.injEq, Lt.mk.injEq] at hl
    obtain ⟨rfl, rfl⟩ := hl
    exact .d _ _ (mono h)
  | ptr id off h =>
    intro hl hp
    simp only [lendC] at hl
    split at hl
    case h_2 => cases hl
    rename_i cs hlk
    split at hl
    case h_2 => cases hl
    rename_i hno
    simp only [Option.some.injEq, Lt.mk.injEq] at hl
    obtain ⟨rfl, rfl⟩ := hl
    cases hR.obj id _ hlk with
    | box _ ys T hb hpw =>
      have hd := noIds_d hno hpw
      have : DRel (g.hold s).fz w (.elp cs off) (.pointer (some ⟨g.β id, 0 + off, none⟩)) := by
        have at_ : ∀ (j : Nat) (c : CV), cs[j]? = some c → ys[j]? = some (ys[j]?.getD undef) := fun j c hj => by
          have hlt : j < ys.length := by rw [← hpw.len]; exact (List.getElem?_eq_some_iff.1 hj).1
          simp [hlt]
        refine .elp cs off (g.β id) 0 (fun j => ys[j]?.getD undef) (fun j c hj => ?_) (fun j c hj => .inr ⟨id, _, hlk, rfl, rfl⟩) (fun j c hj => mono (hd.at_ j c _ hj (at_ j c hj)))
        rw [Nat.zero_add, cell_of_row w _ _ _ _ _ hb]
        simpa using at_ j c hj
      rw [Nat.zero_add] at this
      exact .d _ _ this
  | refnil id sz h hn =>
    intro hl hp
    simp only [lendC] at hl
    split at hl
    case h_2 => cases hl
    split at hl
    case h_2 => cases hl
    simp only [Option.some.injEq, Lt.mk.injEq] at hl
    obtain ⟨rfl, rfl⟩ := hl
    exact .d _ _ (.nilsl sz _)
  | ref id sz off len cap h hn hc hle =>
    intro hl hp
    simp only [lendC] at hl
    split at hl
    case h_2 => cases hl
    rename_i u z k f hlk
    split at hl
    case h_2 => cases hl
    rename_i hz
    have hz := eqt hz
    subst hz
    simp only [Option.some.injEq, Lt.mk.injEq] at hl
    obtain ⟨rfl, rfl⟩ := hl
    obtain ⟨⟨_, _, hk⟩, hno⟩ := hp _ rfl
    have hk : off + len ≤ k := Int.ofNat_le.mp hk
    have hno : ∀ i, i < k → noIds (f i) = true := hno
    cases hR.obj id _ hlk with
    | arrnil _ _ _ hn' => rw [hn'] at hn; cases hn
    | arr _ _ _ _ ys hn' hb hkk hm hsz hlen hcr hone =>
      have get : ∀ i j c, i < k → (f i)[j]? = some c → ys[i * sz + j]? = some (ys[i * sz + j]?.getD undef) := fun i j c hi hj => by
        have hjl : j < sz := by have := (List.getElem?_eq_some_iff.1 hj).1; rw [hlen i hi] at this; exact this
        have hlt : i * sz + j < ys.length := by
          have := Nat.mul_le_mul_right sz (show i + 1 ≤ g.κ id by omega)
          rw [Nat.succ_mul] at this
          omega
        simp [hlt]
      have e : ∀ i j, off * sz + (i * sz + j) = (i + off) * sz + j := fun i j => by rw [Nat.add_mul]; omega
      refine .d _ _ (.sl sz len 0 (fun i => f (i + off)) (g.β id) (off * sz) cap (fun i j => ys[(i + off) * sz + j]?.getD undef) (by omega) (by omega) (fun i hi => hlen _ (by omega)) (fun i j c hi hj => ?_) (fun i j c hi hj => .inr ⟨id, _, hlk, by simp [phys, hn], rfl⟩) (fun i j c hi hj => ?_))
      · rw [e, cell_of_row w _ _ _ _ _ hb]
        simpa using get (i + off) j c (by omega) hj
      · have hi' : i + off < k := by omega
        have hp : Pw (CRel g nx w) (f (i + off)) ((ys.drop ((i + off) * sz)).take sz) := by
          have hle2 : (i + off) * sz + sz ≤ ys.length := by
            have := Nat.mul_le_mul_right sz (show i + off + 1 ≤ g.κ id by omega)
            rw [Nat.succ_mul] at this
            omega
          refine ⟨by rw [hlen _ hi']; simp; omega, fun q c y h1 h2 => ?_⟩
          simp only [List.getElem?_take, List.getElem?_drop] at h2
          split at h2
          · exact hcr _ q c y hi' h1 h2
          · cases h2
        have hd := noIds_d (hno _ hi') hp
        have hjl : j < sz := by have := (List.getElem?_eq_some_iff.1 hj).1; rw [hlen _ hi'] at this; exact this
        exact mono (hd.at_ j c _ hj (by rw [List.getElem?_take, if_pos hjl, List.getElem?_drop]; exact get (i + off) j c hi' hj))
  | erp id sz i off h hn => intro hl; simp [lendC] at hl
  | mp id h => intro hl; simp [lendC] at hl
  | clo f caps ys hl h ih =>
    intro hd hp
    simp only [lendC] at hd
    split at hd
    case h_2 => cases hd
    rename_i l p' hl'
    simp only [Option.some.injEq, Lt.mk.injEq] at hd
    obtain ⟨rfl, rfl⟩ := hd
    obtain ⟨e1, e2⟩ := lendCs_at hl'
    refine .clo f l ys (by rw [e1, hl]) (fun i c y hc hy => ?_)
    have hi : i < caps.length := by rw [← e1]; exact (List.getElem?_eq_some_iff.1 hc).1
    obtain ⟨d', q, q1, q2, _, q4⟩ := e2 i caps[i] (List.getElem?_eq_getElem hi)
    rw [hc] at q1
    injection q1 with q1
    subst q1
    exact ih i caps[i] y (List.getElem?_eq_getElem hi) hy q2 (q4 hp)
  | if1 t c y h ih =>
    intro hd hp
    simp only [lendC] at hd
    split at hd
    case h_2 => cases hd
    rename_i x p' hx
    simp only [Option.some.injEq, Lt.mk.injEq] at hd
    obtain ⟨rfl, rfl⟩ := hd
    exact .if1 t x y (ih hx hp)

theorem lendV_at {R R' : CV → Value → Prop} {v d : AV} {p : Option Prop} {y : Value} (hl : lendV A s v = some ⟨d, p⟩) (hc : ∀ (c d : CV) (q : Option Prop) (y : Value), R c y → lendC A s c = some ⟨d, q⟩ → (p = none → q = none) → ((∀ r, p = some r → r) → ∀ r, q = some r → r) → R' d y)
    (h : (∃ c, v = .c c ∧ R c y) ∨ ∃ xs ys, v = .agg xs ∧ y = .agg (List.toArray ys) ∧ Pw R xs ys) : (∃ c, d = .c c ∧ R' c y) ∨ ∃ xs ys, d = .agg xs ∧ y = .agg (List.toArray ys) ∧ Pw R' xs ys := by
  rcases h with ⟨c, rfl, hr⟩ | ⟨xs, ys, rfl, rfl, hp⟩
  · simp only [lendV] at hl
    split at hl
    case h_2 => cases hl
    rename_i x q hx
    simp only [Option.some.injEq, Lt.mk.injEq] at hl
    obtain ⟨rfl, rfl⟩ := hl
    exact .inl ⟨x, rfl, hc c x q y hr hx id id⟩
  · simp only [lendV] at hl
    split at hl
    case h_2 => cases hl
    rename_i l q hx
    simp only [Option.some.injEq, Lt.mk.injEq] at hl
    obtain ⟨rfl, rfl⟩ := hl
    obtain ⟨e1, e2⟩ := lendCs_at hx
    refine .inr ⟨l, ys, rfl, rfl, by rw [e1]; exact hp.len, fun i c y hc' hy => ?_⟩
    have hi : i < xs.length := by rw [← e1]; exact (List.getElem?_eq_some_iff.1 hc').1
    obtain ⟨d', q', q1, q2, q3, q4⟩ := e2 i xs[i] (List.getElem?_eq_getElem hi)
    rw [hc'] at q1
    injection q1 with q1
    subst q1
    exact hc _ _ _ _ (hp.at_ i xs[i] y (List.getElem?_eq_getElem hi) hy) q2 q3 q4

theorem lendVs_at : ∀ {vs l : List AV} {p : Option Prop}, lendVs A s vs = some ⟨l, p⟩ → l.length = vs.length ∧
    ∀ (i : Nat) (c : AV), vs[i]? = some c → ∃ d q, l[i]? = some d ∧ lendV A s c = some ⟨d, q⟩ ∧ (p = none → q = none) ∧ ((∀ r, p = some r → r) → ∀ r, q = some r → r) := by
  intro cs
  induction cs with
  | nil => intro l p h; simp [lendVs] at h; obtain ⟨rfl, rfl⟩ := h; exact ⟨rfl, fun i c h => by simp at h⟩
  | cons c r ih =>
    intro l p h
    simp only [lendVs] at h
    split at h
    case h_2 => cases h
    rename_i d q l' p' h1 h2
    simp only [Option.some.injEq, Lt.mk.injEq] at h
    obtain ⟨rfl, rfl⟩ := h
    obtain ⟨ih1, ih2⟩ := ih h2
    refine ⟨by simp [ih1], fun i c' hc => ?_⟩
    cases i with
    | zero =>
      simp at hc
      subst hc
      refine ⟨d, q, rfl, h1, fun hn => (andP_none hn).1, fun hp r hr => ?_⟩
      · subst hr
        cases p' with
        | none => exact hp r rfl
        | some p' => exact (hp (r ∧ p') rfl).1
    | succ i =>
      obtain ⟨d', q', e1, e2, e3, e4⟩ := ih2 i c' (by simpa using hc)
      refine ⟨d', q', by simpa using e1, e2, fun hn => e3 (andP_none hn).2, fun hp => e4 ?_⟩
      · intro r hr
        subst hr
        cases q with
        | none => exact hp r rfl
        | some q => exact (hp (q ∧ r) rfl).2

theorem vrel_cases {v : AV} {y : Value} (h : VRel g nx w v y) (hv : ∀ vs, v ≠ .tup vs) (hu : v ≠ .un) : (∃ c, v = .c c ∧ CRel g nx w c y) ∨ ∃ xs ys, v = .agg xs ∧ y = .agg (List.toArray ys) ∧ Pw (CRel g nx w) xs ys := by
  cases h with
  | c x y h => exact .inl ⟨x, rfl, h⟩
  | agg xs ys h => exact .inr ⟨xs, ys, rfl, rfl, h⟩
  | tup vs => exact absurd rfl (hv vs)
  | un => exact absurd rfl hu
theorem vrel_of {v : AV} {y : Value} (h : (∃ c, v = .c c ∧ CRel g nx w c y) ∨ ∃ xs ys, v = .agg xs ∧ y = .agg (List.toArray ys) ∧ Pw (CRel g nx w) xs ys) : VRel g nx w v y := by
  rcases h with ⟨c, rfl, hr⟩ | ⟨xs, ys, rfl, rfl, hp⟩
  · exact .c _ _ hr
  · exact .agg _ _ hp

theorem lendVs_args {gl : Gh} {vs l : List AV} {p : Option Prop} {xs : List Value} (hl : lendVs A s vs = some ⟨l, p⟩) (hA : Args g nx w vs xs)
    (hc : ∀ (c d : CV) (q : Option Prop) (y : Value), CRel g nx w c y → lendC A s c = some ⟨d, q⟩ → (p = none → q = none) → ((∀ r, p = some r → r) → ∀ r, q = some r → r) → CRel gl 0 w d y) : Args gl 0 w l xs := by
  obtain ⟨e1, e2⟩ := lendVs_at hl
  refine ⟨by rw [e1]; exact hA.len, fun i v x hv hx => ?_⟩
  have hi : i < vs.length := by rw [← e1]; exact (List.getElem?_eq_some_iff.1 hv).1
  obtain ⟨d', q', q1, q2, q3, q4⟩ := e2 i vs[i] (List.getElem?_eq_getElem hi)
  rw [hv] at q1
  injection q1 with q1
  subst q1
  have hr := hA.at_ i vs[i] x (List.getElem?_eq_getElem hi) hx
  have hv2 : (∀ us, vs[i] ≠ .tup us) ∧ vs[i] ≠ .un := by
    constructor
    · intro us e; rw [e] at q2; simp [lendV] at q2
    · intro e; rw [e] at q2; simp [lendV] at q2
  exact vrel_of (lendV_at q2 (fun c d q y h1 h2 h3 h4 => hc c d q y h1 h2 (fun h => h3 (q3 h)) (fun h => h4 (q4 h))) (vrel_cases hr hv2.1 hv2.2))
end
end Am
