/-
  What an abstract value says of a value in a world; what stays true of it when the world goes on.
-/
import Derived.Test.YtijphjckgdomlaaAm1
import Derived.Below
import Derived.WalkKit
set_option linter.all false
namespace Am
open Go

/-- How the numbers of own objects lie in the heap; which cells will never turn. -/
structure Gh where
  β : Nat → Nat
  κ : Nat → Nat
  nl : Nat → Bool
  fz : Nat → Nat → Prop

/-- Plain data: no own object in it. -/
inductive DRel (fz : Nat → Nat → Prop) (w : World) : CV → Value → Prop
  | v (x : Value) (h : x.oneCell' = true) : DRel fz w (.v x) x
  | lit (b : Bool) : DRel fz w (.lit b) (.bool b)
  | z (A : Option Addr) : DRel fz w .z (.slice A 0 0)
  | nilsl (sz : Nat) (f : Nat → List CV) : DRel fz w (.sl sz 0 0 f) (.slice none 0 0)
  | sl (sz n m : Nat) (f : Nat → List CV) (b o cap : Nat) (vals : Nat → Nat → Value) (hcap : n + m ≤ cap) (hmax : cap ≤ maxLen)
      (hlen : ∀ i, i < n + m → (f i).length = sz)
      (hc : ∀ (i j : Nat) (c : CV), i < n + m → (f i)[j]? = some c → w.cell? ⟨b, o + (i * sz + j), none⟩ = some (vals i j))
      (hf : ∀ (i j : Nat) (c : CV), i < n + m → (f i)[j]? = some c → fz b (o + (i * sz + j)))
      (hr : ∀ (i j : Nat) (c : CV), i < n + m → (f i)[j]? = some c → DRel fz w c (vals i j)) : DRel fz w (.sl sz n m f) (.slice (some ⟨b, o, none⟩) n cap)
  | if1 (t : TypeId) (c : CV) (y : Value) (h : DRel fz w c y) : DRel fz w (.if1 t c) (.iface t y)
  | ifa (t : TypeId) (xs : List CV) (ys : List Value) (hl : xs.length = ys.length)
      (h : ∀ (i : Nat) (c : CV) (y : Value), xs[i]? = some c → ys[i]? = some y → DRel fz w c y) : DRel fz w (.ifa t xs) (.iface t (.agg ys.toArray))
  | elp (xs : List CV) (off b o : Nat) (vals : Nat → Value)
      (hc : ∀ (j : Nat) (c : CV), xs[j]? = some c → w.cell? ⟨b, o + j, none⟩ = some (vals j))
      (hf : ∀ (j : Nat) (c : CV), xs[j]? = some c → fz b (o + j))
      (hr : ∀ (j : Nat) (c : CV), xs[j]? = some c → DRel fz w c (vals j)) : DRel fz w (.elp xs off) (.pointer (some ⟨b, o + off, none⟩))

inductive CRel (g : Gh) (nx : Nat) (w : World) : CV → Value → Prop
  | d (c : CV) (y : Value) (h : DRel g.fz w c y) : CRel g nx w c y
  | ptr (id off : Nat) (h : id < nx) : CRel g nx w (.ptr id off) (.pointer (some ⟨g.β id, off, none⟩))
  | refnil (id sz : Nat) (h : id < nx) (hn : g.nl id = true) : CRel g nx w (.ref id sz 0 0) (.slice none 0 0)
  | ref (id sz off len cap : Nat) (h : id < nx) (hn : g.nl id = false) (hc : off + cap = g.κ id) (hl : len ≤ cap) :
      CRel g nx w (.ref id sz off len) (.slice (some ⟨g.β id, off * sz, none⟩) len cap)
  | erp (id sz i off : Nat) (h : id < nx) (hn : g.nl id = false) : CRel g nx w (.erp id sz i off) (.pointer (some ⟨g.β id, i * sz + off, none⟩))
  | mp (id : Nat) (h : id < nx) : CRel g nx w (.mp id) (.map (some (g.β id)))
  | clo (f : FuncId) (caps : List CV) (ys : List Value) (hl : caps.length = ys.length)
      (h : ∀ (i : Nat) (c : CV) (y : Value), caps[i]? = some c → ys[i]? = some y → CRel g nx w c y) : CRel g nx w (.clo f caps) (.func (.func f) #[] ys.toArray)
  | if1 (t : TypeId) (c : CV) (y : Value) (h : CRel g nx w c y) : CRel g nx w (.if1 t c) (.iface t y)

/-- Cells, one by one. -/
structure Pw (R : CV → Value → Prop) (xs : List CV) (ys : List Value) : Prop where
  len : xs.length = ys.length
  at_ : ∀ (i : Nat) (c : CV) (y : Value), xs[i]? = some c → ys[i]? = some y → R c y

inductive VRel (g : Gh) (nx : Nat) (w : World) : AV → Value → Prop
  | c (x : CV) (y : Value) (h : CRel g nx w x y) : VRel g nx w (.c x) y
  | agg (xs : List CV) (ys : List Value) (h : Pw (CRel g nx w) xs ys) : VRel g nx w (.agg xs) (.agg ys.toArray)
  | tup (vs : List AV) (ys : List Value) (hl : vs.length = ys.length)
      (h : ∀ (i : Nat) (v : AV) (y : Value), vs[i]? = some v → ys[i]? = some y → VRel g nx w v y) : VRel g nx w (.tup vs) (.tuple ys.toArray)
  | un : VRel g nx w .un undef

def EnvRel (g : Gh) (nx : Nat) (w : World) (e : Env) (tmps : Array Value) : Prop :=
  ∀ k v, look k e = some v → ∃ x, tmps[k]? = some x ∧ VRel g nx w v x

def vlB (ag : Bool) (ys : List Value) : Value := if ag then .agg ys.toArray else ys.headD undef

/-- Entries of a map with whole numbers as keys. -/
structure MRel (fz : Nat → Nat → Prop) (w : World) (P : Program) (k u : Nat) (ag : Bool) (dom : Int → Bool) (val : Int → List CV) (es : List MapEntry) : Prop where
  keys : ∃ q, P.underlying k = some (.int q) ∧ ∀ e ∈ es, ∃ n, e.key = .int q n
  nodup : ∀ (i j : Nat) (e e' : MapEntry), es[i]? = some e → es[j]? = some e' → e.key = e'.key → i = j
  here : ∀ e ∈ es, ∀ q n, e.key = .int q n → dom n = true ∧ ∃ ys, e.val = vlB ag ys ∧ Pw (DRel fz w) (val n) ys
  shut : ∀ n, dom n = true → ∃ e ∈ es, ∃ q, e.key = .int q n
  zero : ∃ i ys, P.info? u = some i ∧ i.zero = some (vlB ag ys) ∧ ∀ n, dom n = false → Pw (DRel fz w) (val n) ys

inductive ORel (P : Program) (g : Gh) (nx : Nat) (w : World) (id : Nat) : Obj → Prop
  | box (cs : List CV) (ys : List Value) (T : TypeId) (hb : w.heap[g.β id]? = some (.cells ys.toArray T (0, 0))) (h : Pw (CRel g nx w) cs ys) : ORel P g nx w id (.box cs)
  | arrnil (e sz : Nat) (f : Nat → List CV) (hn : g.nl id = true) : ORel P g nx w id (.arr e sz 0 f)
  | arr (e sz n : Nat) (f : Nat → List CV) (ys : List Value) (hn : g.nl id = false) (hb : w.heap[g.β id]? = some (.cells ys.toArray e (0, 0)))
      (hk : n ≤ g.κ id) (hm : g.κ id ≤ maxLen) (hsz : ys.length = g.κ id * sz) (hlen : ∀ i, i < n → (f i).length = sz)
      (h : ∀ (i j : Nat) (c : CV) (y : Value), i < n → (f i)[j]? = some c → ys[i * sz + j]? = some y → CRel g nx w c y) (h1 : ∀ y ∈ ys, y.oneCell' = true) : ORel P g nx w id (.arr e sz n f)
  | map (k u : Nat) (ag : Bool) (dom : Int → Bool) (val : Int → List CV) (es : Array MapEntry) (clock : Nat) (hb : w.heap[g.β id]? = some (.map es clock))
      (h : MRel g.fz w P k u ag dom val es.toList) : ORel P g nx w id (.map k u ag dom val)
  | sit (b : ByteArray) (pos : Nat) (hb : w.heap[g.β id]? = some (.stringIter b pos)) : ORel P g nx w id (.sit b pos)

/-- Does the object lie in a block? -/
def phys (g : Gh) (id : Nat) : Obj → Bool
  | .arr _ _ _ _ => !g.nl id
  | _ => true

def own (g : Gh) (s : Sto) (b : Nat) : Prop := ∃ id o, look id s = some o ∧ phys g id o = true ∧ g.β id = b

structure Rel (P : Program) (g : Gh) (nx : Nat) (s : Sto) (w : World) : Prop where
  obj : ∀ id o, look id s = some o → ORel P g nx w id o
  lt : ∀ id o, look id s = some o → id < nx
  inj : ∀ id id' o o', look id s = some o → look id' s = some o' → phys g id o = true → phys g id' o' = true → g.β id = g.β id' → id = id'
  nofz : ∀ b o, own g s b → ¬ g.fz b o
  fzlt : ∀ b o, g.fz b o → b < w.heap.size

/-- The world goes on: only own blocks turn, new ones come. -/
structure Stp (O : Nat → Prop) (nx : Nat) (g : Gh) (w : World) (g' : Gh) (w' : World) : Prop where
  size : w.heap.size ≤ w'.heap.size
  blk : ∀ b, b < w.heap.size → ¬ O b → w'.heap[b]? = w.heap[b]?
  os : w'.os = w.os
  tape : w'.tape = w.tape
  output : w'.output = w.output
  bet : ∀ id, id < nx → g'.β id = g.β id ∧ g'.κ id = g.κ id ∧ g'.nl id = g.nl id
  fz : ∀ b o, g.fz b o → g'.fz b o
  fzn : ∀ b o, g'.fz b o → g.fz b o ∨ O b ∨ w.heap.size ≤ b

theorem Stp.refl (O : Nat → Prop) (nx : Nat) (g : Gh) (w : World) : Stp O nx g w g w :=
  ⟨Nat.le_refl _, fun _ _ _ => rfl, rfl, rfl, rfl, fun _ _ => ⟨rfl, rfl, rfl⟩, fun _ _ h => h, fun _ _ h => .inl h⟩

theorem Stp.trans {O O' : Nat → Prop} {nx nx' : Nat} {g g' g'' : Gh} {w w' w'' : World} (h : Stp O nx g w g' w') (h' : Stp O' nx' g' w' g'' w'') (hn : nx ≤ nx')
    (hO : ∀ b, O' b → O b ∨ w.heap.size ≤ b) : Stp O nx g w g'' w'' := by
  refine ⟨Nat.le_trans h.size h'.size, fun b hb hnb => ?_, h'.os.trans h.os, h'.tape.trans h.tape, h'.output.trans h.output, fun id hid => ?_, fun b o hf => h'.fz _ _ (h.fz _ _ hf), fun b o hf => ?_⟩
  · have h1 : ¬ O' b := fun hO' => by rcases hO b hO' with h2 | h2; exact hnb h2; omega
    exact (h'.blk b (Nat.lt_of_lt_of_le hb h.size) h1).trans (h.blk b hb hnb)
  · obtain ⟨a1, a2, a3⟩ := h.bet id hid
    obtain ⟨b1, b2, b3⟩ := h'.bet id (Nat.lt_of_lt_of_le hid hn)
    exact ⟨b1.trans a1, b2.trans a2, b3.trans a3⟩
  · rcases h'.fzn b o hf with h1 | h1 | h1
    · rcases h.fzn b o h1 with h2 | h2 | h2
      · exact .inl h2
      · exact .inr (.inl h2)
      · exact .inr (.inr h2)
    · rcases hO b h1 with h2 | h2
      · exact .inr (.inl h2)
      · exact .inr (.inr h2)
    · exact .inr (.inr (Nat.le_trans h.size h1))

theorem cell_blk {w w' : World} {b o : Nat} (h : w'.heap[b]? = w.heap[b]?) : w'.cell? ⟨b, o, none⟩ = w.cell? ⟨b, o, none⟩ := World.cell?_of_block (w := w) (a := ⟨b, o, none⟩) h

theorem DRel.mono {fz fz' : Nat → Nat → Prop} {w w' : World} (hz : ∀ b o, fz b o → fz' b o) (hw : ∀ b o, fz b o → w'.cell? ⟨b, o, none⟩ = w.cell? ⟨b, o, none⟩) {c : CV} {y : Value}
    (h : DRel fz w c y) : DRel fz' w' c y := by
  induction h with
  | v x h => exact .v x h
  | lit b => exact .lit b
  | z A => exact .z A
  | nilsl sz f => exact .nilsl sz f
  | sl sz n m f b o cap vals hcap hmax hlen hc hf hr ih =>
    exact .sl sz n m f b o cap vals hcap hmax hlen (fun i j c hi hj => (hw _ _ (hf i j c hi hj)).trans (hc i j c hi hj)) (fun i j c hi hj => hz _ _ (hf i j c hi hj)) ih
  | if1 t c y h ih => exact .if1 t c y ih
  | ifa t xs ys hl h ih => exact .ifa t xs ys hl ih
  | elp xs off b o vals hc hf hr ih =>
    exact .elp xs off b o vals (fun j c hj => (hw _ _ (hf j c hj)).trans (hc j c hj)) (fun j c hj => hz _ _ (hf j c hj)) ih

section
variable {P : Program} {g g' : Gh} {nx nx' : Nat} {w w' : World} {s : Sto}

/-- What the relations ask of the world that goes on. -/
structure Keeps (nx : Nat) (g : Gh) (w : World) (g' : Gh) (w' : World) : Prop where
  bet : ∀ id, id < nx → g'.β id = g.β id ∧ g'.κ id = g.κ id ∧ g'.nl id = g.nl id
  fz : ∀ b o, g.fz b o → g'.fz b o
  cell : ∀ b o, g.fz b o → w'.cell? ⟨b, o, none⟩ = w.cell? ⟨b, o, none⟩

theorem CRel.keeps (hk : Keeps nx g w g' w') (hn : nx ≤ nx') {c : CV} {y : Value} (h : CRel g nx w c y) : CRel g' nx' w' c y := by
  induction h with
  | d c y h => exact .d c y (h.mono hk.fz hk.cell)
  | ptr id off h => rw [← (hk.bet id h).1]; exact .ptr id off (by omega)
  | refnil id sz h hnl => exact .refnil id sz (by omega) ((hk.bet id h).2.2.trans hnl)
  | ref id sz off len cap h hnl hc hl => rw [← (hk.bet id h).1]; exact .ref id sz off len cap (by omega) ((hk.bet id h).2.2.trans hnl) (hc.trans (hk.bet id h).2.1.symm) hl
  | erp id sz i off h hnl => rw [← (hk.bet id h).1]; exact .erp id sz i off (by omega) ((hk.bet id h).2.2.trans hnl)
  | mp id h => rw [← (hk.bet id h).1]; exact .mp id (by omega)
  | clo f caps ys hl h ih => exact .clo f caps ys hl ih
  | if1 t c y h ih => exact .if1 t c y ih

theorem Pw.imp {R R' : CV → Value → Prop} {xs : List CV} {ys : List Value} (h : Pw R xs ys) (hi : ∀ c y, R c y → R' c y) : Pw R' xs ys :=
  ⟨h.len, fun i c y hc hy => hi _ _ (h.at_ i c y hc hy)⟩

theorem VRel.keeps (hk : Keeps nx g w g' w') (hn : nx ≤ nx') {v : AV} {y : Value} (h : VRel g nx w v y) : VRel g' nx' w' v y := by
  induction h with
  | c x y h => exact .c x y (h.keeps hk hn)
  | agg xs ys h => exact .agg xs ys (h.imp fun _ _ h => h.keeps hk hn)
  | tup vs ys hl h ih => exact .tup vs ys hl ih
  | un => exact .un

theorem EnvRel.keeps (hk : Keeps nx g w g' w') (hn : nx ≤ nx') {e : Env} {t : Array Value} (h : EnvRel g nx w e t) : EnvRel g' nx' w' e t :=
  fun k v hv => let ⟨x, hx, hr⟩ := h k v hv; ⟨x, hx, hr.keeps hk hn⟩

theorem Stp.keeps {O : Nat → Prop} (hR : Rel P g nx s w) (hO : ∀ b, O b → own g s b) (h : Stp O nx g w g' w') : Keeps nx g w g' w' :=
  ⟨h.bet, h.fz, fun b o hf => cell_blk (h.blk b (hR.fzlt b o hf) (fun hb => hR.nofz b o (hO b hb) hf))⟩

theorem MRel.mono {fz fz' : Nat → Nat → Prop} (hz : ∀ b o, fz b o → fz' b o) (hw : ∀ b o, fz b o → w'.cell? ⟨b, o, none⟩ = w.cell? ⟨b, o, none⟩)
    {k u : Nat} {ag : Bool} {dom : Int → Bool} {val : Int → List CV} {es : List MapEntry} (h : MRel fz w P k u ag dom val es) : MRel fz' w' P k u ag dom val es :=
  ⟨h.keys, h.nodup, fun e he q n hk => let ⟨a, ys, b, c⟩ := h.here e he q n hk; ⟨a, ys, b, c.imp fun _ _ hd => hd.mono hz hw⟩, h.shut,
    let ⟨i, z, h1, h2, h3⟩ := h.zero; ⟨i, z, h1, h2, fun n hn => (h3 n hn).imp fun _ _ hd => hd.mono hz hw⟩⟩

/-- An object whose block stays as it was. -/
theorem ORel.keeps (hk : Keeps nx g w g' w') (hn : nx ≤ nx') {id : Nat} (hid : id < nx) {o : Obj} (hb : phys g id o = true → w'.heap[g.β id]? = w.heap[g.β id]?) (h : ORel P g nx w id o) :
    ORel P g' nx' w' id o := by
  obtain ⟨e1, e2, e3⟩ := hk.bet id hid
  cases h with
  | box cs ys T hh h => exact .box cs ys T (by rw [e1, hb rfl]; exact hh) (h.imp fun _ _ hc => hc.keeps hk hn)
  | arrnil e sz f hnl => exact .arrnil e sz f (e3.trans hnl)
  | arr e sz n f ys hnl hh hk' hm hsz hlen h h1 =>
    exact .arr e sz n f ys (e3.trans hnl) (by rw [e1, hb (by simp [phys, hnl])]; exact hh) (by rw [e2]; exact hk') (by rw [e2]; exact hm) (by rw [e2]; exact hsz) hlen
      (fun i j c y hi hj hy => (h i j c y hi hj hy).keeps hk hn) h1
  | map k u ag dom val es clock hh h => exact .map k u ag dom val es clock (by rw [e1, hb rfl]; exact hh) (h.mono hk.fz hk.cell)
  | sit b pos hh => exact .sit b pos (by rw [e1, hb rfl]; exact hh)

theorem phys_bet {id : Nat} (e : g'.nl id = g.nl id) (o : Obj) : phys g' id o = phys g id o := by cases o <;> simp [phys, e]
end

/-! ### lists by number -/
theorem beqf {i k : Nat} (h : i ≠ k) : Nat.beq i k = false := by
  cases e : Nat.beq i k with
  | false => rfl
  | true => exact absurd (Nat.eq_of_beq_eq_true e) h
theorem nef {i k : Nat} (h : Nat.beq i k = false) : i ≠ k := Nat.ne_of_beq_eq_false h
theorem eqt {i k : Nat} (h : Nat.beq i k = true) : i = k := Nat.eq_of_beq_eq_true h
theorem look_ins {α : Type} (k : Nat) (y : α) (e : List (Nat × α)) (j : Nat) : look j (ins k y e) = if j = k then some y else look j e := by
  induction e with
  | nil =>
    simp only [ins, look]
    by_cases h : j = k
    · subst h; simp
    · have : Nat.beq k j = false := beqf (by omega)
      simp [this, h]
  | cons p r ih =>
    obtain ⟨i, x⟩ := p
    simp only [ins]
    cases h1 : Nat.blt k i with
    | true =>
      simp only [look]
      by_cases h : j = k
      · subst h; simp
      · have : Nat.beq k j = false := beqf (by omega)
        simp [this, h]
    | false =>
      cases h2 : Nat.beq i k with
      | true =>
        have h3 : i = k := eqt h2
        subst h3
        simp only [look]
        by_cases h : j = i
        · subst h; simp
        · have : Nat.beq i j = false := beqf (by omega)
          simp [this, h]
      | false =>
        have h3 : i ≠ k := nef h2
        simp only [look]
        cases h4 : Nat.beq i j with
        | true =>
          have h5 : i = j := eqt h4
          subst h5
          simp [h3]
        | false => simp only []; exact ih
theorem look_del {α : Type} (k : Nat) (e : List (Nat × α)) (j : Nat) : look j (del k e) = if j = k then none else look j e := by
  induction e with
  | nil => simp [del, look]
  | cons p r ih =>
    obtain ⟨i, x⟩ := p
    simp only [del]
    cases h2 : Nat.beq i k with
    | true =>
      have h3 : i = k := eqt h2
      subst h3
      simp only [look]
      rw [ih]
      by_cases h : j = i
      · simp [h]
      · have : Nat.beq i j = false := beqf (by omega)
        simp [this, h]
    | false =>
      have h3 : i ≠ k := nef h2
      simp only [look]
      cases h4 : Nat.beq i j with
      | true =>
        have h5 : i = j := eqt h4
        subst h5
        simp [h3]
      | false => simp only []; exact ih
theorem look_cons {α : Type} (k : Nat) (y : α) (e : List (Nat × α)) (j : Nat) : look j ((k, y) :: e) = if j = k then some y else look j e := by
  simp only [look]
  by_cases h : j = k
  · subst h; simp
  · have : Nat.beq k j = false := beqf (by omega)
    simp [this, h]

theorem nth_eq {α : Type} (l : List α) (n : Nat) : nth l n = l[n]? := by
  induction l generalizing n with
  | nil => simp [nth]
  | cons x r ih => cases n <;> simp [nth, ih]
theorem cut_eq {α : Type} (l : List α) (a n : Nat) : cut l a n = (l.drop a).take n := by
  induction l generalizing a n with
  | nil => cases n <;> simp [cut]
  | cons x r ih => cases n <;> cases a <;> simp [cut, ih]
theorem setNth_eq {α : Type} (l : List α) (n : Nat) (y : α) : setNth l n y = l.set n y := by
  induction l generalizing n with
  | nil => simp [setNth]
  | cons x r ih => cases n <;> simp [setNth, ih]
theorem setAll_length (xs : List CV) : ∀ (cs : List CV) (i : Nat), (setAll cs i xs).length = cs.length := by
  induction xs with
  | nil => intro cs i; rfl
  | cons x r ih => intro cs i; simp [setAll, ih, setNth_eq]
theorem setAll_get (xs : List CV) : ∀ (cs : List CV) (i j : Nat), i + xs.length ≤ cs.length → (setAll cs i xs)[j]? = if i ≤ j ∧ j < i + xs.length then xs[j - i]? else cs[j]? := by
  induction xs with
  | nil => intro cs i j _; simp [setAll]; intro h1 h2; omega
  | cons x r ih =>
    intro cs i j h
    simp only [List.length_cons] at h
    simp only [setAll, setNth_eq]
    rw [ih _ _ _ (by simp; omega)]
    simp only [List.length_cons]
    by_cases hj : j = i
    · subst hj
      rw [if_neg (by omega), if_pos (by omega)]
      rw [List.getElem?_set_self (by omega)]
      simp
    · by_cases h2 : i + 1 ≤ j ∧ j < i + 1 + r.length
      · rw [if_pos h2, if_pos (by omega)]
        rw [show j - i = (j - (i + 1)) + 1 by omega]
        simp
      · rw [if_neg h2, if_neg (by omega), List.getElem?_set_ne (by omega)]

theorem EnvRel.put {g : Gh} {nx : Nat} {w : World} {e : Env} {a : Act} (h : EnvRel g nx w e a.tmps) {v : AV} {x : Value} (hv : VRel g nx w v x) (d : Option Nat)
    (hd : ∀ k, d = some k → k < a.tmps.size) : EnvRel g nx w (Am.put e d v) (a.put d x).tmps := by
  cases d with
  | none => exact h
  | some k =>
    intro j u hu
    simp only [Am.put] at hu
    rw [look_ins] at hu
    simp only [Act.put]
    have hk := hd k rfl
    by_cases hj : j = k
    · subst hj
      rw [if_pos rfl] at hu
      injection hu with hu
      subst hu
      exact ⟨x, by simp [hk], hv⟩
    · rw [if_neg hj] at hu
      obtain ⟨y, hy, hr⟩ := h j u hu
      exact ⟨y, by rw [Array.getElem?_setIfInBounds_ne (by omega)]; exact hy, hr⟩

end Am
