/-
  The evaluator's closed functions laid open; the table of types; operands. Operations that leave the store alone do in the run what the evaluator says.
-/
import Derived.Test.YtijphjckgdomlaaAm2
import Derived.Laws.StructEq
import Derived.WideLaws
import Derived.WalkSpells
set_option linter.all false
namespace Am
open Go

def byteOf (c : List CV) : UInt8 := match c with
  | .v (.int _ b) :: _ => UInt8.ofNat b.toNat
  | _ => 0

mutual
/-- No memory in it but own objects. -/
def flatC : CV → Bool
  | .sl _ _ _ _ => false
  | .elp _ _ => false
  | .clo _ caps => flatCs caps
  | .if1 _ x => flatC x
  | .ifa _ xs => flatCs xs
  | _ => true
def flatCs : List CV → Bool
  | [] => true
  | c :: r => flatC c && flatCs r
end
mutual
def flatV : AV → Bool
  | .c x => flatC x
  | .agg xs => flatCs xs
  | .tup vs => flatVs vs
  | .un => true
def flatVs : List AV → Bool
  | [] => true
  | v :: r => flatV v && flatVs r
end
def safeO (lent : Bool) : Obj → Prop
  | .box cs => lent = true → flatCs cs = true
  | .arr _ _ n f => ∀ i, i < n → noIds (f i) = true ∧ (lent = true → flatCs (f i) = true)
  | .map _ _ _ _ _ => lent = false
  | .sit _ _ => True
/-- What a call hands back: no memory that was lent to it is in it. -/
def safeS (lent : Bool) (v : AV) (s : Sto) : Prop := (lent = true → flatV v = true) ∧ ∀ id o, look id s = some o → safeO lent o

/-- The closed functions as they are. -/
def real (tri : FuncId → List AV → Sto → Nat → (AV → Sto → Nat → Prop) → Prop) (weak : St → St → Prop) : Ar where
  ari op k a b := match op with
    | .add => k.wrap (a + b) | .sub => k.wrap (a - b) | .mul => k.wrap (a * b)
    | .quo => k.wrap (a.tdiv b) | .rem => a.tmod b
    | .and => k.wrap (BitVec.ofInt k.bits a &&& BitVec.ofInt k.bits b).toNat
    | .or => k.wrap (BitVec.ofInt k.bits a ||| BitVec.ofInt k.bits b).toNat
    | .xor => k.wrap (BitVec.ofInt k.bits a ^^^ BitVec.ofInt k.bits b).toNat
    | _ => k.wrap (BitVec.ofInt k.bits a &&& ~~~(BitVec.ofInt k.bits b)).toNat
  shf op k a y := match op with
    | .shl => k.wrap (a * 2 ^ (min y.toNat k.bits))
    | _ => a.fdiv (2 ^ (min y.toNat k.bits))
  cmp op a b := match op with
    | .eql => a == b | .neq => a != b | .lss => decide (a < b) | .leq => decide (a ≤ b) | .gtr => decide (a > b) | _ => decide (a ≥ b)
  scmp op x y := match op with
    | .eql => x.toList == y.toList | .neq => !(x.toList == y.toList) | .lss => Op.bytesLess x.toList y.toList
    | .leq => Op.bytesLess x.toList y.toList || x.toList == y.toList | .gtr => !(Op.bytesLess x.toList y.toList || x.toList == y.toList) | _ => !(Op.bytesLess x.toList y.toList)
  band a b := a && b
  beq a b := a == b
  bnot a := !a
  neg k n := k.wrap (0 - n)
  unx k n := k.wrap (BitVec.ofInt k.bits (if k.signed then -1 else k.max) ^^^ BitVec.ofInt k.bits n).toNat
  wrap k n := k.wrap n
  slen s := s.size
  sat s i := ((s.data.toList[i.toNat]?).getD 0).toNat
  ssub s l h := s.extract l.toNat h.toNat
  cat s t := s ++ t
  bstr n f := ⟨((List.range n).map fun i => byteOf (f i)).toArray⟩
  toN := Int.toNat
  sub a b := a - b
  add a b := a + b
  shift f k := fun i => f (i + k)
  join n f g := fun i => if i < n then f i else g (i - n)
  setf f i c := fun j => if j = i then c else f j
  bytes s := fun i => [.v (.int .u8 ((s.data.toList[i]?).getD 0).toNat)]
  updb dom k b := fun j => if j = k then b else dom j
  updv val k c := fun j => if j = k then c else val j
  rng n i := 0 ≤ i ∧ i < n
  idx i n := 0 ≤ i ∧ i < n
  isb n f := ∀ i, i < n → ∃ b, f i = [.v (.int .u8 b)]
  le3 l h c := 0 ≤ l ∧ l ≤ h ∧ h ≤ c
  nz b := b ≠ 0
  room bytes n := n ≤ maxLen ∧ n * bytes ≤ 140737488355328
  nil0 n b := b = true → n = 0
  catok s t := ((s.size + t.size : Nat) : Int) ≤ IntKind.i64.max
  rune b pos := (Utf8.decode b pos).1
  rnext b pos := pos + (Utf8.decode b pos).2
  more b pos := decide (pos < b.size)
  rstr n := Utf8.encode n
  nid n f := ∀ i, i < n → noIds (f i) = true
  safe := safeS
  tri := tri
  weak := weak

/-- What a row of the table says of the program's type. -/
def TDok (P : Program) (t : Nat) : TD → Prop
  | .bool => P.underlying t = some .bool
  | .int k => P.underlying t = some (.int k)
  | .string => P.underlying t = some .string
  | .struct fs cm => ∃ a : Array Field, P.underlying t = some (.struct a) ∧ a.toList.map (fun f => (f.offset, f.type)) = fs ∧
      (cm = true → P.eqGuardType P.depth t = false ∧ P.stoodInHeld t = false ∧ ∀ f ∈ a.toList, f.name ≠ "_")
  | .array n e => P.underlying t = some (.array n e)
  | .slice e => P.underlying t = some (.slice e)
  | .map k e => P.underlying t = some (.map k e)
  | .ptr e => P.underlying t = some (.pointer e)
  | .iface em => ∃ ms, P.underlying t = some (.interface ms) ∧ ms.isEmpty = em
  | .func => ∃ a b c, P.underlying t = some (.func a b c)
  | .other => True

structure TIok (P : Program) (t : Nat) (ti : TI) : Prop where
  info : ∃ i, P.info? t = some i ∧ i.size = ti.size ∧ i.bytes = ti.bytes ∧ i.zero = some ti.zero
  td : TDok P t ti.td
  known : ti.td = .other → False
  zsz : ti.zero.cells.size = ti.size
  zone : ∀ y ∈ ti.zero.cells.toList, y.oneCell' = true

def TabOk (P : Program) (T : Tab) : Prop := ∀ t ti, look t T = some ti → TIok P t ti

section
variable {P : Program} {T : Tab}
theorem TIok.size {t : Nat} {ti : TI} (h : TIok P t ti) (w : World) : (Go.sizeOf t).run P w = .ok ti.size w := by
  obtain ⟨i, hi, h1, _⟩ := h.info
  simp [Go.sizeOf, typeInfo, hi, h1]
theorem TIok.zero {t : Nat} {ti : TI} (h : TIok P t ti) (w : World) : (zeroValue t).run P w = .ok ti.zero w := by
  obtain ⟨i, hi, h1, h2, h3⟩ := h.info
  simp [zeroValue, typeInfo, hi, h3]
theorem TIok.agg {t : Nat} {ti : TI} (h : TIok P t ti) (w : World) : (isAgg t).run P w = .ok (match ti.td with | .struct _ _ | .array _ _ => true | _ => false) w := by
  have hd := h.td
  have hk := h.known
  revert hd hk
  generalize ti.td = td
  intro hd hk
  cases td with
  | struct fs cm => obtain ⟨a, ha, _⟩ := hd; simp [isAgg, run_underlying ha]
  | other => exact absurd rfl hk
  | iface em => obtain ⟨ms, hm, _⟩ := hd; simp [isAgg, run_underlying hm]
  | func => obtain ⟨a, b, c, ha⟩ := hd; simp [isAgg, run_underlying ha]
  | _ => simp only [TDok] at hd; simp [isAgg, run_underlying hd]

theorem isAgg_run (hT : TabOk P T) {t : Nat} {b : Bool} (h : T.isAgg t = some b) (w : World) : (isAgg t).run P w = .ok b w := by
  unfold Tab.isAgg at h
  cases hl : look t T with
  | none => simp [hl] at h
  | some ti =>
    rw [(hT t ti hl).agg w]
    simp only [hl] at h
    cases htd : ti.td <;> simp_all

/-- A part of some cells. -/
theorem part_run {R : CV → Value → Prop} (hT : TabOk P T) {t : Nat} {cs : List CV} {ys : List Value} {off : Nat} {v : AV} (h : part T t cs off = some v) (hp : Pw R cs ys) :
    ∃ x, (∀ w, (Go.part t ys.toArray off).run P w = .ok x w) ∧ ((∃ c, v = .c c ∧ R c x) ∨ (∃ xs zs, v = .agg xs ∧ x = .agg zs ∧ Pw R xs zs.toList)) := by
  unfold part at h
  split at h
  · rename_i ti ha hl
    split at h
    case h_2 => cases h
    injection h with h
    subst h
    refine ⟨.agg (ys.toArray.extract off (off + ti.size)), fun w => ?_, .inr ⟨_, _, rfl, rfl, ?_, ?_⟩⟩
    · simp [Go.part, isAgg_run hT ha, (hT t ti hl).size]
    · simp [cut_eq, hp.len]
    · intro i c y hc hy
      simp only [cut_eq, List.getElem?_take, List.getElem?_drop] at hc
      simp only [Array.toList_extract, List.extract_eq_take_drop, List.getElem?_take, List.getElem?_drop] at hy
      split at hc
      · split at hy
        · exact hp.at_ _ _ _ hc hy
        · cases hy
      · cases hc
  · rename_i ha
    cases hn : nth cs off with
    | none => simp [hn] at h
    | some c =>
      simp only [hn] at h
      injection h with h
      subst h
      rw [nth_eq] at hn
      have hlt : off < ys.length := by rw [← hp.len]; exact (List.getElem?_eq_some_iff.1 hn).1
      refine ⟨ys[off], fun w => ?_, .inl ⟨c, rfl, hp.at_ off c _ hn (List.getElem?_eq_getElem hlt)⟩⟩
      have e : ys[off]? = some ys[off] := List.getElem?_eq_getElem hlt
      simp [Go.part, isAgg_run hT ha, e]
  · cases h

theorem one_eq (x : Value) : Am.one x = x.oneCell' := by cases x <;> rfl
theorem ofC_rel {fz : Nat → Nat → Prop} {w : World} {x : Value} (h : Am.one x = true) : DRel fz w (ofC x) x := by
  rw [one_eq] at h
  cases x <;> first | exact .v _ h | exact .lit _
theorem ofCs_rel {fz : Nat → Nat → Prop} {w : World} : ∀ {l : List Value} {cs : List CV}, ofCs l = some cs → Pw (DRel fz w) cs l := by
  intro l
  induction l with
  | nil => intro cs h; simp [ofCs] at h; subst h; exact ⟨rfl, fun i c y h => by simp at h⟩
  | cons x r ih =>
    intro cs h
    simp only [ofCs] at h
    split at h
    · rename_i h1
      cases h2 : ofCs r with
      | none => simp [h2] at h
      | some l =>
        simp only [h2] at h
        injection h with h
        subst h
        have := ih h2
        refine ⟨by simp [this.len], fun i c y hc hy => ?_⟩
        cases i with
        | zero => simp at hc hy; subst hc; subst hy; exact ofC_rel h1
        | succ i => simp at hc hy; exact this.at_ i c y hc hy
    · cases h
theorem ofV_rel {g : Gh} {nx : Nat} {w : World} {x : Value} {v : AV} (h : ofV x = some v) : VRel g nx w v x := by
  unfold ofV at h
  split at h
  · rename_i cs
    cases hc : ofCs cs.toList with
    | none => simp [hc] at h
    | some l =>
      simp only [hc] at h
      injection h with h
      subst h
      have := ofCs_rel (fz := g.fz) (w := w) hc
      have e : (Value.agg cs) = .agg cs.toList.toArray := by simp
      rw [e]
      exact .agg l _ (this.imp fun _ _ h => .d _ _ h)
  · cases h
  · rename_i h1 h2
    injection h with h
    subst h
    refine .c _ _ (.d _ _ (ofC_rel ?_))
    rw [one_eq]
    cases x <;> first | rfl | exact (h1 _ rfl).elim | exact (h2 _ rfl).elim

section
variable {g : Gh} {nx : Nat} {w : World} {e : Env} {a : Act}
theorem ev_rel (hE : EnvRel g nx w e a.tmps) {x : Operand} {v : AV} (h : ev e x = some v) : VRel g nx w v (a.eval x) := by
  cases x with
  | tmp t =>
    obtain ⟨y, hy, hr⟩ := hE t v h
    simpa [Act.eval, hy] using hr
  | const c => exact ofV_rel h
  | func f =>
    simp only [ev] at h
    injection h with h
    subst h
    exact .c _ _ (.clo f [] [] rfl (fun i c y h => by simp at h))
  | global gl =>
    simp only [ev] at h
    injection h with h
    subst h
    exact .c _ _ (.d _ _ (.v _ rfl))
end
end

/-- Worlds in which nothing that was there has turned. -/
def Same (w w' : World) : Prop := ∀ b, b < w.heap.size → w'.heap[b]? = w.heap[b]?
theorem Same.refl (w : World) : Same w w := fun _ _ => rfl

/-- The operation yields x, whatever has been made since. -/
def Yields (P : Program) (w : World) (x : Sem Next) (v : Value) : Prop := ∀ w', Same w w' → x.run P w' = .ok (.value v) w'
end Am
