/-
  From a row's readings to the evaluator's arguments, and back to its end.
-/
import Derived.Test.YtijphjckgdomlaaVa
import Derived.Carry
import Derived.Below
import Derived.ChangeSame
import Derived.Deep.Slices
import Derived.OpenShut
import Derived.RowKit
set_option linter.all false
namespace Am
open Go Go.RowKit Go.ChangeShapes Go.WideShapes Go.Deep

/-- What one cell of plain data may be. -/
inductive Leaf where
  | int (k : IntKind)
  | str
def isLeaf : Leaf → Value → Prop
  | .int k, v => ∃ n, v = .int k n ∧ (Lit.int k n).wf = true
  | .str, v => ∃ s, v = .string s
def leavesF (P : Program) (rec : TypeId → Option (List Leaf)) : Nat → List Field → Option (List Leaf)
  | _, [] => some []
  | off, f :: r => match Nat.beq f.offset off, rec f.type with
    | true, some l => (match Nat.beq (P.cellsOf f.type) l.length, leavesF P rec (off + l.length) r with
      | true, some m => some (l ++ m)
      | _, _ => none)
    | _, _ => none
def leaves (P : Program) : Nat → TypeId → Option (List Leaf)
  | 0, _ => none
  | d + 1, t => match P.underlying t with
    | some (.int k) => some [.int k]
    | some .string => some [.str]
    | some (.struct fs) => (match leavesF P (leaves P d) 0 fs.toList with
      | some l => (match Nat.beq (P.cellsOf t) l.length with | true => some l | false => none)
      | none => none)
    | _ => none

section
variable {H : Type} {enc : TypeId × Value → H} {P : Program} {w : World} {base : Nat} {spare : Nat → Bool} {held : Bool}

theorem trod_leaves : ∀ (d : Nat) (t : TypeId) (L : List Leaf), leaves P d t = some L → ∀ {fuel : Nat} {cs : List Value} {x : DataW H × List MemPlace}, DataW.trod enc P w base spare held fuel t cs = some x →
    cs.length = L.length ∧ ∀ (j : Nat) (l : Leaf) (v : Value), L[j]? = some l → cs[j]? = some v → isLeaf l v := by
  intro d
  induction d with
  | zero => intro t L h; simp [leaves] at h
  | succ d ih =>
    intro t L h fuel cs x hx
    simp only [leaves] at h
    split at h
    · rename_i k hu
      injection h with h
      subst h
      obtain ⟨n, rfl, _, hw⟩ := DataW.trod_int hu hx
      refine ⟨rfl, fun j l v hl hv => ?_⟩
      cases j with
      | zero => simp at hl hv; subst hl; subst hv; exact ⟨n, rfl, hw⟩
      | succ j => simp at hl
    · rename_i hu
      injection h with h
      subst h
      obtain ⟨s, rfl, _, _⟩ := DataW.trod_string hu hx
      refine ⟨rfl, fun j l v hl hv => ?_⟩
      cases j with
      | zero => simp at hl hv; subst hl; subst hv; exact ⟨s, rfl⟩
      | succ j => simp at hl
    · rename_i fs hu
      split at h
      case h_2 => cases h
      rename_i l hl
      split at h
      case h_2 => cases h
      rename_i hc
      injection h with h
      subst h
      obtain ⟨xs, n, _, _, hlen, hxl, hf⟩ := DataW.trod_struct hu hx
      have hcl : cs.length = l.length := by rw [hlen]; exact eqt hc
      refine ⟨hcl, ?_⟩
      have key : ∀ (r : List Field) (off : Nat) (m : List Leaf), (∀ f ∈ r, ∃ y, DataW.trod enc P w base spare held n f.type ((cs.drop f.offset).take (P.cellsOf f.type)) = some y) → leavesF P (leaves P d) off r = some m →
          ∀ (j : Nat) (l : Leaf) (v : Value), m[j]? = some l → cs[off + j]? = some v → isLeaf l v := by
        intro r
        induction r with
        | nil => intro off m _ hm j l v hl hv; simp [leavesF] at hm; subst hm; simp at hl
        | cons f r ihr =>
          intro off m hall hm j l v hl hv
          simp only [leavesF] at hm
          split at hm
          case h_2 => cases hm
          rename_i lf ho hlf
          split at hm
          case h_2 => cases hm
          rename_i m' hsz hm'
          injection hm with hm
          subst hm
          have ho := eqt ho
          have hsz := eqt hsz
          obtain ⟨y, hy⟩ := hall f (by simp)
          obtain ⟨q1, q2⟩ := ih f.type lf hlf hy
          by_cases hj : j < lf.length
          · rw [List.getElem?_append_left hj] at hl
            refine q2 j l v hl ?_
            rw [ho, hsz, List.getElem?_take, if_pos hj, List.getElem?_drop]
            exact hv
          · rw [List.getElem?_append_right (by omega)] at hl
            refine ihr (off + lf.length) m' (fun f' hf' => hall f' (List.mem_cons_of_mem _ hf')) hm' (j - lf.length) l v hl ?_
            rw [← hv]
            congr 1
            omega
      intro j l v hl' hv
      refine key fs.toList 0 _ (fun f hf' => ?_) hl j l v hl' (by simpa using hv)
      obtain ⟨i, hi, rfl⟩ := List.getElem_of_mem hf'
      have hi' : i < fs.size := by simpa using hi
      have := hf i fs[i] (by simp [hi'])
      have hx2 : xs[i]? = some (xs[i]'(by omega)) := List.getElem?_eq_getElem (by omega)
      rw [hx2] at this
      exact ⟨_, by simpa using this⟩
    · cases h
end

/-! ### events -/
def toI : Value → Int
  | .int _ n => n
  | _ => 0
def toS : Value → ByteArray
  | .string s => s
  | _ => nob
def evOf (c : Nat → Value) : Ev :=
  ⟨toI (c 0), ⟨toI (c 1), toI (c 2), toI (c 3), toI (c 4), toI (c 5), toS (c 6), toS (c 7), toI (c 8), toI (c 9), toI (c 10), toI (c 11), toI (c 12)⟩, toI (c 13), toI (c 14)⟩
def evLeaves : List Leaf := [.int .i64, .int .i64, .int .i64, .int .i64, .int .i64, .int .i64, .str, .str, .int .u64, .int .i64, .int .i64, .int .i64, .int .i64, .int .i64, .int .i64]
theorem leaf_i {v : Value} (h : isLeaf (.int .i64) v) : v = .int .i64 (toI v) ∧ in64 (toI v) := by
  obtain ⟨n, rfl, hw⟩ := h
  refine ⟨rfl, ?_⟩
  have : -9223372036854775808 ≤ n ∧ n ≤ 9223372036854775807 := by simpa [Lit.wf, IntKind.min, IntKind.max, IntKind.signed, IntKind.bits] using hw
  exact ⟨this.1, by simp only [toI]; omega⟩
theorem leaf_u {v : Value} (h : isLeaf (.int .u64) v) : v = .int .u64 (toI v) ∧ 0 ≤ toI v ∧ toI v < 18446744073709551616 := by
  obtain ⟨n, rfl, hw⟩ := h
  refine ⟨rfl, ?_⟩
  have : 0 ≤ n ∧ n ≤ 18446744073709551615 := by simpa [Lit.wf, IntKind.min, IntKind.max, IntKind.signed, IntKind.bits] using hw
  exact ⟨this.1, by simp only [toI]; omega⟩
theorem leaf_s {v : Value} (h : isLeaf .str v) : v = .string (toS v) := by
  obtain ⟨s, rfl⟩ := h
  rfl
theorem ev_cells {c : Nat → Value} (h : ∀ j l, evLeaves[j]? = some l → isLeaf l (c j)) :
    (evOf c).s.wf ∧ ∀ j x, (evOf c).cells[j]? = some x → x = .v (c j) ∧ (c j).oneCell' = true := by
  have h0 := leaf_i (h 0 _ rfl)
  have h1 := leaf_i (h 1 _ rfl)
  have h2 := leaf_i (h 2 _ rfl)
  have h3 := leaf_i (h 3 _ rfl)
  have h4 := leaf_i (h 4 _ rfl)
  have h5 := leaf_i (h 5 _ rfl)
  have h6 := leaf_s (h 6 _ rfl)
  have h7 := leaf_s (h 7 _ rfl)
  have h8 := leaf_u (h 8 _ rfl)
  have h9 := leaf_i (h 9 _ rfl)
  have h10 := leaf_i (h 10 _ rfl)
  have h11 := leaf_i (h 11 _ rfl)
  have h12 := leaf_i (h 12 _ rfl)
  have h13 := leaf_i (h 13 _ rfl)
  have h14 := leaf_i (h 14 _ rfl)
  refine ⟨⟨h1.2, h2.2, h3.2, h4.2, h5.2, h8.2, h9.2, h10.2, h11.2, h12.2⟩, fun j x hx => ?_⟩
  have fi : ∀ {j : Nat}, c j = .int .i64 (toI (c j)) → i64 (toI (c j)) = .v (c j) ∧ (c j).oneCell' = true := fun {j} h => ⟨congrArg CV.v h.symm, by rw [h]; rfl⟩
  match j, hx with
  | 0, hx => injection hx with hx; subst hx; exact fi h0.1
  | 1, hx => injection hx with hx; subst hx; exact fi h1.1
  | 2, hx => injection hx with hx; subst hx; exact fi h2.1
  | 3, hx => injection hx with hx; subst hx; exact fi h3.1
  | 4, hx => injection hx with hx; subst hx; exact fi h4.1
  | 5, hx => injection hx with hx; subst hx; exact fi h5.1
  | 6, hx => injection hx with hx; subst hx; exact ⟨congrArg CV.v h6.symm, by rw [h6]; rfl⟩
  | 7, hx => injection hx with hx; subst hx; exact ⟨congrArg CV.v h7.symm, by rw [h7]; rfl⟩
  | 8, hx => injection hx with hx; subst hx; exact ⟨congrArg CV.v h8.1.symm, by rw [h8.1]; rfl⟩
  | 9, hx => injection hx with hx; subst hx; exact fi h9.1
  | 10, hx => injection hx with hx; subst hx; exact fi h10.1
  | 11, hx => injection hx with hx; subst hx; exact fi h11.1
  | 12, hx => injection hx with hx; subst hx; exact fi h12.1
  | 13, hx => injection hx with hx; subst hx; exact fi h13.1
  | 14, hx => injection hx with hx; subst hx; exact fi h14.1
  | n + 15, hx => simp [Ev.cells, Sess.cells] at hx

/-- The ghosts at a call's beginning: all that is there stays as it is. -/
def ghost (W : World) : Gh := ⟨fun _ => 0, fun _ => 0, fun _ => false, fun b _ => b < W.heap.size⟩
theorem ghost_rel (P : Program) (W : World) : Rel P (ghost W) 0 [] W :=
  ⟨fun _ _ h => by simp [look] at h, fun _ _ h => by simp [look] at h, fun _ _ _ _ h => by simp [look] at h, fun b o ⟨_, _, h, _⟩ => by simp [look] at h, fun b o h => h⟩

theorem cell_lt {W : World} {b o : Nat} {v : Value} (h : W.cell? ⟨b, o, none⟩ = some v) : b < W.heap.size := by
  rcases Nat.lt_or_ge b W.heap.size with h1 | h1
  · exact h1
  · exfalso
    unfold World.cell? at h
    have : W.heap[b]? = none := by simp [h1]
    simp [this] at h

/-- A row of events that came in. -/
theorem open_events {H : Type} {enc : TypeId × Value → H} {P : Program} {W : World} {t e : TypeId} {v : Value} {d : DataW H} {ps : List MemPlace} (ht : P.underlying t = some (.slice e)) (hC : P.cellsOf e = 15) (hL : leaves P 5 e = some evLeaves)
    (hval : Value.okWide P W .any 0 t v) (h : DataW.Trod enc P W 0 (fun _ => true) true t v d ps) :
    ∃ (es : List Ev) (n : Nat) (f : Nat → List CV), IsE es n f ∧ (∀ e ∈ es, e.s.wf) ∧ VRel (ghost W) 0 W (.c (.sl 15 n 0 f)) v := by
  obtain ⟨fuel, hf⟩ := h
  obtain ⟨a0, len, cap, rfl⟩ := okWide_slice ht hval
  rcases open_slice ht hf with ⟨hcs, _⟩ | ⟨a, len', cap', m, n, D, Pl, hcs, _, hl, hm, hmm, _, hi⟩
  · simp [Value.cells] at hcs
    obtain ⟨rfl, rfl, rfl⟩ := hcs
    exact ⟨[], 0, fun _ => [], ⟨rfl, fun i hi => by omega⟩, by simp, .c _ _ (.d _ _ (.nilsl 15 _))⟩
  · simp [Value.cells] at hcs
    obtain ⟨rfl, rfl, rfl⟩ := hcs
    obtain ⟨b, o, sp⟩ := a
    have hsp : sp = none := by
      have h1 : Cell.okWide P W .any 0 t (.slice (some ⟨b, o, sp⟩) len cap) := by
        unfold Value.okWide at hval
        rw [ht] at hval
        exact hval
      unfold Cell.okWide at h1
      rw [ht] at h1
      simp only at h1
      unfold Cell.ok at h1
      rw [ht] at h1
      exact h1.2.2.2.1
    subst hsp
    have hm2 : m = cap := by rw [hmm]; rfl
    subst hm2
    have hcell : ∀ i j, i < len → j < 15 → ∃ v, W.cell? ⟨b, o + (i * 15 + j), none⟩ = some v ∧ ∀ l, evLeaves[j]? = some l → isLeaf l v := fun i j hi' hj => by
      obtain ⟨cs', hc, htr⟩ := hi i (by omega)
      rw [hC] at hc
      obtain ⟨_, hcl, hat⟩ := World.cells?_some hc
      obtain ⟨_, hlf⟩ := trod_leaves 5 e evLeaves hL htr
      have hv : cs'[j]? = some (cs'[j]'(by omega)) := List.getElem?_eq_getElem (by omega)
      refine ⟨cs'[j]'(by omega), ?_, fun l hl => hlf j l _ hl hv⟩
      have := hat j hj
      rw [hv] at this
      have e : ((⟨b, o, none⟩ : Addr).add (i * 15)).add j = ⟨b, o + (i * 15 + j), none⟩ := by
        unfold Addr.add
        split <;> split <;> simp <;> omega
      rw [e] at this
      exact this
    obtain ⟨c, hc⟩ : ∃ c : Nat → Nat → Value, ∀ i j, c i j = (W.cell? ⟨b, o + (i * 15 + j), none⟩).getD undef := ⟨_, fun _ _ => rfl⟩
    have hcv : ∀ i j, i < len → j < 15 → W.cell? ⟨b, o + (i * 15 + j), none⟩ = some (c i j) ∧ ∀ l, evLeaves[j]? = some l → isLeaf l (c i j) := fun i j hi' hj => by
      obtain ⟨v, h1, h2⟩ := hcell i j hi' hj
      rw [hc, h1]
      exact ⟨rfl, h2⟩
    have hev : ∀ i, i < len → (evOf (c i)).s.wf ∧ ∀ j x, (evOf (c i)).cells[j]? = some x → x = .v (c i j) ∧ (c i j).oneCell' = true := fun i hi' =>
      ev_cells fun j l hl => by
        have hj : j < 15 := (List.getElem?_eq_some_iff.1 hl).1
        exact (hcv i j hi' hj).2 l hl
    refine ⟨(List.range len).map fun i => evOf (c i), len, fun i => (evOf (c i)).cells, ⟨by simp, fun i hi' => by simp [List.getD_eq_getElem?_getD, hi']⟩, fun e he => ?_, ?_⟩
    · obtain ⟨i, hi', rfl⟩ := List.mem_map.1 he
      exact (hev i (List.mem_range.1 hi')).1
    · refine .c _ _ (.d _ _ (.sl 15 len 0 _ b o m c (by omega) hm (fun i _ => rfl) (fun i j x hi' hx => ?_) (fun i j x hi' hx => ?_) (fun i j x hi' hx => ?_)))
      · have hj : j < 15 := (List.getElem?_eq_some_iff.1 hx).1
        exact (hcv i j (by omega) hj).1
      · have hj : j < 15 := (List.getElem?_eq_some_iff.1 hx).1
        exact cell_lt (hcv i j (by omega) hj).1
      · obtain ⟨h1, h2⟩ := (hev i (by omega)).2 j x hx
        rw [h1]
        exact .v _ h2

/-- A contract, said of a run: it hands true back, and what was there is as it was. -/
theorem calls_true {P : Program} {f : FuncId} {fn : Func} {c : Code} {vs : List AV} {xs : List Value} {W : World} (hf : P.funcs[f]? = some fn) (hb : fn.body = some c) (hn : (fn.name == "runtime.NumGoroutine") = false) (h : TriS P f vs [] 0 (RetB true)) (hA : Args (ghost W) 0 W vs xs) :
    Calls P f xs.toArray W fun e W' => e = .returned (.bool true) ∧ Below W.heap.size W W' := by
  have hn' : fn.name ≠ "runtime.NumGoroutine" := by simpa using hn
  rcases h (ghost W) W xs (ghost_rel P W) hA with ⟨y, w', _, h2⟩ | ⟨_, h2⟩
  · simp [callFunc, hf, hb, hn'] at h2
  · refine Calls.mono h2 fun e W' ⟨y, he, v, g', nx', s', hK, _, _, hst, _, hv⟩ => ?_
    obtain ⟨r, rfl, rfl, _, _⟩ := hK
    refine ⟨by rw [he, vlit hv], hst.os, hst.tape, hst.output, hst.size, fun b hb => hst.blk b hb fun ⟨_, _, h, _⟩ => by simp [look] at h⟩

section
variable {H : Type} {enc : TypeId × Value → H} {P : Program}
/-- The row's last step, where what was there is as it was. -/
theorem post_below {f : Func} {s : ChangeSpec} {apart fresh handsOn again : Bool} {W W' : World} {args : Array Value} {v : Value} {ds gs : List (DataW H)} {before pa pv : List MemPlace}
    (hW : DataW.Whole enc P f.params.toList s.vars apart W args.toList ds gs before)
    (hres : ∀ (b : Nat) (sp : Nat → Bool) (hd : Bool), DataW.TrodAll enc P W' b sp hd f.resultTypes.toList (v.resultList f.resultTypes.size) (s.fn H (ds ++ gs)).results [])
    (hargs : ∀ sp : Nat → Bool, (∀ p ∈ before, sp p.block = true) → DataW.TrodAll enc P W' 0 sp true f.params.toList args.toList (s.fn H (ds ++ gs)).args pa)
    (hvars : ∀ sp : Nat → Bool, (∀ p ∈ before, sp p.block = true) → DataW.TrodVars enc P W' sp s.vars (s.fn H (ds ++ gs)).vars pv)
    (hps : before = pa ++ pv) (hb : Below W.heap.size W W')
    (hok : ∀ (j : Nat) (t : TypeId) (r : Value), f.resultTypes[j]? = some t → (v.resultList f.resultTypes.size)[j]? = some r → Value.okWide P W' .any 0 t r) :
    s.post enc P f apart fresh handsOn again W args v W' := by
  have hlt : ∀ p ∈ before, p.block < W.heap.size := fun p hp => hW.lt p hp
  have hold : ∀ p ∈ before, (fun b => decide (b < W.heap.size)) p.block = true := fun p hp => by simpa using hlt p hp
  refine ⟨ds, gs, before, [], pa, pv, hW, hres _ _ _, hargs _ hold, hvars _ hold, World.keptBut_mono (fun p hp => ⟨hp, ?_⟩) (hb.frame (· ∈ before)), fun _ => ?_⟩
  · rw [hps, List.mem_append] at hp
    exact Or.inr hp
  · obtain ⟨_, _, _, _, _, hz, hn⟩ := hW
    refine ⟨hok, _, _, ([] ++ pa) ++ pv, ⟨[] ++ pa, pv, trodAll_append (hargs _ (fun _ _ => rfl)) (hres _ _ _), hvars _ (fun _ _ => rfl), rfl, ?_, ?_⟩, ?_⟩
    · intro b off hp
      have hin : MemPlace.cell b off ∈ before := by rw [hps]; simpa using hp
      rw [hb.frozen (hlt _ hin)]
      exact hz b off hin
    · intro ha
      have := hn ha
      rw [hps] at this
      simpa using this
    · intro p hp _
      rw [hps]
      simpa using hp
end
end Am
