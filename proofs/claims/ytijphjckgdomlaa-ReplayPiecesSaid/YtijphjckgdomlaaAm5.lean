/-
  Operations that leave the store alone, one by one.
-/
import Derived.Test.YtijphjckgdomlaaAm4
set_option linter.all false
namespace Am
open Go

/-- A computation yields x, whatever has been made since. -/
def Yv (P : Program) (w : World) (x : Sem Value) (v : Value) : Prop := ∀ w', Same w w' → x.run P w' = .ok v w'
theorem Yv.op {P : Program} {w : World} {S : Sem Value} {v : Value} (h : Yv P w S v) : Yields P w (do pure (.value (← S))) v := fun w' hw => by simp [h w' hw]

section
variable {P : Program} {T : Tab} {g : Gh} {nx : Nat} {w : World} {s : Sto} {e : Env} {a : Act}

theorem same_cell {w' : World} (h : Same w w') {b o : Nat} {y : Value} (hc : w.cell? ⟨b, o, none⟩ = some y) : w'.cell? ⟨b, o, none⟩ = some y :=
  (cell_blk (h b (World.block_lt_of_cell? w ⟨b, o, none⟩ hc))).trans hc

/-- A load. -/
theorem load_sound (hT : TabOk P T) (hR : Rel P g nx s w) (hE : EnvRel g nx w e a.tmps) {tri : FuncId → List AV → Sto → Nat → (AV → Sto → Nat → Prop) → Prop} {weak : St → St → Prop} {K : AV → Prop} {t : Nat} {x : Operand}
    (h : (pop (real tri weak) T (.load t x) e s).sat K) : ∃ v y, K v ∧ VRel g nx w v y ∧ Yv P w (Instr.loadAt t (a.eval x)) y := by
  simp only [pop] at h
  cases hx : ev e x with
  | none => simp [hx, PO.sat] at h
  | some v =>
    have hv := ev_rel hE hx
    simp only [hx] at h
    split at h
    · rename_i id off heq
      injection heq with heq
      subst heq
      obtain ⟨hy, hid⟩ := vptr hv
      cases hl : look id s with
      | none => simp [hl, PO.sat] at h
      | some o =>
        cases o with
        | box cs =>
          simp only [hl, partP] at h
          cases hp : part T t cs off with
          | none => simp [hp, PO.sat] at h
          | some u =>
            simp only [hp, PO.sat] at h
            cases hR.obj id _ hl with
            | box _ ys T' hb hpw =>
              obtain ⟨y, hy1, hy2⟩ := part_rel hT hp hpw
              refine ⟨u, y, h, hy2, fun w' hw => ?_⟩
              have hlt : g.β id < w.heap.size := (Array.getElem?_eq_some_iff.1 hb).1
              obtain ⟨y', e1, e2⟩ := load_part hT (o := 0) (b := g.β id) hp hpw (w' := w') (fun j z hj => by
                refine same_cell hw ?_
                rw [Nat.zero_add, cell_of_row w _ _ _ _ _ hb]
                simpa using hj)
              rw [hy1] at e1
              injection e1 with e1
              subst e1
              rw [hy]
              simp only [Nat.zero_add] at e2
              simp [Instr.loadAt, Instr.sureAddr, e2]
        | arr => simp [hl, PO.sat] at h
        | map => simp [hl, PO.sat] at h
        | sit => simp [hl, PO.sat] at h
    · rename_i xs off heq
      injection heq with heq
      subst heq
      obtain ⟨b, o, vals, hy, hc, hf, hr⟩ := velp hv
      simp only [partP] at h
      cases hp : part T t xs off with
      | none => simp [hp, PO.sat] at h
      | some u =>
        simp only [hp, PO.sat] at h
        have hpw : Pw (CRel g nx w) xs ((List.range xs.length).map vals) := ⟨by simp, fun i c y h1 h2 => by
          have hi : i < xs.length := (List.getElem?_eq_some_iff.1 h1).1
          simp [hi] at h2
          subst h2
          exact .d _ _ (hr i c h1)⟩
        obtain ⟨y, hy1, hy2⟩ := part_rel hT hp hpw
        refine ⟨u, y, h, hy2, fun w' hw => ?_⟩
        obtain ⟨y', e1, e2⟩ := load_part hT (o := o) (b := b) hp hpw (w' := w') (fun j z hj => by
          have hi : j < xs.length := by have := (List.getElem?_eq_some_iff.1 hj).1; simpa using this
          simp [hi] at hj
          subst hj
          exact same_cell hw (hc j xs[j] (List.getElem?_eq_getElem hi)))
        rw [hy1] at e1
        injection e1 with e1
        subst e1
        rw [hy]
        simp [Instr.loadAt, Instr.sureAddr, e2]
    · rename_i id sz i off heq
      injection heq with heq
      subst heq
      obtain ⟨hy, hid, hnl⟩ := verp hv
      cases hl : look id s with
      | none => simp [hl, PO.sat] at h
      | some o =>
        cases o with
        | arr u z n f =>
          simp only [hl] at h
          split at h
          case h_2 => simp [PO.sat] at h
          rename_i hz
          have hz := eqt hz
          subst hz
          simp only [PO.sat, real, partP] at h
          obtain ⟨⟨_, hi⟩, h⟩ := h
          have hi : i < n := by simpa using hi
          cases hp : part T t (f i) off with
          | none => simp [hp, PO.sat] at h
          | some u =>
            simp only [hp, PO.sat] at h
            cases hR.obj id _ hl with
            | arrnil _ _ _ hn => rw [hn] at hnl; cases hnl
            | arr _ _ _ _ ys hn hb hk hm hsz hlen hcr h1 =>
              have hle : i * z + z ≤ ys.length := by
                rw [hsz, ← Nat.succ_mul]
                exact Nat.mul_le_mul_right _ (by omega)
              have hpw : Pw (CRel g nx w) (f i) ((ys.drop (i * z)).take z) := ⟨by rw [hlen i hi]; simp; omega, fun j c y h1 h2 => by
                simp only [List.getElem?_take, List.getElem?_drop] at h2
                split at h2
                · exact hcr i j c y hi h1 h2
                · cases h2⟩
              obtain ⟨y, hy1, hy2⟩ := part_rel hT hp hpw
              refine ⟨_, y, h, hy2, fun w' hw => ?_⟩
              have hlt : g.β id < w.heap.size := (Array.getElem?_eq_some_iff.1 hb).1
              obtain ⟨y', e1, e2⟩ := load_part hT (o := i * z) (b := g.β id) hp hpw (w' := w') (fun j q hj => by
                refine same_cell hw ?_
                rw [cell_of_row w _ _ _ _ _ hb]
                simp only [List.getElem?_take, List.getElem?_drop] at hj
                split at hj
                · simpa using hj
                · cases hj)
              rw [hy1] at e1
              injection e1 with e1
              subst e1
              rw [hy]
              simp [Instr.loadAt, Instr.sureAddr, e2]
        | box => simp [hl, PO.sat] at h
        | map => simp [hl, PO.sat] at h
        | sit => simp [hl, PO.sat] at h
    · simp [PO.sat] at h

variable {tri : FuncId → List AV → Sto → Nat → (AV → Sto → Nat → Prop) → Prop} {weak : St → St → Prop} {K : AV → Prop}

theorem TDok.struct {t : Nat} {ti : TI} {fs : List (Nat × Nat)} {cm : Bool} (h : TIok P t ti) (e : ti.td = .struct fs cm) :
    ∃ a : Array Field, P.underlying t = some (.struct a) ∧ a.toList.map (fun f => (f.offset, f.type)) = fs ∧ (cm = true → P.eqGuardType P.depth t = false ∧ P.stoodInHeld t = false ∧ ∀ f ∈ a.toList, f.name ≠ "_") := by
  have := h.td
  rw [e] at this
  exact this
theorem kindOf_some {t : Nat} {td : TD} (h : kindOf T t = td) (hne : td ≠ .other) : ∃ ti, look t T = some ti ∧ ti.td = td := by
  unfold kindOf at h
  cases hl : look t T with
  | none => simp [hl] at h; exact absurd h.symm hne
  | some ti => simp [hl] at h; exact ⟨ti, rfl, h⟩
theorem kind_slice (hT : TabOk P T) {t u : Nat} (h : kindOf T t = .slice u) : P.underlying t = some (.slice u) := by
  obtain ⟨ti, hl, htd⟩ := kindOf_some h (by simp)
  have := (hT t ti hl).td
  rw [htd] at this
  exact this
theorem elemSz_some (hT : TabOk P T) {t z : Nat} (h : elemSz T t = some z) : ∃ u, P.underlying t = some (.slice u) ∧ ∀ w, (Go.sizeOf u).run P w = .ok z w := by
  unfold elemSz at h
  split at h
  · rename_i u hk
    cases hl : look u T with
    | none => simp [hl] at h
    | some ti =>
      simp [hl] at h
      subst h
      exact ⟨u, kind_slice hT hk, fun w => (hT u ti hl).size w⟩
  · cases h

theorem field_at {a : Array Field} {fs : List (Nat × Nat)} {f off u : Nat} (he : a.toList.map (fun f => (f.offset, f.type)) = fs) (h : fs[f]? = some (off, u)) :
    ∃ fl : Field, a[f]? = some fl ∧ fl.offset = off ∧ fl.type = u := by
  subst he
  rw [List.getElem?_map] at h
  cases h1 : a.toList[f]? with
  | none => simp [h1] at h
  | some fl =>
    simp [h1] at h
    exact ⟨fl, by simpa using h1, h.1, h.2⟩

/-- A field's address. -/
theorem fieldAddr_sound (hT : TabOk P T) {t f o : Nat} (hf : fldA T t f = some o) (b off : Nat) (w' : World) :
    (Instr.fieldAt t (.pointer (some ⟨b, off, none⟩)) f).run P w' = .ok (.pointer (some ⟨b, off + o, none⟩)) w' := by
  unfold fldA at hf
  split at hf
  · rename_i fs cm hk
    obtain ⟨ti, hl, htd⟩ := kindOf_some hk (by simp)
    obtain ⟨a, ha, he, _⟩ := TDok.struct (hT t ti hl) htd
    split at hf
    · rename_i off' u hn
      rw [nth_eq] at hn
      obtain ⟨fl, h1, h2, h3⟩ := field_at he hn
      split at hf
      · rename_i ti' hl'
        split at hf
        · cases hf
        · rename_i n hsz
          injection hf with hf
          subst hf
          have := (hT u ti' hl').size w'
          rw [← h3, hsz] at this
          simp [Instr.fieldAt, run_underlying ha, h1, Instr.sureAddr, fieldPlace, this, add_none, h2]
      · cases hf
    · cases hf
  · cases hf

theorem fld_sound (hT : TabOk P T) {t f o u : Nat} (hf : fldT T t f = some (o, u)) (ys : List Value) (w' : World) : (Instr.field t (.agg ys.toArray) f).run P w' = (Go.part u ys.toArray o).run P w' := by
  unfold fldT at hf
  split at hf
  · rename_i fs cm hk
    obtain ⟨ti, hl, htd⟩ := kindOf_some hk (by simp)
    obtain ⟨a, ha, he, _⟩ := TDok.struct (hT t ti hl) htd
    rw [nth_eq] at hf
    obtain ⟨fl, h1, h2, h3⟩ := field_at he hf
    simp [Instr.field, run_underlying ha, h1, asAgg, h2, h3]
  · cases hf

theorem sat_some {o : Option AV} (h : PO.sat K (match o with | some v => .ok v | none => .stuck)) : ∃ v, o = some v ∧ K v := by
  cases o with
  | none => exact h.elim
  | some v => exact ⟨v, rfl, h⟩

theorem fieldA_sound (hT : TabOk P T) (hE : EnvRel g nx w e a.tmps) {t f : Nat} {x : Operand} (h : (pop (real tri weak) T (.fieldAddr t x f) e s).sat K) :
    ∃ v y, K v ∧ VRel g nx w v y ∧ Yv P w (Instr.fieldAt t (a.eval x) f) y := by
  simp only [pop] at h
  split at h
  · rename_i id off o hx hf
    obtain ⟨hy, hid⟩ := vptr (ev_rel hE hx)
    exact ⟨_, _, h, .c _ _ (.ptr id (off + o) hid), fun w' _ => by rw [hy]; exact fieldAddr_sound hT hf _ _ _⟩
  · rename_i xs off o hx hf
    obtain ⟨b, o', vals, hy, hc, hfz, hr⟩ := velp (ev_rel hE hx)
    exact ⟨_, _, h, .c _ _ (.d _ _ (.elp xs (off + o) b o' vals hc hfz hr)), fun w' _ => by rw [hy, ← Nat.add_assoc]; exact fieldAddr_sound hT hf _ _ _⟩
  · rename_i id sz i off o hx hf
    obtain ⟨hy, hid, hn⟩ := verp (ev_rel hE hx)
    exact ⟨_, _, h, .c _ _ (.erp id sz i (off + o) hid hn), fun w' _ => by rw [hy, ← Nat.add_assoc]; exact fieldAddr_sound hT hf _ _ _⟩
  · exact h.elim

theorem field_sound (hT : TabOk P T) (hE : EnvRel g nx w e a.tmps) {t f : Nat} {x : Operand} (h : (pop (real tri weak) T (.field t x f) e s).sat K) :
    ∃ v y, K v ∧ VRel g nx w v y ∧ Yv P w (Instr.field t (a.eval x) f) y := by
  simp only [pop] at h
  split at h
  · rename_i cs o u hx hf
    obtain ⟨ys, hy, hp⟩ := vagg (ev_rel hE hx)
    obtain ⟨v, hv, hK⟩ := sat_some h
    obtain ⟨z, h1, h2⟩ := part_rel hT hv hp
    exact ⟨v, z, hK, h2, fun w' _ => by rw [hy, fld_sound hT hf]; exact h1 w'⟩
  · exact h.elim

theorem indexA_sound (hT : TabOk P T) (hE : EnvRel g nx w e a.tmps) {t : Nat} {x i : Operand} (h : (pop (real tri weak) T (.indexAddr t x i) e s).sat K) :
    ∃ v y, K v ∧ VRel g nx w v y ∧ Yv P w (Instr.indexAt t (a.eval x) (a.eval i)) y := by
  simp only [pop] at h
  split at h
  · rename_i sz n m f q k hx hi
    have hi := vv (ev_rel hE hi)
    split at h
    · rename_i z hz
      split at h
      case h_2 => exact h.elim
      rename_i hb
      have hb := eqt hb
      subst hb
      obtain ⟨⟨h0, h1⟩, hK⟩ := h
      obtain ⟨u, hu, hsz⟩ := elemSz_some hT hz
      rcases vsl (ev_rel hE hx) with ⟨_, hn, _⟩ | ⟨b, o, cap, vals, hy, hcap, _, hlen, hc, hf, hr⟩
      · omega
      · refine ⟨_, .pointer (some ⟨b, o + k.toNat * z + 0, none⟩), hK, .c _ _ (.d _ _ (.elp _ 0 b (o + k.toNat * z) (fun j => vals k.toNat j) ?_ ?_ ?_)), fun w' _ => ?_⟩
        · intro j c hj
          rw [Nat.add_assoc]
          exact hc _ j c (by omega) hj
        · intro j c hj
          rw [Nat.add_assoc]
          exact hf _ j c (by omega) hj
        · exact fun j c hj => hr _ j c (by omega) hj
        · rw [hy, hi]
          simp [Instr.indexAt, asIntOf, run_underlying hu, h0, h1, hsz, add_none]
    · exact h.elim
  · rename_i id sz off n q k hx hi
    have hi := vv (ev_rel hE hi)
    split at h
    · rename_i z hz
      split at h
      case h_2 => exact h.elim
      rename_i hb
      have hb := eqt hb
      subst hb
      obtain ⟨⟨h0, h1⟩, hK⟩ := h
      obtain ⟨u, hu, hsz⟩ := elemSz_some hT hz
      obtain ⟨hid, ⟨_, _, hn, _⟩ | ⟨cap, hy, hn, hk, hl⟩⟩ := vref (ev_rel hE hx)
      · omega
      · refine ⟨_, _, hK, .c _ _ (.erp id z (off + k.toNat) 0 hid hn), fun w' _ => ?_⟩
        rw [hy, hi]
        simp [Instr.indexAt, asIntOf, run_underlying hu, h0, h1, hsz, add_none, Nat.add_mul]
    · exact h.elim
  · rename_i id off q k hx hi
    have hi := vv (ev_rel hE hi)
    split at h
    · rename_i n u hk
      split at h
      · rename_i ti hl
        obtain ⟨⟨h0, h1⟩, hK⟩ := h
        obtain ⟨hy, hid⟩ := vptr (ev_rel hE hx)
        obtain ⟨tj, hlj, htd⟩ := kindOf_some hk (by simp)
        have hu : P.underlying t = some (.array n u) := by have := (hT t tj hlj).td; rw [htd] at this; exact this
        refine ⟨_, _, hK, .c _ _ (.ptr id (off + k * ti.size) hid), fun w' _ => ?_⟩
        have h1' : (Int.ofNat k) < (n : Int) := h1
        have h2 : k < n := Int.ofNat_lt.mp h1'
        rw [hy, hi]
        simp [Instr.indexAt, asIntOf, run_underlying hu, h2, (hT u ti hl).size, add_none, Instr.sureAddr]
      · exact h.elim
    · exact h.elim
  · exact h.elim
end
end Am
