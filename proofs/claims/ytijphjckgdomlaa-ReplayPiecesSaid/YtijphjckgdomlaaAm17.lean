/-
  The evaluator's word on a region, and what the run does.
-/
import Derived.Test.YtijphjckgdomlaaAm16
import Derived.OrdersHeld
set_option linter.all false
namespace Am
open Go

/-- Does the operation turn what was there? -/
def wrO (C : Cfg) (op : Op) : Bool := match op with
  | .call c => (match c.callee with
    | .value (.func f) => mem f C.muts
    | .value _ => true
    | .invoke _ _ => true
    | .builtin _ => isWr op)
  | op => isWr op

section
variable {P : Program} {T : Tab} {C : Cfg}

/-- One state of the evaluator says no more than another. -/
def WeakS (P : Program) (nx0 : Nat) (st st' : St) : Prop :=
  ∀ (g : Gh) (w : World) (t : Array Value), EnvRel g st.nx w st.env t → Rel P g st.nx st.sto w → nx0 ≤ st.nx →
    ∃ g', EnvRel g' st'.nx w st'.env t ∧ Rel P g' st'.nx st'.sto w ∧ nx0 ≤ st'.nx ∧ Stp (own g st.sto) nx0 g w g' w ∧ ∀ b, own g' st'.sto b → own g st.sto b

/-- A frame that fits, on the way from where it began. -/
structure Fr (P : Program) (N : Nat) (g0 : Gh) (nx0 : Nat) (s0 : Sto) (w0 : World) (g : Gh) (st : St) (a : Act) (w : World) : Prop where
  env : EnvRel g st.nx w st.env a.tmps
  rel : Rel P g st.nx st.sto w
  size : a.tmps.size = N
  defers : a.defers = []
  stp : Stp (own g0 s0) nx0 g0 w0 g w
  nx : nx0 ≤ st.nx
  ow : Ow g0 s0 w0 g st.sto

variable {N nx0 : Nat} {g0 g : Gh} {s0 : Sto} {w0 w : World} {a : Act} {st : St}

theorem put_size (a : Act) (d : Option Tmp) (x : Value) : (a.put d x).tmps.size = a.tmps.size := by cases d <;> simp [Act.put]
theorem put_defers (a : Act) (d : Option Tmp) (x : Value) : (a.put d x).defers = a.defers := by cases d <;> rfl

theorem Fr.step {e : Env} {s s' : Sto} {nx nx' : Nat} {g' : Gh} {w' : World} {v : AV} {y : Value} {d : Option Nat} (h : Fr P N g0 nx0 s0 w0 g ⟨e, s, nx⟩ a w) (hd : ∀ k, d = some k → k < N)
    (h1 : nx ≤ nx') (h2 : Rel P g' nx' s' w') (h3 : Stp (own g s) nx g w g' w') (h4 : Ow g s w g' s') (h5 : VRel g' nx' w' v y) :
    Fr P N g0 nx0 s0 w0 g' ⟨Am.put e d v, s', nx'⟩ (a.put d y) w' := by
  have hk := h3.keeps h.rel (fun _ h => h)
  have henv : EnvRel g' nx' w' e a.tmps := h.env.keeps hk h1
  have hsz := h.stp.size
  refine ⟨henv.put h5 d (fun k hk => by rw [h.size]; exact hd k hk), h2, by rw [put_size]; exact h.size, by rw [put_defers]; exact h.defers, h.stp.trans h3 h.nx h.ow, Nat.le_trans h.nx h1, fun b hb => ?_⟩
  rcases h4 b hb with h6 | h6
  · exact h.ow b h6
  · exact .inr (Nat.le_trans hsz h6)

theorem Fr.drew (h : Fr P N g0 nx0 s0 w0 g st a w) : Fr P N g0 nx0 s0 w0 g st a w.drew := by
  have hk : Keeps st.nx g w g w.drew := ⟨fun _ _ => ⟨rfl, rfl, rfl⟩, fun _ _ h => h, fun _ _ _ => rfl⟩
  exact ⟨h.env.keeps hk (Nat.le_refl _), h.rel.drew, h.size, h.defers, ⟨h.stp.size, h.stp.blk, h.stp.os, h.stp.tape, h.stp.output, h.stp.bet, h.stp.fz, h.stp.fzn⟩, h.nx, h.ow⟩

theorem FinX.le {m : Bool} {nx : Nat} {s : Sto} {K : AV → Sto → Nat → Prop} {y : Value} {w' : World} (h : FinX m P g nx s w K y w') : FinX true P g nx s w K y w' := ⟨h.1, fun h => by cases h⟩

/-- The methods of the table are found, each at a value receiver. -/
def MethsOk (P : Program) (C : Cfg) : Prop := ∀ t f, look t C.meths = some f → ∀ (v : Value) (w : World), (method (P.types.size + Made.depth) t v C.mname).run P w = .ok (f, v) w

theorem exec_sound (hT : TabOk P T) (hM : MethsOk P C) {weak : St → St → Prop} {e : Env} {s : Sto} {nx : Nat} {K : AV → Sto → Nat → Prop} (hR : Rel P g nx s w) (hE : EnvRel g nx w e a.tmps) {o : Oper}
    (h : exec (real (TriS P) weak) T C o e s nx K) {next : Act → World → Prop} {Q : Exit → Act → World → Prop} (hn : ∀ y w', FinX (wrO C o.op) P g nx s w K y w' → next (a.put o.dst y) w') : o.wp P a w next Q := by
  have does : Does (wrO C o.op) P g nx s w K (execOp a.eval o) → o.wp P a w next Q := by
    rintro ⟨v, y, g', nx', s', w', h1, h2, h3, h4, h5, h6, h7, h8⟩
    have := hn y w' ⟨⟨v, g', nx', s', h1, h2, h3, h4, h5, h6⟩, h8⟩
    unfold Oper.wp
    rcases h7 with h7 | ⟨rfl, h7⟩
    · rw [h7]; exact this
    · rw [h7]; exact this
  have plain : wrO C o.op = isWr o.op → (aop (real (TriS P) weak) T o.op e s nx).sat K → o.wp P a w next Q := fun hw h => does (by rw [hw]; exact aop_sound hT hR hE o h)
  unfold exec at h
  split at h
  · rename_i c ho
    split at h
    · rename_i f hc
      split at h
      case h_2 => exact h.elim
      rename_i fn caps vs hf hvs
      have hfv := ev_rel hE hf
      cases hfv with | c _ _ hcl =>
      obtain ⟨ys, hy, hp⟩ := crel_clo hcl
      obtain ⟨hl, hvr⟩ := evs_rel hE hvs
      have hargs : Args g nx w (vs ++ caps.map .c) (c.args.toList.map a.eval ++ ys) := by
        refine ⟨by simp [hl, hp.len], fun i v x hv hx => ?_⟩
        rw [List.getElem?_append] at hv hx
        rw [List.length_map, ← hl] at hx
        split at hv
        · rename_i hi
          rw [if_pos hi] at hx
          rw [List.getElem?_map] at hx
          cases hq : c.args.toList[i]? with
          | none => simp [hq] at hx
          | some q =>
            simp only [hq, Option.map_some] at hx
            injection hx with hx
            subst hx
            exact hvr i v q hv hq
        · rename_i hi
          rw [if_neg hi] at hx
          rw [List.getElem?_map] at hv
          cases hq : caps[i - vs.length]? with
          | none => simp [hq] at hv
          | some q =>
            simp only [hq, Option.map_some] at hv
            injection hv with hv
            subst hv
            exact .c _ _ (hp.at_ _ q x hq hx)
      have he : (execOp a.eval o).run P w = (callFunc fn (c.args.toList.map a.eval ++ ys).toArray).run P w := by
        have e1 : c.args.map a.eval ++ ys.toArray = (c.args.toList.map a.eval ++ ys).toArray := by
          apply Array.ext'
          simp
        unfold execOp
        simp only [ho, resolve, hc, hy, Deferred.ofValue, Sem.run_bind, Sem.run_pure, Result.andThen_ok, invoke]
        rw [← e1]
        simp
      have fx : ∀ {y w'}, FinX (mem fn C.muts) P g nx s w K y w' → FinX (wrO C o.op) P g nx s w K y w' := by
        intro y w' hF
        rw [ho]
        simp only [wrO, hc]
        cases f with
        | func f' =>
          simp only [ev] at hf
          injection hf with hf
          injection hf with hf
          injection hf with hf
          subst hf
          exact hF
        | _ => exact hF.le
      unfold Oper.wp
      rw [he]
      rcases callX_sound hR hargs h with ⟨y, w', hF, hr⟩ | ⟨hr, hcalls⟩
      · rw [hr]
        exact hn y w' (fx hF)
      · rw [hr]
        refine Calls.mono hcalls (fun e' w' ⟨y, he', hF⟩ => ?_)
        subst he'
        exact hn y w' (fx hF)
    · rename_i r name hc
      obtain ⟨hname, h⟩ := h
      have go : ∀ {t : TypeId} {z : Value} {u : AV} {vs : List AV} {fn : Nat}, a.eval r = .iface t z → VRel g nx w u z → evs e c.args.toList = some vs → look t C.meths = some fn → callX (real (TriS P) weak) C fn (u :: vs) s nx K → o.wp P a w next Q := by
        intro t z u vs fn hz hu hvs hfn h
        obtain ⟨hl, hvr⟩ := evs_rel hE hvs
        have hargs : Args g nx w (u :: vs) (z :: c.args.toList.map a.eval) := by
          refine ⟨by simp [hl], fun i v x hv hx => ?_⟩
          cases i with
          | zero => simp at hv hx; subst hv; subst hx; exact hu
          | succ i =>
            simp only [List.getElem?_cons_succ, List.getElem?_map] at hv hx
            cases hq : c.args.toList[i]? with
            | none => simp [hq] at hx
            | some q =>
              simp only [hq, Option.map_some] at hx
              injection hx with hx
              subst hx
              exact hvr i v q hv hq
        have he : (execOp a.eval o).run P w = (callFunc fn (z :: c.args.toList.map a.eval).toArray).run P w := by
          have e1 : #[z] ++ (#[Value.iface t z] ++ c.args.map a.eval).extract 1 (#[Value.iface t z] ++ c.args.map a.eval).size = (z :: c.args.toList.map a.eval).toArray := by
            apply Array.ext'
            simp
            exact List.take_of_length_le (by simp)
          unfold execOp
          simp only [ho, resolve, hc, hz, Sem.run_bind, Sem.run_pure, Result.andThen_ok, invoke]
          have e2 : ((#[Value.iface t z] ++ c.args.map a.eval)[0]? : Option Value) = some (.iface t z) := by
            rw [Array.getElem?_append_left (Nat.lt_succ_self 0)]
            rfl
          simp only [e2, callMethod, Sem.run_bind, run_program, Result.andThen_ok, hname, hM t fn hfn z w]
          rw [e1]
        unfold Oper.wp
        rw [he]
        rcases callX_sound hR hargs h with ⟨y, w', hF, hr⟩ | ⟨hr, hcalls⟩
        · rw [hr]
          exact hn y w' (by rw [show wrO C o.op = true by rw [ho]; simp only [wrO, hc]]; exact hF.le)
        · rw [hr]
          refine Calls.mono hcalls (fun e' w' ⟨y, he', hF⟩ => ?_)
          subst he'
          exact hn y w' (by rw [show wrO C o.op = true by rw [ho]; simp only [wrO, hc]]; exact hF.le)
      split at h
      · rename_i t x vs hr hvs
        obtain ⟨z, hz, hcr⟩ := vif1 (ev_rel hE hr)
        split at h
        case h_2 => exact h.elim
        rename_i fn hfn
        exact go hz (.c _ _ hcr) hvs hfn h
      · rename_i t xs vs hr hvs
        obtain ⟨z, hz, hcr⟩ := vifa (ev_rel hE hr)
        split at h
        case h_2 => exact h.elim
        rename_i fn hfn
        exact go hz hcr hvs hfn h
      · exact h.elim
    · rename_i b hc
      exact plain (by rw [ho]; simp only [wrO, hc]) h
  · rename_i hne
    refine plain ?_ h
    cases ho : o.op <;> first | rfl | exact absurd ho (hne _)

/-- What one operation of a region, wanted or not, hands on. -/
def Upon (P : Program) (all : Array Oper) (o : Oper) (a : Act) (w : World) (next : Act → World → Prop) (Q : Exit → Act → World → Prop) : Prop :=
  if Region.wanted o (yielded all a.tmps) = true then o.wp P a w next Q ∨ (o.asks P a w ∧ LetsOut Q) else next (a.put o.dst undef) w

def boolOf : Value → Option Bool
  | .bool b => some b
  | _ => none
theorem yielded_at {all : Array Oper} {j d : Nat} {oj : Oper} (hj : all[j]? = some oj) (hdj : oj.dst = some d) {x : Value} (hx : a.tmps[d]? = some x) : yielded all a.tmps j = boolOf x := by
  unfold yielded
  simp only [hj, hdj, Option.bind_some, hx]
  cases x <;> rfl

theorem Fr.lit {e : Env} {s : Sto} {nx d : Nat} {b : Bool} (hF : Fr P N g0 nx0 s0 w0 g ⟨e, s, nx⟩ a w) (hb : a.tmps[d]? = some (.bool b)) : Fr P N g0 nx0 s0 w0 g ⟨ins d (.c (.lit b)) e, s, nx⟩ a w := by
  refine ⟨fun k v hk => ?_, hF.rel, hF.size, hF.defers, hF.stp, hF.nx, hF.ow⟩
  simp only at hk
  rw [look_ins] at hk
  split at hk
  · rename_i hkd
    subst hkd
    injection hk with hk
    subst hk
    exact ⟨_, hb, vlit' b⟩
  · exact hF.env k v hk

/-- A guard, taken apart: it wants the operation, or it does not. -/
theorem gexec_cases {A : Ar} {all : Array Oper} {o : Oper} {e : Env} {s : Sto} {nx : Nat} {K : Env → Sto → Nat → Prop} (hF : Fr P N g0 nx0 s0 w0 g ⟨e, s, nx⟩ a w) (h : gexec A T C all.toList o e s nx K) :
    (∃ e', Fr P N g0 nx0 s0 w0 g ⟨e', s, nx⟩ a w ∧ Region.wanted o (yielded all a.tmps) = true ∧ exec A T C o e' s nx (fun v s nx => K (put e' o.dst v) s nx)) ∨
    (∃ e', Fr P N g0 nx0 s0 w0 g ⟨e', s, nx⟩ a w ∧ Region.wanted o (yielded all a.tmps) = false ∧ K (put e' o.dst .un) s nx) := by
  unfold gexec at h
  split at h
  · rename_i hg
    exact .inl ⟨e, hF, by simp [Region.wanted, hg], h⟩
  · rename_i j want hg
    split at h
    case h_2 => exact h.elim
    rename_i oj hj
    split at h
    case h_2 => exact h.elim
    rename_i d hdj
    rw [nth_eq] at hj
    have hj' : all[j]? = some oj := by simpa using hj
    have hw : ∀ x, a.tmps[d]? = some x → Region.wanted o (yielded all a.tmps) = (boolOf x == some want) := fun x hx => by
      simp only [Region.wanted, hg, yielded_at hj' hdj hx]
    split at h
    · rename_i b hl
      obtain ⟨x, hx, hxr⟩ := hF.env d _ hl
      have hxb := vlit hxr
      subst hxb
      split at h
      · rename_i hbw
        refine .inl ⟨e, hF, ?_, h⟩
        rw [hw _ hx]
        have : b = want := by simpa using hbw
        simp [this, boolOf]
      · rename_i hbw
        refine .inr ⟨e, hF, ?_, h⟩
        rw [hw _ hx]
        have : b ≠ want := by simpa using hbw
        simp [this, boolOf]
    · rename_i b hl
      obtain ⟨x, hx, hxr⟩ := hF.env d _ hl
      have hxb := vv hxr
      subst hxb
      by_cases hbw : b = want
      · refine .inl ⟨_, hF.lit (b := want) (by rw [hx, hbw]), ?_, h.1 hbw⟩
        rw [hw _ hx]
        simp [hbw, boolOf]
      · have hbn : b = !want := by cases b <;> cases want <;> simp_all
        refine .inr ⟨_, hF.lit (b := !want) (by rw [hx, hbn]), ?_, h.2 hbn⟩
        rw [hw _ hx]
        simp [hbw, boolOf]
    · rename_i hl
      obtain ⟨x, hx, hxr⟩ := hF.env d _ hl
      have hxu : x = undef := by cases hxr; rfl
      subst hxu
      refine .inr ⟨e, hF, ?_, h⟩
      rw [hw _ hx]
      simp [undef, boolOf]
    · exact h.elim

theorem gexec_sound (hT : TabOk P T) (hM : MethsOk P C) {weak : St → St → Prop} {all : Array Oper} {o : Oper} (hd : ∀ k, o.dst = some k → k < N) {e : Env} {s : Sto} {nx : Nat} {K : Env → Sto → Nat → Prop} (hF : Fr P N g0 nx0 s0 w0 g ⟨e, s, nx⟩ a w)
    (h : gexec (real (TriS P) weak) T C all.toList o e s nx K) {next : Act → World → Prop} {Q : Exit → Act → World → Prop}
    (hn : ∀ e' s' nx' g' a' w', Fr P N g0 nx0 s0 w0 g' ⟨e', s', nx'⟩ a' w' → (wrO C o.op = false → Same w w') → K e' s' nx' → next a' w') : Upon P all o a w next Q := by
  unfold Upon
  rcases gexec_cases hF h with ⟨e', hF, hw, h⟩ | ⟨e', hF, hw, h⟩
  · rw [if_pos hw]
    refine .inl (exec_sound hT hM hF.rel hF.env h (fun y w' ⟨⟨v, g', nx', s', h1, h2, h3, h4, h5, h6⟩, h7⟩ => ?_))
    exact hn _ _ _ _ _ _ (hF.step hd h2 h3 h4 h5 h6) h7 h1
  · rw [if_neg (by simp [hw])]
    exact hn _ _ _ _ _ _ (hF.step hd (Nat.le_refl _) hF.rel (Stp.refl _ _ _ _) (fun _ h => .inl h) .un) (fun _ => Same.refl w) h

theorem ops_sound (hT : TabOk P T) (hM : MethsOk P C) {weak : St → St → Prop} {all : Array Oper} (hd : ∀ o ∈ all.toList, ∀ k, o.dst = some k → k < N) {Q : Exit → Act → World → Prop} {K : Env → Sto → Nat → Prop}
    (hK : ∀ e s nx g a w, Fr P N g0 nx0 s0 w0 g ⟨e, s, nx⟩ a w → K e s nx → Q .normal a w) :
    ∀ (r : List Oper) (i : Nat), r = all.toList.drop i → ∀ (e : Env) (s : Sto) (nx : Nat) (g : Gh) (a : Act) (w : World), Fr P N g0 nx0 s0 w0 g ⟨e, s, nx⟩ a w → ops (real (TriS P) weak) T C all.toList r e s nx K →
      wpOps P all Q (List.range' i r.length) a w := by
  intro r
  induction r with
  | nil => intro i _ e s nx g a w hF h; exact hK e s nx g a w hF h
  | cons o r ih =>
    intro i hr e s nx g a w hF h
    have hoi : all[i]? = some o := by
      have : (all.toList.drop i)[0]? = some o := by rw [← hr]; rfl
      rw [List.getElem?_drop] at this
      simpa using this
    have hmem : o ∈ all.toList := by
      have : o ∈ all.toList.drop i := by rw [← hr]; simp
      exact List.mem_of_mem_drop this
    have hr' : r = all.toList.drop (i + 1) := by
      have : (o :: r).drop 1 = (all.toList.drop i).drop 1 := by rw [hr]
      rw [List.drop_drop] at this
      simpa using this
    simp only [List.length_cons, List.range'_succ, wpOps, hoi]
    exact gexec_sound hT hM (hd o hmem) hF h (fun e' s' nx' g' a' w' hF' _ h' => ih (i + 1) hr' e' s' nx' g' a' w' hF' h')

/-! ### a region that draws its order -/
/-- Whatever order is picked from here on; nothing that was there turns behind an operation that is no writer. -/
def wpAnyX (P : Program) (ops : Array Oper) (Q : Exit → Act → World → Prop) (wr : Nat → Bool) : Nat → Array Bool → Act → World → Prop
  | 0, listed, a, w => Region.ready .any ops listed = [] ∧ Q .normal a w
  | fuel + 1, listed, a, w =>
    (Region.ready .any ops listed = [] → Q .normal a w) ∧
    ∀ i ∈ Region.ready .any ops listed, wpOp P ops Q i (fun a' w' => (wr i = false → Same w w') ∧ wpAnyX P ops Q wr fuel (listed.setIfInBounds i true) a' w') a w

theorem wpAny_of_x {ops : Array Oper} {Q : Exit → Act → World → Prop} {wr : Nat → Bool} : ∀ (fuel : Nat) (listed : Array Bool) (a : Act) (w : World), wpAnyX P ops Q wr fuel listed a w → wpAny P .any ops Q fuel listed a w
  | 0, _, _, _, h => h
  | fuel + 1, _, _, _, h => ⟨h.1, fun i hi => wpOp_mono (fun a' w' h' => wpAny_of_x fuel _ a' w' h'.2) (h.2 i hi)⟩

theorem Same.trans {w w' w'' : World} (h : Same w w') (h' : Same w' w'') (hs : w.heap.size ≤ w'.heap.size) : Same w w'' := fun b hb => (h' b (Nat.lt_of_lt_of_le hb hs)).trans (h b hb)
theorem Same.size {w w' : World} (h : Same w w') : w.heap.size ≤ w'.heap.size := by
  rcases Nat.lt_or_ge w'.heap.size w.heap.size with hlt | hge
  · have := h w'.heap.size hlt
    rw [Array.getElem?_eq_none (Nat.le_refl _), Array.getElem?_eq_getElem hlt] at this
    cases this
  · exact hge

theorem anyX_first {ops : Array Oper} {Q : Exit → Act → World → Prop} {wr D : Nat → Bool} {nr : Bool} {i : Nat} {oi : Oper} {v : Value} (hi : ops[i]? = some oi) (hsel : ∀ (j : Nat) (o : Oper) cs b, ops[j]? = some o → o.op ≠ .select cs b)
    (hQ : ∀ c a w, Q (.panic c) (a.put oi.dst v) w → Q (.panic c) a w) :
    ∀ (fuel : Nat) (listed : Array Bool) (a : Act) (w : World),
      (∀ j oj, ops[j]? = some oj → j ≠ i → listed.getD j true = false → D j = false → oi.apart ops oj = true ∧ (nr = true ∨ wr j = false)) →
      (∀ j, D j = true → listed.getD j true = false ∧ ∃ oj, ops[j]? = some oj ∧ ∃ e ∈ oj.after, Region.binds .any e = true ∧ (e.on = i ∨ D e.on = true)) →
      i ∈ Region.ready .any ops listed → YieldsIf P ops (fun w' => nr = true ∨ Same w w') oi v a →
      wpAnyX P ops Q wr fuel (listed.setIfInBounds i true) (a.put oi.dst v) w → wpAnyX P ops Q wr (fuel + 1) listed a w := by
  intro fuel
  induction fuel with
  | zero =>
    intro listed a w _ _ hr hy H
    refine ⟨fun h => (by rw [h] at hr; cases hr), fun j hj => ?_⟩
    by_cases hji : j = i
    · subst hji; exact hy.wpOp hi (.inr (Same.refl w)) ⟨fun _ => Same.refl w, H⟩
    · have := ready_mono hj hji
      rw [H.1] at this
      cases this
  | succ fuel ih =>
    intro listed a w hfree hD hr hy H
    refine ⟨fun h => (by rw [h] at hr; cases hr), fun j hj => ?_⟩
    by_cases hji : j = i
    · subst hji; exact hy.wpOp hi (.inr (Same.refl w)) ⟨fun _ => Same.refl w, H⟩
    · have h1 := H.2 j (ready_mono hj hji)
      obtain ⟨hjun, oj, hoj, hall⟩ := mem_ready.1 hj
      have unl : ∀ k, listed.getD k true = false → listed.getD k false = true → False := fun k q1 q2 => by
        rcases Nat.lt_or_ge k listed.size with h' | h'
        · simp [h'] at q1 q2; rw [q1] at q2; cases q2
        · simp [Array.getElem?_eq_none h'] at q1
      have hDj : D j = false := by
        cases hdj : D j with
        | false => rfl
        | true =>
          obtain ⟨_, oj', ho', e, he, hb, hon⟩ := hD j hdj
          rw [hoj] at ho'
          injection ho' with ho'
          subst ho'
          have hl := hall e he hb
          rcases hon with hon | hon
          · rw [hon] at hl
            exact (unl i (mem_ready.1 hr).1 hl).elim
          · exact (unl _ (hD _ hon).1 hl).elim
      obtain ⟨hap, hwj⟩ := hfree j oj hoj hji hjun hDj
      have h2 := wpOp_putIf hoj hap (fun cs b => hsel i oi cs b hi) (fun cs b => hsel j oj cs b hoj) hQ hy h1
      have hfree' : ∀ k ok, ops[k]? = some ok → k ≠ i → (listed.setIfInBounds j true).getD k true = false → D k = false → oi.apart ops ok = true ∧ (nr = true ∨ wr k = false) := fun k ok hk hki hun hno => by
        refine hfree k ok hk hki ?_ hno
        by_cases hjk : j = k
        · subst hjk; exact hjun
        · rw [getD_set_ne true hjk] at hun; exact hun
      have hD' : ∀ k, D k = true → (listed.setIfInBounds j true).getD k true = false ∧ ∃ oj, ops[k]? = some oj ∧ ∃ e ∈ oj.after, Region.binds .any e = true ∧ (e.on = i ∨ D e.on = true) := fun k hk => by
        have hjk : j ≠ k := fun e => by rw [e, hk] at hDj; cases hDj
        rw [getD_set_ne true hjk]
        exact hD k hk
      refine wpOp_mono (fun a' w' h3 => ⟨h3.2.1, ?_⟩) h2
      have hy' : YieldsIf P ops (fun w2 => nr = true ∨ Same w' w2) oi v a' := by
        rcases h3.1 with ⟨q1, q2⟩ | q
        · refine .inl ⟨q1, fun w2 hw2 => q2 w2 ?_⟩
          rcases hwj with hn | hwj
          · exact .inl hn
          · have hsame := h3.2.1 hwj
            exact hw2.imp id (fun h => hsame.trans h hsame.size)
        · exact .inr q
      refine ih (listed.setIfInBounds j true) a' w' hfree' hD' (ready_mono hr (Ne.symm hji)) hy' ?_
      rw [Array.setIfInBounds_comm _ _ hji]
      exact h3.2.2

def isPop : Op → Bool
  | .move _ | .assign _ | .pick _ _ _ | .fieldAddr _ _ _ | .field _ _ _ | .indexAddr _ _ _ | .index _ _ _ | .load _ _ | .nilCheck _ | .binOp _ _ _ _ _ | .unOp _ _ _ | .convert _ _ _
  | .makeInterface _ _ | .makeFunc _ _ _ | .extract _ _ | .build _ _ | .slice _ _ _ _ _ | .lookup _ _ _ _ => true
  | .call c => (match c.callee with | .builtin .len => true | .builtin .min => true | .builtin .max => true | _ => false)
  | _ => false

/-- The operations that wait for number i, through others too (an operation waits only for those ahead of it in the text). -/
def waits (ops : Array Oper) (i : Nat) : List Nat :=
  (List.range ops.size).foldl (fun D j => match ops[j]? with
    | some oj => if oj.after.any (fun e => Region.binds .any e && (e.on == i || D.contains e.on)) then j :: D else D
    | none => D) []

/-- Operations that look at no memory. -/
def noRead : Op → Bool
  | .move _ | .assign _ | .extract _ _ => true
  | _ => false

def freeX (C : Cfg) (ops : Array Oper) (listed : Array Bool) (i : Nat) : Bool :=
  match ops[i]? with
  | none => false
  | some oi => ((waits ops i).all fun j => !listed.getD j true && (match ops[j]? with | some oj => oj.after.any (fun e => Region.binds .any e && (e.on == i || (waits ops i).contains e.on)) | none => false)) &&
    (List.range ops.size).all fun j => j == i || listed.getD j true || (waits ops i).contains j || match ops[j]? with
      | some oj => oi.apart ops oj && (noRead oi.op || !wrO C oj.op)
      | none => true

def Plan.alts : Plan → List Nat
  | .eff i _ r => i :: r.alts
  | _ => []

def planOk (C : Cfg) (ops : Array Oper) : Bool → Plan → Nat → Array Bool → Bool
  | true, .done, _, listed => (Region.ready .any ops listed).isEmpty
  | true, .take i p, fuel + 1, listed => (match ops[i]? with | some oi => isPop oi.op | none => false) && (Region.ready .any ops listed).contains i && freeX C ops listed i && planOk C ops true p fuel (listed.setIfInBounds i true)
  | true, .one i p, fuel + 1, listed => ((Region.ready .any ops listed).all fun j => j == i) && !(Region.ready .any ops listed).isEmpty && planOk C ops true p fuel (listed.setIfInBounds i true)
  | true, .eff i p r, fuel + 1, listed => ((Region.ready .any ops listed).all fun j => (Plan.eff i p r).alts.contains j) && !(Region.ready .any ops listed).isEmpty && planOk C ops true p fuel (listed.setIfInBounds i true) &&
      planOk C ops false r (fuel + 1) listed
  | false, .eff i p r, fuel + 1, listed => planOk C ops true p fuel (listed.setIfInBounds i true) && planOk C ops false r (fuel + 1) listed
  | false, .no, _, _ => true
  | _, _, _, _ => false
end
end Am
