/-
  The evaluator's word on a function.
-/
import Derived.Test.YtijphjckgdomlaaAm18
import Derived.Deep.LoopGhost
import Derived.Scope
set_option linter.all false
namespace Am
open Go

/-- Every operation's slot lies in the frame; the plans fit. -/
def okD (C : Cfg) (N : Nat) : Code → Bool
  | .region id os draw => (os.toList.all fun o => match o.dst with | some k => Nat.blt k N | none => true) &&
      (match draw with
        | false => true
        | true => (match look id C.plans with | some p => Region.noSelect os && planOk C os true p os.size (Array.replicate os.size false) | none => true))
  | .seq a b => okD C N a && okD C N b
  | .cond _ a b => okD C N a && okD C N b
  | .block _ b => okD C N b
  | .loop b => okD C N b
  | .scope b => okD C N b
  | _ => true

section
variable {P : Program} {T : Tab} {C : Cfg} {N nx0 : Nat} {g0 g : Gh} {s0 : Sto} {w0 w : World} {a : Act} {st : St} {R : St → Prop}

/-- What stands behind a piece of code, as the evaluator sees it, is what stands behind it in the run. -/
structure Good (P : Program) (T : Tab) (C : Cfg) (N nx0 : Nat) (g0 : Gh) (s0 : Sto) (w0 : World) (R : St → Prop) (n : Nat) (k : List KI) (Q : Exit → Act → World → Prop) : Prop where
  normal : ∀ m, m ≤ n → ∀ st g a w, Fr P N g0 nx0 s0 w0 g st a w → run (real (TriS P) (WeakS P nx0)) T C R m k st → Q .normal a w
  exit : ∀ id k', popTo id k = some k' → ∀ m, m ≤ n → ∀ st g a w, Fr P N g0 nx0 s0 w0 g st a w → run (real (TriS P) (WeakS P nx0)) T C R m k' st → Q (.exit id) a w
  ret : ∀ st g a w, Fr P N g0 nx0 s0 w0 g st a w → R st → Q .ret a w

theorem Good.le {n m : Nat} {k : List KI} {Q : Exit → Act → World → Prop} (h : Good P T C N nx0 g0 s0 w0 R n k Q) (hm : m ≤ n) : Good P T C N nx0 g0 s0 w0 R m k Q :=
  ⟨fun i hi => h.normal i (Nat.le_trans hi hm), fun id k' hp i hi => h.exit id k' hp i (Nat.le_trans hi hm), h.ret⟩

theorem Fr.weak {st' : St} (hF : Fr P N g0 nx0 s0 w0 g st a w) (h : WeakS P nx0 st st') : ∃ g', Fr P N g0 nx0 s0 w0 g' st' a w := by
  obtain ⟨g', h1, h2, h3, h4, h5⟩ := h g w a.tmps hF.env hF.rel hF.nx
  refine ⟨g', h1, h2, hF.size, hF.defers, hF.stp.trans h4 (Nat.le_refl _) hF.ow, h3, fun b hb => hF.ow b (h5 b hb)⟩

theorem run_sound (hT : TabOk P T) (hM : MethsOk P C) (hm : P.follows .mixedOrders = true) : ∀ (n : Nat) (k : List KI) (c : Code) (st : St) (g : Gh) (a : Act) (w : World) (Q : Exit → Act → World → Prop), okD C N c = true → Fr P N g0 nx0 s0 w0 g st a w →
    Good P T C N nx0 g0 s0 w0 R n k Q → run (real (TriS P) (WeakS P nx0)) T C R n (.code c :: k) st → c.wp P Q a w := by
  intro n
  induction n using Nat.strongRecOn with
  | _ n ih =>
    intro k c st g a w Q hc hF hG h
    cases n with
    | zero => exact h.elim
    | succ n =>
      have ih' : ∀ m, m ≤ n → ∀ (k : List KI) (c : Code) (st : St) (g : Gh) (a : Act) (w : World) (Q : Exit → Act → World → Prop), okD C N c = true → Fr P N g0 nx0 s0 w0 g st a w →
          Good P T C N nx0 g0 s0 w0 R m k Q → run (real (TriS P) (WeakS P nx0)) T C R m (.code c :: k) st → c.wp P Q a w := fun m hm => ih m (by omega)
      cases c with
      | skip => exact wp_skip (hG.normal n (Nat.le_succ _) st g a w hF h)
      | seq x y =>
        simp only [okD, Bool.and_eq_true] at hc
        refine wp_seq (ih' n (Nat.le_refl _) (.code y :: k) x st g a w _ hc.1 hF ⟨fun m hm st g a w hF h => ih' m hm k y st g a w Q hc.2 hF (hG.le (by omega)) h, fun id k' hp m hm st g a w hF h => ?_, fun st g a w hF h => ?_⟩ h)
        · exact hG.exit id k' hp m (by omega) st g a w hF h
        · exact hG.ret st g a w hF h
      | block id b =>
        simp only [okD] at hc
        refine wp_block (ih' n (Nat.le_refl _) (.blk id :: k) b st g a w _ hc hF ⟨fun m hm st g a w hF h => ?_, fun id' k' hp m hm st g a w hF h => ?_, fun st g a w hF h => ?_⟩ h)
        · cases m with
          | zero => exact h.elim
          | succ m => exact hG.normal m (by omega) st g a w hF h
        · simp only [Exit.inBlock]
          simp only [popTo] at hp
          split at hp
          · rename_i hid
            rw [if_pos (eqt hid).symm]
            injection hp with hp
            subst hp
            exact hG.normal m (by omega) st g a w hF h
          · rename_i hid
            rw [if_neg (fun e => nef hid e.symm)]
            exact hG.exit id' k' hp m (by omega) st g a w hF h
        · exact hG.ret st g a w hF h
      | exit id =>
        simp only [run] at h
        split at h
        · rename_i k' hp
          exact wp_exit (hG.exit id k' hp n (Nat.le_succ _) st g a w hF h)
        · exact h.elim
      | cond c x y =>
        simp only [okD, Bool.and_eq_true] at hc
        simp only [run] at h
        split at h
        · rename_i hv
          exact wp_cond_true (vlit (ev_rel hF.env hv)) (ih' n (Nat.le_refl _) k x st g a w Q hc.1 hF (hG.le (Nat.le_succ _)) h)
        · rename_i hv
          exact wp_cond_false (vlit (ev_rel hF.env hv)) (ih' n (Nat.le_refl _) k y st g a w Q hc.2 hF (hG.le (Nat.le_succ _)) h)
        · rename_i b hv
          split at h
          · rename_i d
            obtain ⟨z, hz, hr⟩ := hF.env d _ hv
            have hz : a.tmps[d]? = some (.bool b) := by rw [hz, vv hr]
            exact wp_cond_split (vv (ev_rel hF.env hv)) (fun hb => ih' n (Nat.le_refl _) k x _ g a w Q hc.1 (hF.lit (by rw [hz, hb])) (hG.le (Nat.le_succ _)) (h.1 hb)) (fun hb => ih' n (Nat.le_refl _) k y _ g a w Q hc.2 (hF.lit (by rw [hz, hb])) (hG.le (Nat.le_succ _)) (h.2 hb))
          · exact h.elim
        · exact h.elim
      | region id os draw =>
        simp only [okD, Bool.and_eq_true] at hc
        obtain ⟨hc, hc2⟩ := hc
        have hd : ∀ o ∈ os.toList, ∀ k, o.dst = some k → k < N := fun o ho k hk => by
          have := List.all_eq_true.1 hc o ho
          simp only [hk] at this
          exact Nat.lt_of_lt_of_le (Nat.le_of_ble_eq_true this) (Nat.le_refl _)
        cases draw with
        | true =>
          simp only [run] at h
          split at h
          case h_2 => exact h.elim
          rename_i p hp
          simp only [hp, Bool.and_eq_true] at hc2
          have := pex_sound (g0 := g0) (nx0 := nx0) (s0 := s0) (w0 := w0) (N := N) hT hM (weak := WeakS P nx0) hd hc2.1 (Q := Q) (K := fun e s nx => run (real (TriS P) (WeakS P nx0)) T C R n k ⟨e, s, nx⟩)
            (fun e s nx g a w hF h => hG.normal n (Nat.le_succ _) _ g a w hF h) os.size p _ hc2.2 st.env st.sto st.nx g a w.drew hF.drew h
          refine wp_mono (wp_region_any hm (wpAny_of_x _ _ _ _ this)) (fun e a w hq => ?_)
          cases e <;> first | exact hq | exact hq.elim
        | false =>
          have := ops_sound (g0 := g0) (nx0 := nx0) (s0 := s0) (w0 := w0) (N := N) hT hM (weak := WeakS P nx0) hd (Q := Q) (K := fun e s nx => run (real (TriS P) (WeakS P nx0)) T C R n k ⟨e, s, nx⟩)
            (fun e s nx g a w hF h => hG.normal n (Nat.le_succ _) _ g a w hF h) os.toList 0 (by simp) st.env st.sto st.nx g a w hF h
          refine wp_region ?_
          rw [List.range_eq_range']
          simpa using this
      | loop b =>
        simp only [okD] at hc
        obtain ⟨I, ⟨m0, s1, hI, hw⟩, hround⟩ := h
        obtain ⟨g1, hF1⟩ := hF.weak hw
        refine wp_loop_ghost (fun j a w => ∃ s g, I j s ∧ Fr P N g0 nx0 s0 w0 g s a w) m0 ⟨s1, g1, hI, hF1⟩ (fun j a w ⟨s, g, hI, hF⟩ => ?_)
        refine ih' n (Nat.le_refl _) (.lp I j :: k) b s g a w _ hc hF ⟨fun m hm st g a w hF h => ?_, fun id k' hp m hm st g a w hF h => ?_, fun st g a w hF h => ?_⟩ (hround j s hI)
        · cases m with
          | zero => exact h.elim
          | succ m =>
            obtain ⟨m', s', hlt, hI', hw'⟩ := h
            obtain ⟨g', hF'⟩ := hF.weak hw'
            exact ⟨m', hlt, s', g', hI', hF'⟩
        · exact hG.exit id k' hp m (by omega) st g a w hF h
        · exact hG.ret st g a w hF h
      | ret => exact wp_ret (hG.ret st g a w hF h)
      | scope b =>
        simp only [okD] at hc
        refine wp_scope_straight (ih' n (Nat.le_refl _) k b st g a w _ hc hF ⟨fun m hm st g a w hF h => ?_, fun id k' hp m hm st g a w hF h => ?_, fun st g a w hF h => ?_⟩ h)
        · exact hG.normal m (by omega) st g a w hF h
        · exact hG.exit id k' hp m (by omega) st g a w hF h
        · exact hG.ret st g a w hF h
      | label l => exact wp_label (hG.normal n (Nat.le_succ _) st g a w hF h)
      | _ => exact h.elim

/-! ### a function -/
/-- The frame's slots at the start. -/
def argEnv : Nat → List AV → Env
  | _, [] => []
  | i, v :: r => (i, v) :: argEnv (i + 1) r
theorem look_argEnv : ∀ (vs : List AV) (i k : Nat) (v : AV), look k (argEnv i vs) = some v → i ≤ k ∧ vs[k - i]? = some v := by
  intro vs
  induction vs with
  | nil => intro i k v h; simp [argEnv, look] at h
  | cons x r ih =>
    intro i k v h
    simp only [argEnv] at h
    rw [look_cons] at h
    split at h
    · rename_i hk
      subst hk
      injection h with h
      subst h
      exact ⟨Nat.le_refl _, by simp⟩
    · rename_i hk
      obtain ⟨h1, h2⟩ := ih (i + 1) k v h
      refine ⟨by omega, ?_⟩
      rw [show k - i = (k - (i + 1)) + 1 by omega]
      simpa using h2

def resOf (t : Array Value) : ResultVar → Sem Value
  | .tmp k => pure (t.getD k undef)
  | .cell b u => do loadVar u (← asAddr (t.getD b undef))
theorem results_eq (fn : Func) (t : Array Value) : results fn t = (do
    let vs ← fn.results.mapM (resOf t)
    pure (if h : vs.size = 1 then vs[0] else .tuple vs)) := by
  unfold results
  congr 2

theorem resVal_sound (hT : TabOk P T) (hF : Fr P N g0 nx0 s0 w0 g st a w) : ∀ (rs : List ResultVar) (vs : List AV), resVal T st rs = some vs →
    ∃ xs : List Value, Args g st.nx w vs xs ∧ (rs.mapM (resOf a.tmps)).run P w = .ok xs w := by
  intro rs
  induction rs with
  | nil => intro vs h; simp [resVal] at h; subst h; exact ⟨[], ⟨rfl, fun i v x h => by simp at h⟩, rfl⟩
  | cons r rs ih =>
    intro vs h
    have cons : ∀ (v : AV) (x : Value) (l : List AV), VRel g st.nx w v x → (resOf a.tmps r).run P w = .ok x w → resVal T st rs = some l → vs = v :: l →
        ∃ xs : List Value, Args g st.nx w vs xs ∧ ((r :: rs).mapM (resOf a.tmps)).run P w = .ok xs w := by
      intro v x l hv hr hl e
      subst e
      obtain ⟨xs, hx, hm⟩ := ih l hl
      refine ⟨x :: xs, ⟨by simp [hx.len], fun i v' x' h1 h2 => ?_⟩, ?_⟩
      · cases i with
        | zero => simp at h1 h2; subst h1; subst h2; exact hv
        | succ i => exact hx.at_ i v' x' (by simpa using h1) (by simpa using h2)
      · rw [List.mapM_cons]
        simp only [Sem.run_bind, hr, Result.andThen_ok, hm, Sem.run_pure]
    cases r with
    | tmp t =>
      simp only [resVal] at h
      split at h
      case h_2 => cases h
      rename_i v l hv hl
      injection h with h
      obtain ⟨x, hx, hr⟩ := hF.env t v hv
      exact cons v x l hr (by simp [resOf, hx]) hl h.symm
    | cell b t =>
      simp only [resVal] at h
      split at h
      case h_2 => cases h
      rename_i id off hv
      split at h
      case h_2 => cases h
      rename_i cs hl
      split at h
      case h_2 => cases h
      rename_i v l hp hl'
      injection h with h
      obtain ⟨x, hx, hr⟩ := hF.env b _ hv
      obtain ⟨hy, hid⟩ := vptr hr
      cases hF.rel.obj id _ hl with
      | box _ ys T' hb hpw =>
        obtain ⟨y, hy1, hy2⟩ := part_rel hT hp hpw
        obtain ⟨y', e1, e2⟩ := load_part hT (o := 0) (b := g.β id) hp hpw (w' := w) (fun j z hj => by
          rw [Nat.zero_add, cell_of_row w _ _ _ _ _ hb]
          simpa using hj)
        rw [hy1] at e1
        injection e1 with e1
        subst e1
        simp only [Nat.zero_add] at e2
        exact cons v y l hy2 (by simp [resOf, hx, hy, asAddr, e2]) hl' h.symm

theorem fin_sound (hT : TabOk P T) (hF : Fr P N g0 nx0 s0 w0 g st a w) {fn : Func} {K : AV → Sto → Nat → Prop} (h : fin T fn.results.toList K st) :
    ∃ y, (results fn a.tmps).run P w = .ok y w ∧ Fin P g0 nx0 s0 w0 K y w := by
  unfold fin at h
  cases hr : resVal T st fn.results.toList with
  | none => simp [hr] at h
  | some vs =>
    simp only [hr] at h
    obtain ⟨xs, hx, hm⟩ := resVal_sound hT hF _ _ hr
    have hma : (fn.results.mapM (resOf a.tmps)).run P w = .ok xs.toArray w := by
      rw [Array.mapM_eq_mapM_toList]
      simp only [Sem.run_map, hm]
      rfl
    refine ⟨if h : xs.toArray.size = 1 then xs.toArray[0] else .tuple xs.toArray, ?_, resOne vs, g, st.nx, st.sto, h, hF.nx, hF.rel, hF.stp, hF.ow, ?_⟩
    · rw [results_eq]
      simp only [Sem.run_bind, hma, Result.andThen_ok, Sem.run_pure]
    · match vs, xs, hx with
      | [v], [x], hx => exact hx.at_ 0 v x rfl rfl
      | [], [], hx => exact .tup [] [] rfl (fun i v y h => by simp at h)
      | v :: v' :: vs, x :: x' :: xs, hx => exact .tup _ _ hx.len hx.at_
      | [], _ :: _, hx => exact absurd hx.len (by simp)
      | _ :: _, [], hx => exact absurd hx.len (by simp)
      | [_], _ :: _ :: _, hx => exact absurd hx.len (by simp)
      | _ :: _ :: _, [_], hx => exact absurd hx.len (by simp)

/-- THE LAW: what the evaluator leaves to be shown of a function's text, shown, is a contract. -/
theorem tri_of_run (hT : TabOk P T) (hM : MethsOk P C) (hm : P.follows .mixedOrders = true) {f : FuncId} {fn : Func} {c : Code} {vs : List AV} {s : Sto} {nx : Nat} {K : AV → Sto → Nat → Prop} (hf : P.funcs[f]? = some fn) (hb : fn.body = some c) (hn : (fn.name == "runtime.NumGoroutine") = false)
    (hN : okD C fn.ntmps c = true) (hl : vs.length ≤ fn.ntmps) (n : Nat)
    (h : run (real (TriS P) (WeakS P nx)) T C (fin T fn.results.toList K) n [.code c] ⟨argEnv 0 vs, s, nx⟩) : TriS P f vs s nx K := by
  intro g w xs hR hA
  have hxl : xs.length ≤ fn.ntmps := by rw [← hA.len]; exact hl
  refine .inr ⟨?_, ?_⟩
  · have hn' : fn.name ≠ "runtime.NumGoroutine" := by simpa using hn
    simp [callFunc, hf, hb, hn']
  · refine calls_of_wp hf hb ?_
    have hF : Fr P fn.ntmps g nx s w g ⟨argEnv 0 vs, s, nx⟩ { tmps := xs.toArray ++ Array.replicate (fn.ntmps - xs.toArray.size) undef, defers := [] } w := by
      refine ⟨fun k v hk => ?_, hR, by simp; omega, rfl, Stp.refl _ _ _ _, Nat.le_refl _, fun _ h => .inl h⟩
      obtain ⟨_, h2⟩ := look_argEnv vs 0 k v hk
      simp only [Nat.sub_zero] at h2
      have hk2 : k < xs.length := by rw [← hA.len]; exact (List.getElem?_eq_some_iff.1 h2).1
      refine ⟨xs[k], ?_, hA.at_ k v _ h2 (List.getElem?_eq_getElem hk2)⟩
      rw [Array.getElem?_append_left (by simpa using hk2)]
      simp [hk2]
    have post : ∀ st g' a w', Fr P fn.ntmps g nx s w g' st a w' → fin T fn.results.toList K st → ∃ v, (results fn a.tmps).run P w' = .ok v w' ∧ (∃ y, Ending.returned v = .returned y ∧ Fin P g nx s w K y w') := by
      intro st g' a w' hF h
      obtain ⟨y, h1, h2⟩ := fin_sound hT hF h
      exact ⟨y, h1, y, rfl, h2⟩
    refine run_sound hT hM hm n [] c _ g _ w _ hN hF ⟨fun m hm st g' a w' hF h => ?_, fun id k' hp => by simp [popTo] at hp, fun st g' a w' hF h => ⟨hF.defers, post st g' a w' hF h⟩⟩ h
    cases m with
    | zero => exact h.elim
    | succ m => exact ⟨hF.defers, post st g' a w' hF h⟩
end
end Am
