/-
  Ticks cut in two come to the same as the whole; the events of two lists, one behind the other, come to what the second makes of what the first makes (lineagelaw24.ReplayPieces): for every two lists of events and every number the call returns true, and the lists read as before. Conditions: none.
-/
import Derived.Test.YtijphjckgdomlaaVh
import Derived.Test.YtijphjckgdomlaaRow
import Derived.Test.YtijphjckgdomlaaRows
import Derived.WalkKit
import Derived.ProofKit
set_option linter.all false
namespace Go.Proofs.Ytijphjckgdomlaa.replayPieces
open Go.ChangeShapes Go.WideShapes Go.ChangeAt Go.RowKit

theorem own : ownKnob Try.prog.godebug = none := by kernel_rfl
theorem laidOut : laidOutB Try.prog = true := by kernel_rfl

set_option maxRecDepth 100000 in
theorem contract (H : Type) (enc : TypeId × Value → H) (W : World) (args : Array Value) (ds gs : List (DataW H)) (before : List MemPlace)
    (hval : ∀ (j : Nat) t v, Try.f6.params[j]? = some t → args[j]? = some v → Value.okWide Try.prog W .any 0 t v)
    (hW : DataW.Whole enc Try.prog Try.f6.params.toList Rows.replayPiecesSpec.vars false W args.toList ds gs before) :
    Calls Try.prog 6 args W fun e W' => ∃ v, e = .returned v ∧ Rows.replayPiecesSpec.post enc Try.prog Try.f6 false true false false W args v W' := by
  have hW' := hW
  obtain ⟨p, q, hA0, hV, rfl, hfz, hnd⟩ := hW
  have hA : DataW.TrodAll enc Try.prog W 0 (fun _ => true) true Try.f6.params.toList args.toList ds p := hA0
  rw [Try.params6] at hA hval
  obtain ⟨v0, vs0, d0, ds0, p0, q0, hargs0, rfl, rfl, h0, r0⟩ := trodAll_cons hA
  obtain ⟨v1, vs1, d1, ds1, p1, q1, rfl, rfl, rfl, h1, r1⟩ := trodAll_cons r0
  obtain ⟨v2, vs2, d2, ds2, p2, q2, rfl, rfl, rfl, h2, r2⟩ := trodAll_cons r1
  obtain ⟨rfl, rfl, rfl⟩ := trodAll_nil r2
  obtain rfl : args = #[v0, v1, v2] := by cases args; simp_all
  obtain ⟨rfl, rfl⟩ := trodVars_none hV
  clear hA0
  simp only [List.append_nil] at hW'
  have hlt : ∀ x ∈ p0 ++ (p1 ++ p2), x.block < W.heap.size := fun x hx => by simpa using hW'.lt x hx
  obtain ⟨es, n, f, hE, hwe, hv⟩ := Am.open_events (e := 47) Try.underlying25 (by kernel_rfl) (by kernel_rfl) (hval 0 _ v0 rfl rfl) h0
  obtain ⟨es1, n1, f1, hE1, hwe1, hv1⟩ := Am.open_events (e := 47) Try.underlying25 (by kernel_rfl) (by kernel_rfl) (hval 1 _ v1 rfl rfl) h1
  obtain ⟨cut, rfl, rfl, rfl, w0⟩ := open_int Try.underlying3 (hval 2 _ v2 rfl rfl) h2
  simp only [List.append_nil] at hW' hlt
  have hlt0 : ∀ x ∈ p0, x.block < W.heap.size := fun x hx => hlt x (List.mem_append_left _ hx)
  have hlt1 : ∀ x ∈ p1, x.block < W.heap.size := fun x hx => hlt x (List.mem_append_right _ hx)
  refine (Am.calls_true (xs := [v0, v1, .int .i64 cut]) (fn := Try.f6) (by kernel_rfl) (c := Try.f6.body.getD .skip) (by kernel_rfl) (by kernel_rfl) (Am.replayPieces es es1 n n1 f f1 hE hE1 cut hwe hwe1) ⟨rfl, fun i v x q1 q2 => ?_⟩).mono fun e W' ⟨he, hb⟩ => ?_
  · match i, q1, q2 with
    | 0, q1, q2 => injection q1 with q1; injection q2 with q2; subst q1; subst q2; exact hv
    | 1, q1, q2 => injection q1 with q1; injection q2 with q2; subst q1; subst q2; exact hv1
    | 2, q1, q2 => injection q1 with q1; injection q2 with q2; subst q1; subst q2; exact .c _ _ (.d _ _ (.v _ rfl))
    | i + 3, q1, q2 => simp at q1
  · exact ⟨_, he, Am.post_below (pa := p0 ++ p1) (pv := []) hW' (fun _ _ _ => trodAll_mk1 (shut_bool Try.underlying4 _))
      (fun sp hs => by
        have a0 := WideElems.Trod_stays laidOut (by kernel_rfl) (of_decide_eq_true (by kernel_rfl)) h0 (fun x hx => hb.same (hlt0 x hx)) (fun x hx => hs x (List.mem_append_left _ hx))
        have a1 := WideElems.Trod_stays laidOut (by kernel_rfl) (of_decide_eq_true (by kernel_rfl)) h1 (fun x hx => hb.same (hlt1 x hx)) (fun x hx => hs x (List.mem_append_right _ hx))
        have := trodAll_cons_mk a0 (trodAll_cons_mk a1 (trodAll_cons_mk (shut_int Try.underlying3 w0) trodAll_mk0))
        simp only [List.append_nil] at this
        exact this)
      (fun _ _ => rfl) (by simp) hb (ok_one (by kernel_rfl) rfl (okWide_bool_mk Try.underlying4 _))⟩

set_option maxRecDepth 100000 in
theorem lifted (os : Os) (started : os.Started) (H : Type) (enc : TypeId × Value → H) :
    ReturnsInHanded {} Try.checked os 6 .any (Rows.replayPiecesSpec.pre6 enc Try.prog Try.f6 Rows.replayPiecesRow.domain false) (Rows.replayPiecesSpec.post enc Try.prog Try.f6 false true false false) := by
  refine returnsInHanded_of_change (C := Try.checked) own started (by kernel_rfl) Try.func6
    (ChangeSpec.witness6 (enc := enc) (C := Try.checked) false ⟨#[], #[.slice none 0 0, .slice none 0 0, .int .i64 0], []⟩ 8 (by kernel_rfl) (by kernel_rfl) (by kernel_rfl) (by kernel_rfl)) ?_
  intro W base args ds gs before hval hW _ _
  exact contract H enc W args ds gs before hval hW

theorem holds : Rows.ReplayPiecesSaid :=
  OpenClaim.holds_of_wide 6 Try.f6 rfl rfl rfl rfl rfl rfl rfl ⟨rfl, rfl, rfl, rfl, rfl⟩ rfl rfl rfl rfl rfl (by kernel_rfl) Try.func6 (by kernel_rfl)
    (of_decide_eq_true (by kernel_rfl)) (by unfold Func.isWrapper; first | (rw [if_pos (by decide +kernel)]; kernel_rfl) | (rw [if_neg (by decide +kernel)]; exact ⟨rfl, rfl⟩))
    (fun os started H enc _ => lifted os started H enc)
#print axioms holds
end Go.Proofs.Ytijphjckgdomlaa.replayPieces
