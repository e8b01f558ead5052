/- The law FnExactValidReceiver answers true at every input of its row, and its arguments read afterwards as they read before. -/
import Derived.Test.YtkkjheildoclgaaYPb
import Derived.Test.YtkkjheildoclgaaEd
import Derived.Test.YtkkjheildoclgaaPO
import Derived.Test.YtkkjheildoclgaaRows
set_option autoImplicit false
set_option linter.all false
set_option linter.unusedVariables false
set_option linter.unusedSimpArgs false
namespace Go.Proofs.Ytkkjheildoclgaa.fnExactValidReceiver
open Go.ChangeShapes Go.WideShapes Go.ChangeAt Go.RowKit
theorem own : ownKnob Try.prog.godebug = none := by kernel_rfl
theorem laidOut : laidOutB Try.prog = true := by kernel_rfl
set_option maxRecDepth 100000 in
theorem lifted (os : Os) (started : os.Started) (H : Type) (enc : TypeId × Value → H) :
    ReturnsInHanded {} Try.checked os 6 .any (Rows.fnExactValidReceiverSpec.pre6 enc Try.prog Try.f6 Rows.fnExactValidReceiverRow.domain false) (Rows.fnExactValidReceiverSpec.post enc Try.prog Try.f6 false true false false) := by
  refine returnsInHanded_of_change_sized (C := Try.checked) own started (by kernel_rfl) Try.func6
    (ChangeSpec.witness6 (enc := enc) (C := Try.checked) false ⟨#[], #[.agg #[.int .i64 0, .int .i64 0, .bool false, .int .i64 0, .int .i64 0, .slice none 0 0, .slice none 0 0, .bool false, .slice none 0 0, .int .i64 0, .slice none 0 0, .slice none 0 0, .int .i64 0]], []⟩ 8 (by kernel_rfl) (by kernel_rfl) (by kernel_rfl) (by kernel_rfl)) ?_
  intro W base args ds gs before hval0 hW hcnd hsz0 _
  have hW' := hW
  obtain ⟨p, q, hA0, hV, rfl, hfz, hnd⟩ := hW
  have hlen : ∃ d1, ds = [d1] := by
    have hl := Go.Ev.trod_len hA0
    rw [show Try.f6.params.toList.length = 1 from rfl] at hl
    match ds, hl with
    | [d1], _ => exact ⟨d1, rfl⟩
  obtain ⟨d1, rfl⟩ := hlen
  obtain ⟨rfl, rfl⟩ := trodVars_none hV
  have hc := Go.Ev.law_calls Go.Ev.L.FnExactValidReceiver.ok (f := Try.f6) (by kernel_rfl) (by kernel_rfl) (by kernel_rfl) (cts := [Go.Ev.c82]) (ts := Try.f6.params.toList) (by kernel_rfl) (sp := Go.Ev.L.FnExactValidReceiver) rfl Go.Ev.plain_ValidReceiver (r := .any) (args := args.toList) (fun j t v h1 h2 => hval0 j t v (by simpa using h1) (by simpa using h2)) hA0
  rw [Array.toArray_toList] at hc
  refine Calls.mono hc fun e W' ⟨he, bel⟩ => ?_
  subst he
  obtain ⟨qs, hback⟩ := Go.Ev.args_below laidOut bel (cts := [Go.Ev.c82]) (ts := Try.f6.params.toList) (by kernel_rfl) hA0
  exact ⟨_, rfl, _, _, _, [], _, [], hW', trodAll_mk1 (shut_bool Try.underlying4 _), hback, rfl, bel.frame _, fun h => by cases h⟩
set_option maxHeartbeats 4000000 in
set_option maxRecDepth 100000 in
theorem closed : joinedFacts Try.prog 6 Try.f6 Rows.fnExactValidReceiverSpec Rows.fnExactValidReceiverRow = true := by
  unfold joinedFacts
  simp only [Bool.and_eq_true]
  repeat' apply And.intro
  all_goals as_aux_lemma => kernel_rfl
theorem over : Rows.fnExactValidReceiverRow.holds Try.pinned (OpenSpec.ofChange Rows.fnExactValidReceiverSpec) :=
  OpenClaim.holds_of_wide 6 Try.f6 rfl rfl rfl rfl rfl rfl rfl ⟨rfl, rfl, rfl, rfl, rfl⟩ rfl rfl rfl rfl rfl (by kernel_rfl) Try.func6 closed
    (of_decide_eq_true (by kernel_rfl)) (by unfold Func.isWrapper; first | (rw [if_pos (by decide +kernel)]; kernel_rfl) | (rw [if_neg (by decide +kernel)]; exact ⟨rfl, rfl⟩))
    (fun os started H enc _ => lifted os started H enc)
end Go.Proofs.Ytkkjheildoclgaa.fnExactValidReceiver
namespace Go.Proofs.Ytkkjheildoclgaa
theorem fnExactValidReceiver_holds : Rows.FnExactValidReceiverSaid := fnExactValidReceiver.over
end Go.Proofs.Ytkkjheildoclgaa
