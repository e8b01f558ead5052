/- A text of the claim: an evaluator of Go functions, and why it answers as they do. -/
import Derived.Test.YtkkjheildoclgaaEvU
set_option linter.all false
set_option linter.unusedVariables false
set_option linter.unusedSimpArgs false
set_option autoImplicit false
set_option linter.unusedVariables false
namespace Go.Ev
variable {ρ : Type} {P : Program} {T : Tab} {O : Orc} {C : Ctx} {s : St} {a : Act} {w : World} {R : Nat → Prop} {E : Env}

theorem bif_some {α : Type} {c : Bool} {x : Option α} {r : α} (h : (bif c then x else none) = some r) : c = true ∧ x = some r := by
  cases c with
  | true => exact ⟨rfl, h⟩
  | false => cases h
/-- an operation of the evaluator and the model's -/
def Sound (C : Ctx) (P : Program) (T : Tab) (O : Orc) (s : St) (a : Act) (w : World) (m : Mem) (o : Oper) (op : Op) : Prop :=
  ∀ (ρ : Type) (dn : Nat) (K : AV → List W → Option ρ) (r : ρ), core T O dn op (op.operands.toList.map s.op) m K = some r → ∃ v ws, K v ws = some r ∧ (freshOk s.us ws = true → GoalW C P o s a w v ws)

theorem s_move (h : Sim C s a w R E) {m : Mem} {o : Oper} {x : Operand} (hop : o.op = .move x) : Sound C P T O s a w m o (.move x) :=
  fun ρ dn K r hK => ⟨_, _, hK, fun _ => (g_move h (.inl hop)).gw⟩
theorem s_assign (h : Sim C s a w R E) {m : Mem} {o : Oper} {x : Operand} (hop : o.op = .assign x) : Sound C P T O s a w m o (.assign x) :=
  fun ρ dn K r hK => ⟨_, _, hK, fun _ => (g_move h (.inr hop)).gw⟩
theorem s_load (hT : TabOK P T) (h : Sim C s a w R E) {m : Mem} (hm : Sub m s.st) {o : Oper} {L : TypeId} {x : Operand} (hop : o.op = .load L x) : Sound C P T O s a w m o (.load L x) := by
  intro ρ dn K r hK
  replace hK : core T O dn (.load L x) [s.op x] m K = some r := hK
  unfold core at hK
  dsimp only at hK
  split at hK
  · cases hK
  · rename_i isAgg t hl
    split at hK
    · rename_i b q hx
      split at hK
      · rename_i cs hb
        obtain ⟨h1, hK⟩ := bif_some hK
        exact ⟨_, _, hK, fun _ => (g_load_box hT h hop hl hx (hm _ _ hb) h1).gw⟩
      · obtain ⟨h1, hK⟩ := bif_some hK
        rw [Bool.and_eq_true] at h1
        exact ⟨_, _, hK, fun _ => (g_load_zb hT h hop hl hx (Nat.eq_of_beq_eq_true h1.1) h1.2).gw⟩
      · cases hK
    · rename_i u v q src hx
      obtain ⟨h1, hK⟩ := bif_some hK
      simp only [Bool.and_eq_true] at h1
      exact ⟨_, _, hK, fun _ => (g_load_pro hT h hop hl hx (hm.live h1.1) (by simpa using h1.2)).gw⟩
    · rename_i n i q hx
      split at hK
      · rename_i r' hb
        obtain ⟨h1, hK⟩ := bif_some hK
        exact ⟨_, _, hK, fun _ => (g_load_pel hT h hop hl hx (hm _ _ hb) h1).gw⟩
      · cases hK
    · cases hK
end Go.Ev
