/- A text of the claim: an evaluator of Go functions, and why it answers as they do. -/
import Derived.Test.YtkkjheildoclgaaEwD
set_option linter.all false
set_option linter.unusedVariables false
set_option linter.unusedSimpArgs false
set_option autoImplicit false
set_option linter.unusedVariables false
namespace Go.Ev
variable {ρ : Type} {P : Program} {T : Tab} {O : Orc}

theorem orc_nil : OrcOK P [] := fun g S h => by cases h
theorem orc_cons {g : FuncId} {S : Spec} {r : Orc} (h : SpecOK P g S) (hr : OrcOK P r) : OrcOK P ((g, S) :: r) := by
  intro g' S' h'
  unfold lookO at h'
  by_cases hg : g = g'
  · subst hg
    simp at h'
    subst h'
    exact h
  · rw [beq_ne hg] at h'
    exact hr g' S' h'

def loopsIn : Code → List Code
  | .seq a b => loopsIn a ++ loopsIn b
  | .cond _ a b => loopsIn a ++ loopsIn b
  | .block _ b => loopsIn b
  | .loop b => [b]
  | _ => []
def LsOK (fx : Nat) (P : Program) (nt : Nat) (Rf : St → Option ρ) (L : List (Nat × LoopO ρ)) : List Code → Prop
  | [] => True
  | b :: r => (∀ l, lookO (firstRegion b) L = some l → LoopOK fx P b nt Rf l) ∧ LsOK fx P nt Rf L r
theorem lsok_app {fx nt : Nat} {Rf : St → Option ρ} {L : List (Nat × LoopO ρ)} : ∀ {l k : List Code}, LsOK fx P nt Rf L (l ++ k) → LsOK fx P nt Rf L l ∧ LsOK fx P nt Rf L k
  | [], _, h => ⟨trivial, h⟩
  | _ :: _, _, h => ⟨⟨h.1, (lsok_app h.2).1⟩, (lsok_app h.2).2⟩
theorem loops_of' {fx nt : Nat} {Rf : St → Option ρ} {L : List (Nat × LoopO ρ)} : ∀ {c : Code}, LsOK fx P nt Rf L (loopsIn c) → LoopsOK fx P nt Rf L c := by
  intro c
  induction c with
  | seq a b iha ihb => intro h; exact ⟨iha (lsok_app h).1, ihb (lsok_app h).2⟩
  | cond c a b iha ihb => intro h; exact ⟨iha (lsok_app h).1, ihb (lsok_app h).2⟩
  | block i b ih => intro h; exact ih h
  | loop b ih => intro h; exact h.1
  | _ => intro h; trivial
theorem loops_of {fx nt : Nat} {Rf : St → Option ρ} {L : List (Nat × LoopO ρ)} {c : Code} {bs : List Code} (hb : loopsIn c = bs) (h : LsOK fx P nt Rf L bs) : LoopsOK fx P nt Rf L c := loops_of' (hb ▸ h)
theorem one_loop {fx nt : Nat} {Rf : St → Option ρ} {L : List (Nat × LoopO ρ)} {b : Code} {lo : LoopO ρ} (hl : lookO (firstRegion b) L = some lo) (h : LoopOK fx P b nt Rf lo) : ∀ l, lookO (firstRegion b) L = some l → LoopOK fx P b nt Rf l := by
  intro l h'
  rw [hl] at h'
  injection h' with h'
  subst h'
  exact h
theorem loopF_ok (hm : P.follows .mixedOrders = true) (hT : TabOK P T) (hO : OrcOK P O) {f : Func} {np n : Nat} {fa fr : Fm} {L : List (Nat × LoopO (DenF fr × DenB fa))} {hs xs : List Nat} {head exit : Fm}
    {step : (DenF head → Option (DenF fr × DenB fa)) → (Nat → DenF exit → Option (DenF fr × DenB fa)) → DenF head → Option (DenF fr × DenB fa)}
    (hL : LoopsOK (fxOf fa 0) P (max np f.ntmps) (fin T f fa fr np) L (loopBody n f)) (hstep : ∀ Rc X x, evalL T f fa fr np n O L hs head xs exit Rc X x = step Rc X x) (F : Nat) :
    LoopOK (fxOf fa 0) P (loopBody n f) (max np f.ntmps) (fin T f fa fr np) ⟨hs, head, xs, exit, fun x X => rounds step F X x⟩ :=
  loop_ok hm hT hO hL (fun Rc X x => by rw [← hstep]; rfl) (fun _ => F)
end Go.Ev
