/- A text of the claim: plain lemmas of what the functions compute. -/
import Derived.Test.YtkkjheildoclgaaPN
import Derived.Test.YtkkjheildoclgaaEd
set_option linter.all false
set_option linter.unusedVariables false
set_option linter.unusedSimpArgs false
set_option autoImplicit false
set_option linter.unusedVariables false
set_option linter.unusedSimpArgs false
namespace Go.Ev
theorem ml : maxLen ≤ maxL := by decide
/-! ### from weights -/
theorem w_Sm {xs : List Int} (h : wByteS xs ≤ 1048576) : Sm xs := h
theorem w_SmL {xs : List (List Int)} (h : wByteSS xs ≤ 1048576) : SmL xs := by
  have h1 := wL_len (fun e => wByteS e) xs
  have h2 := wL_mem (fun e => wByteS e) xs
  unfold wByteSS at h
  exact ⟨by omega, fun i hi => Nat.le_trans (h2 _ (List.getElem_mem hi)) h⟩
theorem w_tot : ∀ (cs : List DCell), totC cs + cs.length ≤ wCellS cs
  | [] => Nat.le_refl _
  | c :: r => by
    have := w_tot r
    unfold wCellS at this ⊢
    simp only [totC, wL, List.length_cons]
    have e : wCell (c.1, c.2.1, c.2.2.1, ()) = c.2.2.1.length := rfl
    omega
theorem w_OkT {ts : List DTable} (h : wTableS ts ≤ 1048576) (hc : ∀ t, t ∈ ts → OkC t.2.1) : OkT ts := by
  have h1 := wL_len (fun e : DTable => wTable (e.1, e.2.1, ())) ts
  have h2 := wL_mem (fun e : DTable => wTable (e.1, e.2.1, ())) ts
  unfold wTableS at h
  refine ⟨by omega, fun t ht => ?_⟩
  have h3 := h2 t ht
  have h4 := w_tot t.2.1
  have e : wTable (t.1, t.2.1, ()) = wCellS t.2.1 := rfl
  exact ⟨hc t ht, by omega, by omega⟩
theorem w_dicts {ds : List (List (List Int))} (h : wByteSSS ds ≤ 1048576) : ∀ d, d ∈ ds → SmL d := by
  have h2 := wL_mem (fun e => wByteSS e) ds
  unfold wByteSSS at h
  exact fun d hd => w_SmL (Nat.le_trans (h2 d hd) h)
end Go.Ev

