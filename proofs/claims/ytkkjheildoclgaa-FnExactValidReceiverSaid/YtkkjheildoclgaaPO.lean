/- A text of the claim: plain lemmas of what the functions compute. -/
import Derived.Test.YtkkjheildoclgaaPN
import Derived.Test.YtkkjheildoclgaaEd
set_option linter.all false
set_option linter.unusedVariables false
set_option linter.unusedSimpArgs false
set_option autoImplicit false
set_option linter.unusedVariables false
set_option linter.unusedSimpArgs false
namespace Go.Ev
theorem ml : maxLen ≤ maxL := by decide
/-! ### from weights -/
theorem w_Sm {xs : List Int} (h : wByteS xs ≤ 1048576) : Sm xs := h
theorem w_SmL {xs : List (List Int)} (h : wByteSS xs ≤ 1048576) : SmL xs := by
  have h1 := wL_len (fun e => wByteS e) xs
  have h2 := wL_mem (fun e => wByteS e) xs
  unfold wByteSS at h
  exact ⟨by omega, fun i hi => Nat.le_trans (h2 _ (List.getElem_mem hi)) h⟩
theorem w_tot : ∀ (cs : List DCell), totC cs + cs.length ≤ wCellS cs
  | [] => Nat.le_refl _
  | c :: r => by
    have := w_tot r
    unfold wCellS at this ⊢
    simp only [totC, wL, List.length_cons]
    have e : wCell (c.1, c.2.1, c.2.2.1, ()) = c.2.2.1.length := rfl
    omega
theorem w_OkT {ts : List DTable} (h : wTableS ts ≤ 1048576) (hc : ∀ t, t ∈ ts → OkC t.2.1) : OkT ts := by
  have h1 := wL_len (fun e : DTable => wTable (e.1, e.2.1, ())) ts
  have h2 := wL_mem (fun e : DTable => wTable (e.1, e.2.1, ())) ts
  unfold wTableS at h
  refine ⟨by omega, fun t ht => ?_⟩
  have h3 := h2 t ht
  have h4 := w_tot t.2.1
  have e : wTable (t.1, t.2.1, ()) = wCellS t.2.1 := rfl
  exact ⟨hc t ht, by omega, by omega⟩
theorem w_dicts {ds : List (List (List Int))} (h : wByteSSS ds ≤ 1048576) : ∀ d, d ∈ ds → SmL d := by
  have h2 := wL_mem (fun e => wByteSS e) ds
  unfold wByteSSS at h
  exact fun d hd => w_SmL (Nat.le_trans (h2 d hd) h)
/-! ### the law -/
theorem plain_ValidReceiver : ∀ x, WfF L.FnExactValidReceiver.fa x → ∃ u, L.FnExactValidReceiver x = some (true, u) := by
  rintro ⟨⟨ep, base, op, le, lb, ps, buf, so, fs, sn, ds, ts, er, u⟩, u'⟩ hw
  cases u; cases u'
  obtain ⟨⟨_, _, _, _, _, ⟨hp1, hp2⟩, ⟨hb1, _⟩, _, ⟨hf1, hf2⟩, _, ⟨hd1, hd2⟩, ⟨ht1, ht2⟩, _, _⟩, _⟩ := hw
  have hml := ml
  have hB : bReceiver (ep, base, op, le, lb, ps, buf, so, fs, sn, ds, ts, er, ()) := by
    refine ⟨⟨⟨Nat.le_trans hp1 hml, fun e he => ?_⟩, Nat.le_trans hb1 hml⟩, ⟨⟨Nat.le_trans hf1 hml, fun e he => ?_⟩, ⟨Nat.le_trans hd1 hml, fun e he => ?_⟩⟩, ⟨Nat.le_trans ht1 hml, fun e he => ?_⟩⟩
    · obtain ⟨_, _, _, _, _, ⟨h, _⟩, _⟩ := hp2 e he
      exact Nat.le_trans h hml
    · obtain ⟨⟨h, _⟩, _⟩ := hf2 e he
      exact Nat.le_trans h hml
    · obtain ⟨h, h'⟩ := hd2 e he
      exact ⟨Nat.le_trans h hml, fun d hd => Nat.le_trans (h' d hd).1 hml⟩
    · obtain ⟨_, ⟨h, h'⟩, _⟩ := ht2 e he
      refine ⟨Nat.le_trans h hml, fun d hd => ?_⟩
      obtain ⟨_, _, ⟨h, _⟩, _⟩ := h' d hd
      exact Nat.le_trans h hml
  unfold L.FnExactValidReceiver
  dsimp only
  have hsz := Receiver_sz (ep, base, op, le, lb, ps, buf, so, fs, sn, ds, ts, er, ()) 1048576 hB (by omega) (by omega)
  by_cases n : (1048576 : Int) < (wReceiver (ep, base, op, le, lb, ps, buf, so, fs, sn, ds, ts, er, ()) : Int)
  · rw [szP_lt n] at hsz
    rw [hsz]
    exact ⟨_, rfl⟩
  rw [szP_ge (by omega)] at hsz
  rw [hsz, Option.bind_some]
  simp only [show decide ((1048576 : Int) - (wReceiver (ep, base, op, le, lb, ps, buf, so, fs, sn, ds, ts, er, ()) : Int) < 0) = false by simp; omega, cond_false]
  have hW : wReceiver (ep, base, op, le, lb, ps, buf, so, fs, sn, ds, ts, er, ()) ≤ 1048576 := by omega
  have hW' := hW
  unfold wReceiver wLinkIn wStream at hW'
  simp only [] at hW'
  have d1 : wByteSSS ds ≤ 1048576 := by omega
  have d2 : wTableS ts ≤ 1048576 := by omega
  have hok : OkR (ep, base, op, le, lb, ps, buf, so, fs, sn, ds, ts, er, ()) := by
    refine ⟨Nat.le_trans hp1 hml, Nat.le_trans hf1 hml, ⟨fun f hf => ?_, fun d hd => ⟨fun x hx => ?_, w_dicts d1 d hd⟩⟩, w_OkT d2 fun t ht c hc => ?_⟩
    · obtain ⟨⟨_, h⟩, _⟩ := hf2 f hf
      exact h
    · exact ((hd2 d hd).2 x hx).2
    · obtain ⟨_, ⟨_, h'⟩, _⟩ := ht2 t ht
      obtain ⟨_, h2, ⟨_, h3⟩, _⟩ := h' c hc
      exact ⟨h3, h2⟩
  have hto := Receiver_to (ep, base, op, le, lb, ps, buf, so, fs, sn, ds, ts, er, ()) hW
  have heq := Receiver_eq (ep, base, op, le, lb, ps, buf, so, fs, sn, ds, ts, er, ()) hB
  rw [hto, Option.bind_some]
  simp only []
  rw [S_recv _ hok, Option.bind_some, Option.bind_some]
  simp only []
  rw [I_recv _ hok, Option.bind_some]
  simp only [BEq.rfl, Bool.not_true, cond_false]
  rw [Option.bind_some]
  simp only []
  rw [heq, Option.bind_some]
  exact ⟨_, rfl⟩
end Go.Ev

