/- A text of the claim: plain lemmas of what the functions compute. -/
import Derived.Test.YtkkjheildoclgaaPP
import Derived.Test.YtkkjheildoclgaaPW
import Derived.Test.YtkkjheildoclgaaEd
set_option linter.all false
set_option linter.unusedVariables false
set_option linter.unusedSimpArgs false
set_option autoImplicit false
set_option linter.unusedVariables false
set_option linter.unusedSimpArgs false
namespace Go.Ev
theorem plain_ValidSender : ∀ x, WfF L.FnExactValidSender.fa x → ∃ u, L.FnExactValidSender x = some (true, u) := by
  rintro ⟨⟨fs, ep, base, ts, k, oe, oq, oc, q, so, sfs, sn, ds, u⟩, u'⟩ hw
  cases u; cases u'
  obtain ⟨⟨⟨hf1, hf2⟩, _, _, ⟨ht1, ht2⟩, _, _, _, _, ⟨hq1, hq2⟩, _, ⟨hg1, hg2⟩, _, ⟨hd1, hd2⟩, _⟩, _⟩ := hw
  have hml := ml
  have hB : bSender (fs, ep, base, ts, k, oe, oq, oc, q, so, sfs, sn, ds, ()) := by
    refine ⟨⟨Nat.le_trans hf1 hml, fun e he => ?_⟩, ⟨Nat.le_trans ht1 hml, fun e he => ?_⟩, ⟨Nat.le_trans hq1 hml, fun e he => ?_⟩, ⟨⟨Nat.le_trans hg1 hml, fun e he => ?_⟩, ⟨Nat.le_trans hd1 hml, fun e he => ?_⟩⟩⟩
    · obtain ⟨⟨h, _⟩, _⟩ := hf2 e he
      exact Nat.le_trans h hml
    · obtain ⟨_, ⟨h, h'⟩, _⟩ := ht2 e he
      refine ⟨Nat.le_trans h hml, fun d hd => ?_⟩
      obtain ⟨_, _, ⟨h, _⟩, _⟩ := h' d hd
      exact Nat.le_trans h hml
    · obtain ⟨⟨_, _, _, _, _, ⟨h, _⟩, _⟩, _⟩ := hq2 e he
      exact Nat.le_trans h hml
    · obtain ⟨⟨h, _⟩, _⟩ := hg2 e he
      exact Nat.le_trans h hml
    · obtain ⟨h, h'⟩ := hd2 e he
      exact ⟨Nat.le_trans h hml, fun d hd => Nat.le_trans (h' d hd).1 hml⟩
  unfold L.FnExactValidSender
  dsimp only
  have hsz := Sender_sz (fs, ep, base, ts, k, oe, oq, oc, q, so, sfs, sn, ds, ()) 1048576 hB (by omega) (by omega)
  by_cases n : (1048576 : Int) < (wSender (fs, ep, base, ts, k, oe, oq, oc, q, so, sfs, sn, ds, ()) : Int)
  · rw [szP_lt n] at hsz
    rw [hsz]
    exact ⟨_, rfl⟩
  rw [szP_ge (by omega)] at hsz
  rw [hsz, Option.bind_some]
  simp only [show decide ((1048576 : Int) - (wSender (fs, ep, base, ts, k, oe, oq, oc, q, so, sfs, sn, ds, ()) : Int) < 0) = false by simp; omega, cond_false]
  have hW : wSender (fs, ep, base, ts, k, oe, oq, oc, q, so, sfs, sn, ds, ()) ≤ 1048576 := by omega
  have hW' := hW
  unfold wSender wLinkOut wStream at hW'
  simp only [] at hW'
  have d1 : wByteSSS ds ≤ 1048576 := by omega
  have d2 : wTableS ts ≤ 1048576 := by omega
  have hok : OkSd (fs, ep, base, ts, k, oe, oq, oc, q, so, sfs, sn, ds, ()) := by
    refine ⟨fun f hf => ?_, Nat.le_trans hf1 hml, Nat.le_trans hq1 hml, Nat.le_trans hg1 hml, ⟨fun f hf => ?_, fun d hd => ⟨fun x hx => ?_, w_dicts d1 d hd⟩⟩, w_OkT d2 fun t ht c hc => ?_⟩
    · obtain ⟨⟨_, h⟩, _⟩ := hf2 f hf
      exact h
    · obtain ⟨⟨_, h⟩, _⟩ := hg2 f hf
      exact h
    · exact ((hd2 d hd).2 x hx).2
    · obtain ⟨_, ⟨_, h'⟩, _⟩ := ht2 t ht
      obtain ⟨_, h2, ⟨_, h3⟩, _⟩ := h' c hc
      exact ⟨h3, h2⟩
  have hto := Sender_to (fs, ep, base, ts, k, oe, oq, oc, q, so, sfs, sn, ds, ()) hW
  have heq := Sender_eq (fs, ep, base, ts, k, oe, oq, oc, q, so, sfs, sn, ds, ()) hB
  rw [hto, Option.bind_some]
  simp only []
  rw [S_send _ hok, Option.bind_some, Option.bind_some]
  simp only []
  rw [I_send _ hok, Option.bind_some]
  simp only [BEq.rfl, Bool.not_true, cond_false]
  rw [Option.bind_some]
  simp only []
  rw [heq, Option.bind_some]
  exact ⟨_, rfl⟩
end Go.Ev

