/- A text of the claim: plain lemmas of what the functions compute. -/
import Derived.Test.YtkkjheildoclgaaPH
import Derived.Test.YtkkjheildoclgaaEwF
set_option linter.all false
set_option linter.unusedVariables false
set_option linter.unusedSimpArgs false
set_option autoImplicit false
set_option linter.unusedVariables false
set_option linter.unusedSimpArgs false
namespace Go.Ev
theorem kmax : IntKind.i64.min = -9223372036854775808 ∧ IntKind.i64.max = 9223372036854775807 ∧ IntKind.u8.min = 0 ∧ IntKind.u8.max = 255 := by decide
theorem plain_BuildColumn : ∀ x, WfF L.FnExactBuildColumn.fa x → ∃ u, L.FnExactBuildColumn x = some (true, u) := by
  rintro ⟨f, cs, vs, u⟩ hw
  cases u
  have hml : maxLen ≤ maxL := by decide
  obtain ⟨⟨⟨hf1, hf2⟩, _⟩, ⟨hc1, hc2⟩, ⟨hv1, hv2⟩, _⟩ := hw
  have hc3 : ∀ c, c ∈ cs → c.2.2.1.length ≤ maxL ∧ By c.2.2.1 ∧ R64 c.2.1 := fun c hc => by
    obtain ⟨_, h2, ⟨h3, h4⟩, _⟩ := hc2 c hc
    exact ⟨Nat.le_trans h3 hml, h4, h2⟩
  have hv3 : ∀ c, c ∈ vs → c.length ≤ maxL ∧ By c := fun c hc => ⟨Nat.le_trans (hv2 c hc).1 hml, (hv2 c hc).2⟩
  have hf3 : f.1.length ≤ maxL := Nat.le_trans hf1 hml
  have hc4 : cs.length ≤ maxL := Nat.le_trans hc1 hml
  have hv4 : vs.length ≤ maxL := Nat.le_trans hv1 hml
  unfold L.FnExactBuildColumn
  dsimp only
  rw [show (f.1, f.2.1, f.2.2.1, ()) = f from rfl]
  obtain ⟨r1, a1, b1, c1⟩ := szField_ok f 1048576 hf3 (by omega) (by omega)
  rw [a1, Option.bind_some]
  by_cases n1 : r1 < 0
  · exact ⟨_, by simp [n1]; rfl⟩
  obtain ⟨r2, a2, b2, c2⟩ := szCellS_ok cs r1 ⟨hc4, fun c hc => (hc3 c hc).1⟩ (by omega) (by omega)
  simp only [n1, decide_false, cond_false]
  rw [a2, Option.bind_some]
  by_cases n2 : r2 < 0
  · exact ⟨_, by simp [n2]; rfl⟩
  obtain ⟨r3, a3, b3, c3⟩ := szByteSS_ok vs r2 ⟨hv4, fun c hc => (hv3 c hc).1⟩ (by omega) (by omega)
  simp only [n2, decide_false, cond_false]
  rw [a3, Option.bind_some]
  by_cases n3 : r3 < 0
  · exact ⟨_, by simp [n3]; rfl⟩
  simp only [n3, decide_false, cond_false]
  have s1 := c1 (by omega)
  obtain ⟨s2, s2'⟩ := c2 (by omega)
  have s3 := c3 (by omega)
  have hp : Pre cs vs := ⟨s2, s2', s3, fun c hc => (hv3 c hc).2, fun c hc => (hc3 c hc).2⟩
  have hsm := build_sm f cs vs hp
  have k1 : f.1.length ≤ 1048576 := s1
  have k2 := mkC_bd (k := 1 + f.1.length) s2
  have k3 := mkBS_bd (k := (mkL fC (1 + f.1.length) cs).1) s3
  have k4 := mkBS_bd (k := 1) hsm
  have hm := fun c (hc : c ∈ (buildP f cs vs).1) => (show c.length ≤ maxL from Nat.le_trans (hsm.mem c hc) (by decide))
  have heq := eqByteSS_ok (buildP f cs vs).1 (Nat.le_trans hsm.1 (by decide)) hm
  rw [toField_ok f s1, Option.bind_some, toCellS_ok cs s2, Option.bind_some, toByteSS_ok vs s3, Option.bind_some]
  simp only []
  rw [show (f.1, f.2.1, f.2.2.1, ()) = f from rfl, S_build f cs vs hp, Option.bind_some]
  simp only [toField_ok f s1, Option.bind_some, toCellS_ok cs s2, toByteSS_ok vs s3]
  rw [show (f.1, f.2.1, f.2.2.1, ()) = f from rfl, I_build f cs vs hp, Option.bind_some]
  simp only []
  rw [heq, Option.bind_some]
  simp only [Bool.not_true, BEq.rfl, cond_true, bne_self_eq_false, cond_false]
  rw [eqField_ok f hf3, Option.bind_some]
  simp only [Bool.not_true, cond_false]
  rw [eqCellS_ok cs hc4 (fun c hc => (hc3 c hc).1), Option.bind_some]
  simp only [Bool.not_true, cond_false]
  rw [eqByteSS_ok vs hv4 (fun c hc => (hv3 c hc).1), Option.bind_some]
  simp only [Bool.not_true, cond_false]
  rw [markField_ok f 1 s1 (by omega) (by omega), Option.bind_some]
  simp only []
  rw [markCellS_ok cs _ s2 (by omega) (by omega), Option.bind_some]
  simp only []
  rw [markByteSS_ok vs _ s3 (by omega) (by omega), Option.bind_some]
  simp only []
  rw [show decide ((mkL fBS (mkL fC (1 + (f.1.length : Int)) cs).1 vs).1 < 0) = false by simp; omega]
  have hm1 := markByteSS_ok (buildP f cs vs).1 1 hsm (by omega) (by omega)
  have hh1 := heldByteSS_ok (buildP f cs vs).1 1 hsm (by omega) (by omega)
  have hneg : decide ((mkL fBS 1 (buildP f cs vs).1).1 < 0) = false := by simp; omega
  simp only [heq, hm1, hh1, Option.bind_some, Bool.not_true, BEq.rfl, cond_true, cond_false, bne_self_eq_false, hneg]
  exact ⟨(((), (), (), ()), (), (), ()), trivial⟩
end Go.Ev
