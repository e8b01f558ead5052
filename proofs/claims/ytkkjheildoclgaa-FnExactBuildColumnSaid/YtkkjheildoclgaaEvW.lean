/- A text of the claim: an evaluator of Go functions, and why it answers as they do. -/
import Derived.Test.YtkkjheildoclgaaEvV
set_option linter.all false
set_option linter.unusedVariables false
set_option linter.unusedSimpArgs false
set_option autoImplicit false
set_option linter.unusedVariables false
namespace Go.Ev
variable {P : Program} {T : Tab} {O : Orc} {C : Ctx} {s : St} {a : Act} {w : World} {R : Nat → Prop} {E : Env}

theorem s_pick (h : Sim C s a w R E) {m : Mem} {o : Oper} {c x y : Operand} (hop : o.op = .pick c x y) : Sound C P T O s a w m o (.pick c x y) := by
  intro ρ dn K r hK
  replace hK : core T O dn (.pick c x y) [s.op c, s.op x, s.op y] m K = some r := hK
  have hx := h.op x
  have hy := h.op y
  generalize s.op x = vx at hK hx
  generalize s.op y = vy at hK hy
  cases hc : s.op c with
  | bool t =>
    rw [hc] at hK
    unfold core at hK
    dsimp only at hK
    split at hK
    · rename_i p q
      refine ⟨_, _, hK, fun _ => (g_pick h hop hc ?_).gw⟩
      cases t
      · exact hy
      · exact hx
    · cases t
      · exact ⟨_, _, hK, fun _ => (g_pick h hop hc hy).gw⟩
      · exact ⟨_, _, hK, fun _ => (g_pick h hop hc hx).gw⟩
  | _ => rw [hc] at hK; exact nomatch (show (none : Option ρ) = some r from hK)
theorem s_bin (hT : TabOK P T) (h : Sim C s a w R E) {m : Mem} {o : Oper} {op : BinOp} {tx ty : TypeId} {x y : Operand} (hop : o.op = .binOp op tx x y ty) : Sound C P T O s a w m o (.binOp op tx x y ty) := by
  intro ρ dn K r hK
  replace hK : core T O dn (.binOp op tx x y ty) [s.op x, s.op y] m K = some r := hK
  unfold core at hK
  dsimp only at hK
  split at hK
  · rename_i k p k' q hx hy
    obtain ⟨h1, hK⟩ := bif_some hK
    exact ⟨_, _, hK, fun _ => (g_bin_int h hop hx hy h1).gw⟩
  · rename_i p q hx hy
    split at hK
    · rename_i ht
      exact ⟨_, _, hK, fun _ => ((g_bin_bool hT h hop hx hy ht).1 rfl).gw⟩
    · rename_i ht
      exact ⟨_, _, hK, fun _ => ((g_bin_bool hT h hop hx hy ht).2 rfl).gw⟩
    · cases hK
  · rename_i p q hx hy
    split at hK
    · exact ⟨_, _, hK, fun _ => ((g_bin_str h hop hx hy).1 rfl).gw⟩
    · exact ⟨_, _, hK, fun _ => ((g_bin_str h hop hx hy).2 rfl).gw⟩
    · cases hK
  · cases hK
theorem s_un (h : Sim C s a w R E) {m : Mem} {o : Oper} {op : UnOp} {tx : TypeId} {x : Operand} (hop : o.op = .unOp op tx x) : Sound C P T O s a w m o (.unOp op tx x) := by
  intro ρ dn K r hK
  replace hK : core T O dn (.unOp op tx x) [s.op x] m K = some r := hK
  unfold core at hK
  dsimp only at hK
  split at hK
  · rename_i b hx
    exact ⟨_, _, hK, fun _ => (g_not h hop hx).gw⟩
  · rename_i k n hx
    exact ⟨_, _, hK, fun _ => (g_neg h hop hx).gw⟩
  · cases hK
theorem s_convert (hT : TabOK P T) (h : Sim C s a w R E) {m : Mem} (hm : Sub m s.st) {o : Oper} {src dst : TypeId} {x : Operand} {ty : TypeId} (hop : o.op = .convert src dst x) : Sound C P T O s a w m o (.convert src dst x) := by
  intro ρ dn K r hK
  replace hK : core T O dn (.convert src dst x) [s.op x] m K = some r := hK
  unfold core at hK
  dsimp only at hK
  split at hK
  · rename_i z k k' n hs hd hx
    exact ⟨_, _, hK, fun _ => (g_conv_int hT h hop hx hs hd rfl).gw⟩
  · rename_i e hs hd
    split at hK
    · rename_i he hx
      exact ⟨_, _, hK, fun _ => (g_conv_str_nil hT h hop hs hd he hx).gw⟩
    · rename_i he hne
      split at hK
      · rename_i e' xs hr
        exact ⟨_, _, hK, fun _ => (g_conv_str hT h hm hop hs hd he hr).gw⟩
      · cases hK
    · cases hK
  · cases hK
theorem s_alloc (hT : TabOK P T) (h : Sim C s a w R E) {m : Mem} {o : Oper} {e : TypeId} (hop : o.op = .alloc e) : Sound C P T O s a w m o (.alloc e) := by
  intro ρ dn K r hK
  replace hK : core T O dn (.alloc e) [] m K = some r := hK
  unfold core at hK
  dsimp only at hK
  split at hK
  · rename_i b t hl
    exact ⟨_, _, hK, fun hf => (g_alloc hT h hop hl (fresh1 hf)).gw⟩
  · cases hK
theorem s_box (h : Sim C s a w R E) {m : Mem} {o : Oper} {e : TypeId} {x : Operand} (hop : o.op = .box e x) : Sound C P T O s a w m o (.box e x) := by
  intro ρ dn K r hK
  replace hK : core T O dn (.box e x) [s.op x] m K = some r := hK
  unfold core at hK
  dsimp only at hK
  split at hK
  · rename_i hl
    exact ⟨_, _, hK, fun hf => (g_zbox h hop hl (fresh1 hf)).gw⟩
  · rename_i l _ hl
    exact ⟨_, _, hK, fun hf => (g_box h hop hl (fresh1 hf)).gw⟩
  · cases hK
theorem s_build (hT : TabOK P T) (h : Sim C s a w R E) {m : Mem} {o : Oper} {S : TypeId} {ps : Array (Nat × Operand)} (hop : o.op = .build S ps) : Sound C P T O s a w m o (.build S ps) := by
  intro ρ dn K r hK
  unfold core at hK
  dsimp only [Op.operands] at hK
  split at hK
  · rename_i t fs hl hf
    split at hK
    · rename_i cs hc
      exact ⟨_, _, hK, fun _ => (g_build hT h hop hl hf hc).gw⟩
    · cases hK
  · cases hK
theorem s_buildSlice (hT : TabOK P T) (h : Sim C s a w R E) {m : Mem} (hm : Sub m s.st) {o : Oper} {S : TypeId} {n : Nat} {ps : Array (Nat × Operand)} (hop : o.op = .buildSlice S n ps) : Sound C P T O s a w m o (.buildSlice S n ps) := by
  intro ρ dn K r hK
  unfold core at hK
  dsimp only [Op.operands] at hK
  split at hK
  · rename_i e he
    split at hK
    · rename_i b t hl
      obtain ⟨h1, hK⟩ := bif_some hK
      simp only [Bool.and_eq_true] at h1
      obtain ⟨⟨⟨h1, h2⟩, h3⟩, h5⟩ := h1
      split at hK
      · rename_i xs ow c hr
        obtain ⟨h6, hK⟩ := bif_some hK
        by_cases hn0 : 0 < n
        · refine ⟨_, _, hK, fun hf => (g_buildSlice hT h hm hop he hl (Nat.eq_of_beq_eq_true h1) h2 (Nat.le_of_ble_eq_true h3) (by rw [Nat.blt_eq] at h5; exact h5) hn0 ?_ h6 ?_).gw⟩
          · exact hr
          · rw [freshOk_app, Bool.and_eq_true, (gone_us c s).1] at hf
            exact fresh1 hf.2
        · have hn00 : n = 0 := by omega
          have hps : ps = #[] := Array.eq_empty_of_size_eq_zero (by rw [← Nat.eq_of_beq_eq_true h1]; exact hn00)
          subst hps
          subst hn00
          have hr' : rows m t [] = some (xs, ow, c) := hr
          simp only [rows, Option.some.injEq, Prod.mk.injEq] at hr'
          obtain ⟨rfl, rfl, rfl⟩ := hr'
          exact ⟨_, _, hK, fun hf => (g_buildSlice0 hT h hop he hl (by rw [Nat.blt_eq] at h5; exact h5) (fresh1 hf)).gw⟩
      · cases hK
    · cases hK
  · cases hK
theorem s_fieldAddr (hT : TabOK P T) (h : Sim C s a w R E) {m : Mem} (hm : Sub m s.st) {o : Oper} {S : TypeId} {x : Operand} {j : Nat} (hop : o.op = .fieldAddr S x j) : Sound C P T O s a w m o (.fieldAddr S x j) := by
  intro ρ dn K r hK
  replace hK : core T O dn (.fieldAddr S x j) [s.op x] m K = some r := hK
  unfold core at hK
  dsimp only at hK
  split at hK
  · rename_i off n b hf
    cases hn : Nat.beq n 0 with
    | true =>
      rw [hn] at hK
      dsimp only [cond_true] at hK
      split at hK
      · rename_i b hx
        split at hK
        · rename_i e i hb hz
          have hij := (bif_some hK).1
          have hK2 := (bif_some hK).2
          have hij := Nat.eq_of_beq_eq_true hij
          rw [hij] at hz
          clear hK
          split at hK2
          · rename_i ag t hl
            have h0 := (bif_some hK2).1
            exact ⟨_, _, (bif_some hK2).2, fun _ => (g_zfield hT h hop hx (hm _ _ hb) hz hl (Nat.eq_of_beq_eq_true h0)).gw⟩
          · cases hK2
        · cases hK
      · cases hK
    | false =>
      rw [hn] at hK
      dsimp only [cond_false] at hK
      have h0 : n ≠ 0 := fun e => by subst e; cases hn
      obtain ⟨k1, k2, k3⟩ := g_fieldAddr hT h hop hf h0
      split at hK
      · rename_i b q hx
        exact ⟨_, _, hK, fun _ => (k1 _ _ hx).gw⟩
      · rename_i b i q hx
        exact ⟨_, _, hK, fun _ => (k2 _ _ _ hx).gw⟩
      · rename_i t v q src hx
        exact ⟨_, _, hK, fun _ => (k3 _ _ _ _ hx).gw⟩
      · cases hK
  · cases hK
theorem s_nilCheck (h : Sim C s a w R E) {m : Mem} {o : Oper} {x : Operand} (hop : o.op = .nilCheck x) : Sound C P T O s a w m o (.nilCheck x) := by
  intro ρ dn K r hK
  replace hK : core T O dn (.nilCheck x) [s.op x] m K = some r := hK
  unfold core at hK
  dsimp only at hK
  split at hK
  · rename_i b q hx
    exact ⟨_, _, hK, fun _ => (g_nilCheck h hop (.inl ⟨b, q, hx⟩)).gw⟩
  · rename_i b i q hx
    exact ⟨_, _, hK, fun _ => (g_nilCheck h hop (.inr (.inl ⟨b, i, q, hx⟩))).gw⟩
  · rename_i t v q src hx
    exact ⟨_, _, hK, fun _ => (g_nilCheck h hop (.inr (.inr ⟨t, v, q, src, hx⟩))).gw⟩
  · cases hK
theorem s_store (hT : TabOK P T) (h : Sim C s a w R E) {m : Mem} (hm : Sub m s.st) {o : Oper} {L : TypeId} {x y : Operand} (hop : o.op = .store L x y) : Sound C P T O s a w m o (.store L x y) := by
  intro ρ dn K r hK
  replace hK : core T O dn (.store L x y) [s.op x, s.op y] m K = some r := hK
  unfold core at hK
  dsimp only at hK
  split at hK
  · rename_i b t l hl hf
    split at hK
    · rename_i b q hx
      split at hK
      · rename_i cs hb
        obtain ⟨h1, hK⟩ := bif_some hK
        simp only [Bool.and_eq_true] at h1
        exact ⟨_, _, hK, fun _ => (g_store_box hT h hop hl hx (hm _ _ hb) hf h1.1 (Nat.eq_of_beq_eq_true h1.2.1) (Nat.le_of_ble_eq_true h1.2.2)).gw⟩
      · cases hK
    · rename_i n i q hx
      split at hK
      · rename_i r' hb
        obtain ⟨h1, hK⟩ := bif_some hK
        simp only [Bool.and_eq_true] at h1
        split at hK
        · rename_i v ow used hp
          obtain ⟨h2, hK⟩ := bif_some hK
          exact ⟨_, _, hK, fun _ => (g_store_pel hT h hm hop hl hx hb hf h1.1 (Nat.eq_of_beq_eq_true h1.2.1) (Nat.le_of_ble_eq_true h1.2.2) hp h2).gw⟩
        · cases hK
      · cases hK
    · cases hK
  · cases hK
theorem s_field (hT : TabOK P T) (h : Sim C s a w R E) {m : Mem} {o : Oper} {S : TypeId} {x : Operand} {j : Nat} (hop : o.op = .field S x j) : Sound C P T O s a w m o (.field S x j) := by
  intro ρ dn K r hK
  replace hK : core T O dn (.field S x j) [s.op x] m K = some r := hK
  unfold core at hK
  dsimp only at hK
  split at hK
  · rename_i off n b l hf hx
    obtain ⟨h1, hK⟩ := bif_some hK
    exact ⟨_, _, hK, fun _ => (g_field hT h hop hf hx h1).gw⟩
  · cases hK
theorem s_indexAddr (hT : TabOK P T) (h : Sim C s a w R E) {m : Mem} (hm : Sub m s.st) {o : Oper} {S : TypeId} {x j : Operand} (hop : o.op = .indexAddr S x j) : Sound C P T O s a w m o (.indexAddr S x j) := by
  intro ρ dn K r hK
  replace hK : core T O dn (.indexAddr S x j) [s.op x, s.op j] m K = some r := hK
  cases hj : s.op j with
  | int k i =>
    rw [hj] at hK
    unfold core at hK
    dsimp only at hK
    split at hK
    · rename_i e t xs src hx
      obtain ⟨h1, hK⟩ := bif_some hK
      simp only [Bool.and_eq_true, decide_eq_true_eq] at h1
      exact ⟨_, _, hK, fun _ => (g_index_sl hT h hop hx hj (hm.live h1.1.1) h1.1.2 h1.2.1 h1.2.2).gw⟩
    · rename_i n hx
      split at hK
      · rename_i r' hb
        obtain ⟨h1, hK⟩ := bif_some hK
        simp only [Bool.and_eq_true, decide_eq_true_eq] at h1
        exact ⟨_, _, hK, fun _ => (g_index_ref hT h hop hx (hm _ _ hb) hj h1.1 h1.2.1 h1.2.2).gw⟩
      · cases hK
    · cases hK
  | _ => rw [hj] at hK; exact nomatch (show (none : Option ρ) = some r from hK)
theorem s_makeSlice (hT : TabOK P T) (h : Sim C s a w R E) {m : Mem} {o : Oper} {S : TypeId} {x y : Operand} (hop : o.op = .makeSlice S x y) : Sound C P T O s a w m o (.makeSlice S x y) := by
  intro ρ dn K r hK
  replace hK : core T O dn (.makeSlice S x y) [s.op x, s.op y] m K = some r := hK
  have non : ∀ {vx vy : AV}, (∀ p q, ¬ (vx = .int .i64 p ∧ vy = .int .i64 q)) → core T O dn (.makeSlice S x y) [vx, vy] m K = some r → False := by
    intro vx vy hn hK
    unfold core at hK
    split at hK <;> first | cases hK | skip
    all_goals (simp_all)
  by_cases hh : ∃ p q, s.op x = .int .i64 p ∧ s.op y = .int .i64 q
  · obtain ⟨p, q, hx, hy⟩ := hh
    rw [hx, hy] at hK
    unfold core at hK
    dsimp only at hK
    split at hK
    · rename_i e he
      split at hK
      · rename_i b t by_ hl hby
        obtain ⟨h1, hK⟩ := bif_some hK
        simp only [Bool.and_eq_true, decide_eq_true_eq, Nat.blt_eq] at h1
        exact ⟨_, _, hK, fun hf => (g_make hT h hop hx hy he hl hby h1.1.1 h1.1.2.1 h1.1.2.2 h1.2.1 h1.2.2 (fresh1 hf)).gw⟩
      · cases hK
    · cases hK
  · exact (non (fun p q hpq => hh ⟨p, q, hpq⟩) hK).elim
theorem s_extract (h : Sim C s a w R E) {m : Mem} {o : Oper} {x : Operand} {i : Nat} (hop : o.op = .extract x i) : Sound C P T O s a w m o (.extract x i) := by
  intro ρ dn K r hK
  replace hK : core T O dn (.extract x i) [s.op x] m K = some r := hK
  cases hx : s.op x with
  | tup l =>
    rw [hx] at hK
    unfold core at hK
    dsimp only at hK
    split at hK
    · rename_i v hv
      exact ⟨_, _, hK, fun _ => (g_extract h hop hx hv).gw⟩
    · cases hK
  | _ => rw [hx] at hK; exact nomatch (show (none : Option ρ) = some r from hK)
theorem s_slice (hT : TabOK P T) (h : Sim C s a w R E) {m : Mem} (hm : Sub m s.st) {o : Oper} {S : TypeId} {x : Operand} {lo hi mx : Option Operand} (hop : o.op = .slice S x lo hi mx) : Sound C P T O s a w m o (.slice S x lo hi mx) := by
  intro ρ dn K r hK
  cases mx with
  | some z =>
    have : (Op.slice S x lo hi (some z)).operands.toList.map s.op = s.op x :: ((lo.toArray ++ hi.toArray).toList.map s.op ++ [s.op z]) := by simp [Op.operands]
    rw [this] at hK
    exact nomatch (show (none : Option ρ) = some r from hK)
  | none =>
    replace hK : core T O dn (.slice S x lo hi none) (s.op x :: ((lo.toArray ++ hi.toArray).toList.map s.op)) m K = some r := by
      have : (Op.slice S x lo hi none).operands.toList.map s.op = s.op x :: ((lo.toArray ++ hi.toArray).toList.map s.op) := by simp [Op.operands]
      rw [this] at hK
      exact hK
    unfold core at hK
    dsimp only at hK
    split at hK
    · rename_i q hr
      split at hK
      · rename_i l u hb
        obtain ⟨h1, hK⟩ := bif_some hK
        simp only [Bool.and_eq_true, decide_eq_true_eq] at h1
        refine ⟨_, _, hK, fun _ => (g_slice hT h hm hop hr h1.1 ?_ ?_ h1.2.1 h1.2.2.1 h1.2.2.2).gw⟩
        · cases lo with
          | none => cases hi <;> simp [sliceBounds] at hb <;> (try split at hb) <;> simp_all
          | some z => cases hi <;> simp [sliceBounds] at hb <;> split at hb <;> simp_all
        · cases hi with
          | none => cases lo <;> simp [sliceBounds] at hb <;> (try split at hb) <;> simp_all
          | some z => cases lo <;> simp [sliceBounds] at hb <;> split at hb <;> simp_all
      · cases hK
    · cases hK
end Go.Ev
