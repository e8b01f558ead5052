/- A text of the claim: an evaluator of Go functions, and why it answers as they do. -/
import Derived.Test.YtkkjheildoclgaaEwB
import Derived.Deep.LoopGhost
set_option linter.all false
set_option linter.unusedVariables false
set_option linter.unusedSimpArgs false
set_option autoImplicit false
set_option linter.unusedVariables false
namespace Go.Ev
variable {ρ : Type} {P : Program} {T : Tab} {O : Orc} {C : Ctx} {s : St} {a : Act} {w : World} {R : Nat → Prop} {E : Env} {Q : Exit → Act → World → Prop}

/-- what is told of a place -/
def Here (fx : Nat) (C : Ctx) (s : St) (a : Act) (w : World) : Prop := Fxd fx C a ∧ ∃ R E, Sim C s a w R E
/-- a loop keeps what is told of it -/
def LoopOK (fx : Nat) (P : Program) (c : Code) (nt : Nat) (Rf : St → Option ρ) (l : LoopO ρ) : Prop :=
  ∀ (C : Ctx) (s : St) (a : Act) (w : World) (x : DenF l.head) (X : Nat → DenF l.exit → Option ρ) (r : ρ) (Q : Exit → Act → World → Prop), s.nt = nt → Here fx C s a w → ex l.hs l.head s = some x → l.run x X = some r →
    (∀ s' a' w', s'.nt = nt → Rf s' = some r → Here fx C s' a' w' → Q .ret a' w') → (∀ i y s' a' w', X i y = some r → s'.nt = nt → ex l.xs l.exit s' = some y → Here fx C s' a' w' → Q (.exit i) a' w') → (Code.loop c).wp P Q a w
/-- the loops of a code, each as the table tells -/
def LoopsOK (fx : Nat) (P : Program) (nt : Nat) (Rf : St → Option ρ) (L : List (Nat × LoopO ρ)) : Code → Prop
  | .seq a b => LoopsOK fx P nt Rf L a ∧ LoopsOK fx P nt Rf L b
  | .cond _ a b => LoopsOK fx P nt Rf L a ∧ LoopsOK fx P nt Rf L b
  | .block _ b => LoopsOK fx P nt Rf L b
  | .loop b => ∀ l, lookO (firstRegion b) L = some l → LoopOK fx P b nt Rf l
  | _ => True

theorem write_nt (s : St) (ws : List W) : (s.write ws).nt = s.nt := (write_tm ws s).2
theorem inVs_nt : ∀ {sl : List Nat} {f : Fm} {s s' : St} {x : DenF f}, inVs s sl f x = some s' → s'.nt = s.nt := by
  intro sl
  induction sl with
  | nil => intro f s s' x h; cases f <;> simp [inVs] at h; subst h; rfl
  | cons n r ih =>
    intro f s s' x h
    cases f with
    | cons f1 f2 =>
      simp only [inVs] at h
      obtain ⟨_, h⟩ := bif_some h
      rw [ih h, (put_st _ _ _).2.2, write_nt]
    | _ => simp [inVs] at h

theorem ex_inj_here {fx : Nat} (h : Here fx C s a w) {nt : Nat} (hn : s.nt = nt) {sl : List Nat} {f : Fm} {x : DenF f} (hx : ex sl f s = some x) {s' : St} (hs : inj nt sl f x = some s') : Here fx C s' a w := by
  obtain ⟨hf, R, E, h⟩ := h
  subst hn
  exact ⟨hf, exinj h hx hs⟩
theorem code_wp (hm : P.follows .mixedOrders = true) (hT : TabOK P T) (hO : OrcOK P O) {fx nt : Nat} {Rf : St → Option ρ} {L : List (Nat × LoopO ρ)} {r : ρ} : ∀ (c : Code) {s : St} {a : Act} {w : World} {K : St → Option ρ} {X : Nat → St → Option ρ} {Q : Exit → Act → World → Prop},
    LoopsOK fx P nt Rf L c → s.nt = nt → Here fx C s a w → evalCode fx T O L Rf c s K X = some r →
    (∀ s' a' w', s'.nt = nt → K s' = some r → Here fx C s' a' w' → Q .normal a' w') → (∀ i s' a' w', s'.nt = nt → X i s' = some r → Here fx C s' a' w' → Q (.exit i) a' w') → (∀ s' a' w', s'.nt = nt → Rf s' = some r → Here fx C s' a' w' → Q .ret a' w') → c.wp P Q a w := by
  have ntq : ∀ {s : St} {a : Act} {w : World}, s.nt = nt → Here fx C s a w → nt = a.tmps.size := fun h ⟨_, _, _, hs⟩ => h.symm.trans hs.nt
  intro c
  induction c with
  | skip => intro s a w K X Q hL hn h hK h1 h2 h3; exact wp_skip (h1 _ _ _ hn hK h)
  | region id ops draw =>
    intro s a w K X Q hL hn ⟨hf, R, E, h⟩ hK h1 h2 h3
    exact region_wp hm hT hO hf h hK fun s' a' w' R' E' hn' hf' hK' hs' => h1 s' a' w' (hn'.trans hn) hK' ⟨hf', R', E', hs'⟩
  | seq x y ihx ihy =>
    intro s a w K X Q hL hn h hK h1 h2 h3
    refine wp_seq (ihx hL.1 hn h hK (fun s' a' w' hn' hK' hs' => ?_) (fun i s' a' w' hn' hX hs' => h2 i s' a' w' hn' hX hs') (fun s' a' w' hn' hR hs' => h3 s' a' w' hn' hR hs'))
    exact ihy hL.2 hn' hs' hK' h1 h2 h3
  | cond c x y ihx ihy =>
    intro s a w K X Q hL hn h hK h1 h2 h3
    unfold evalCode at hK
    split at hK
    · rename_i t ht
      obtain ⟨hf, R, E, hs⟩ := h
      have hv := hs.op c
      rw [ht] at hv
      refine wp_cond (t := t) hv ?_
      cases t with
      | true => exact ihx hL.1 hn ⟨hf, R, E, hs⟩ hK h1 h2 h3
      | false => exact ihy hL.2 hn ⟨hf, R, E, hs⟩ hK h1 h2 h3
    · cases hK
  | block id b ih =>
    intro s a w K X Q hL hn h hK h1 h2 h3
    refine wp_block (ih hL hn h hK (fun s' a' w' hn' hK' hs' => h1 s' a' w' hn' hK' hs') (fun i s' a' w' hn' hX hs' => ?_) (fun s' a' w' hn' hR hs' => h3 s' a' w' hn' hR hs'))
    show if i = id then Q .normal a' w' else Q (.exit i) a' w'
    by_cases hi : i = id
    · subst hi
      rw [if_pos rfl]
      exact h1 s' a' w' hn' (by simpa using hX) hs'
    · rw [if_neg hi]
      rw [beq_ne hi] at hX
      exact h2 i s' a' w' hn' hX hs'
  | loop b ih =>
    intro s a w K X Q hL hn h hK h1 h2 h3
    unfold evalCode at hK
    split at hK
    · rename_i l hl
      split at hK
      · rename_i x hx
        refine hL l hl C s a w x _ r Q hn h hx hK h3 fun i y s' a' w' hX hn' hy hs' => ?_
        rw [hn] at hX
        split at hX
        · rename_i s1 hi
          exact h2 i s1 a' w' ((inVs_nt hi).trans rfl) hX (ex_inj_here hs' hn' hy hi)
        · cases hX
      · cases hK
    · cases hK
  | exit id => intro s a w K X Q hL hn h hK h1 h2 h3; exact wp_exit (h2 _ _ _ _ hn hK h)
  | ret => intro s a w K X Q hL hn h hK h1 h2 h3; exact wp_ret (h3 _ _ _ hn hK h)
  | _ => intro s a w K X Q hL hn h hK h1 h2 h3; exact nomatch (show (none : Option ρ) = some r from hK)

/-! ### a loop, by its step -/
/-- a loop's rounds, bounded by fuel -/
def rounds {H Y : Type} (step : (H → Option ρ) → (Nat → Y → Option ρ) → H → Option ρ) : Nat → (Nat → Y → Option ρ) → H → Option ρ
  | 0, _, _ => none
  | n + 1, X, x => step (rounds step n X) X x

/-- the loop's rounds follow the evaluator on its body -/
theorem loop_ok (hm : P.follows .mixedOrders = true) (hT : TabOK P T) (hO : OrcOK P O) {fx nt : Nat} {Rf : St → Option ρ} {L : List (Nat × LoopO ρ)} {c : Code} (hL : LoopsOK fx P nt Rf L c) {hs xs : List Nat} {head exit : Fm}
    {step : (DenF head → Option ρ) → (Nat → DenF exit → Option ρ) → DenF head → Option ρ}
    (hstep : ∀ Rc X x, (match inj nt hs head x with
      | some s => evalCode fx T O L Rf c s (fun s => match ex hs head s with
        | some x => Rc x
        | none => none) (fun i s => match ex xs exit s with
        | some y => X i y
        | none => none)
      | none => none) = step Rc X x)
    (fuel : DenF head → Nat) : LoopOK fx P c nt Rf ⟨hs, head, xs, exit, fun x X => rounds step (fuel x) X x⟩ := by
  intro C s a w x X r Q hn h hx hr h3 h2
  dsimp only at hx hr h2
  generalize fuel x = n at hr
  -- the invariant: a state whose slots are some y, and so many rounds from y end in r
  have key : ∀ (n : Nat) (s : St) (a : Act) (w : World) (x : DenF head), s.nt = nt → Here fx C s a w → ex hs head s = some x → rounds step n X x = some r → (Code.loop c).wp P Q a w := by
    intro n0 s0 a0 w0 x0 hn0 h0 hx0 hr0
    refine Go.wp_loop_ghost (fun n a w => ∃ s x, s.nt = nt ∧ Here fx C s a w ∧ ex hs head s = some x ∧ rounds step n X x = some r) n0 ⟨s0, x0, hn0, h0, hx0, hr0⟩ ?_
    rintro n a w ⟨s, x, hn, h, hx, hr⟩
    cases n with
    | zero => cases hr
    | succ n =>
      simp only [rounds] at hr
      rw [← hstep] at hr
      split at hr
      · rename_i s1 hi
        have hn1 : s1.nt = nt := (inVs_nt hi).trans rfl
        refine code_wp hm hT hO c hL hn1 (ex_inj_here h hn hx hi) hr (fun s' a' w' hn' hK hs' => ?_) (fun i s' a' w' hn' hX hs' => ?_) (fun s' a' w' hn' hR hs' => h3 s' a' w' hn' hR hs')
        · split at hK
          · rename_i x' hx'
            exact ⟨n, Nat.lt_succ_self n, s', x', hn', hs', hx', hK⟩
          · cases hK
        · split at hX
          · rename_i y hy
            exact h2 i y s' a' w' hX hn' hy hs'
          · cases hX
      · cases hr
  exact key n s a w x hn h hx hr
end Go.Ev
