/- A text of the claim: an evaluator of Go functions, and why it answers as they do. -/
import Derived.Test.YtkkjheildoclgaaEvM
set_option linter.all false
set_option linter.unusedVariables false
set_option linter.unusedSimpArgs false
set_option autoImplicit false
set_option linter.unusedVariables false
namespace Go.Ev
variable {P : Program} {T : Tab} {C : Ctx} {s : St} {a : Act} {w : World} {R : Nat → Prop} {E : Env}

/-! stores into an element of a row -/
def setL : List Value → Nat → List Value → List Value
  | cs, _, [] => cs
  | cs, off, u :: r => setL (cs.set off u) (off + 1) r
theorem setL_eq : ∀ (us cs : List Value) (off : Nat), off + us.length ≤ cs.length → setL cs off us = cs.take off ++ us ++ cs.drop (off + us.length)
  | [], cs, off, _ => by simp [setL]
  | u :: r, cs, off, h => by
    simp only [setL]
    simp only [List.length_cons] at h
    rw [setL_eq r (cs.set off u) (off + 1) (by simp; omega)]
    have := list_seg_step cs off u r (by omega)
    rw [this]
    simp [Nat.add_assoc, Nat.add_comm 1]

theorem rp_one {R' : Nat → Prop} {d : Bool} {t : CT} {x : Den t} {cs : List Value} {F : List Nat} (hs : t.sz = 1) (h : Rp w R' d t x cs F) : ∃ v, cs = [v] := by
  have := h.len
  rw [hs] at this
  match cs, this with
  | [v], _ => exact ⟨v, rfl⟩
theorem putC_ok (h : Sim C s a w R E) {m : Mem} (hm : Sub m s.st) : ∀ {t : CT} {x : Den t} {off : Nat} {v : AV} {y : Den t} {o : Bool} {c : List Nat} {u : Value}, putC m t x off v = some (y, o, c) → off < t.sz → RC w R s.st s.us E v u →
    (∀ n, n ∈ c → s.us n = true) ∧
    (o = true → ∀ cs F, Rp w R true t x cs F → ∃ F1 G F2, F = F1 ++ G ++ F2 ∧ Rp w R true t y (cs.set off u) (F1 ++ dropsF E c ++ F2)) ∧
    (∀ R' : Nat → Prop, (∀ b, R b → R' b) → (∀ n, n ∈ c → ∀ b, b ∈ E.F n → R' b) → ∀ cs, Rp w R' false t x cs [] → Rp w R' false t y (cs.set off u) []) := by
  have leaf : ∀ {t : CT} {x : Den t} {off : Nat} {v : AV} {y : Den t} {o : Bool} {c : List Nat} {u : Value} {r : List AV}, t.sz = 1 → toDen m t [v] = some (y, o, c, r) → off < t.sz → RC w R s.st s.us E v u →
    (∀ n, n ∈ c → s.us n = true) ∧
    (o = true → ∀ cs F, Rp w R true t x cs F → ∃ F1 G F2, F = F1 ++ G ++ F2 ∧ Rp w R true t y (cs.set off u) (F1 ++ dropsF E c ++ F2)) ∧
    (∀ R' : Nat → Prop, (∀ b, R b → R' b) → (∀ n, n ∈ c → ∀ b, b ∈ E.F n → R' b) → ∀ cs, Rp w R' false t x cs [] → Rp w R' false t y (cs.set off u) []) := by
    intro t x off v y o c u r hs he ho hv
    obtain ⟨v1, v2, e1, e2, h1, h2, h3⟩ := toDen_ok h hm he (vs := [u]) ⟨u, [], rfl, hv, rfl⟩
    have hl := h3.len
    rw [hs] at hl
    have e3 : v1 = [u] := by
      match v1, hl with
      | [z], _ =>
        simp at e1
        rw [e1.1]
    subst e3
    have ho' : off = 0 := by omega
    subst ho'
    refine ⟨h1, fun hd cs F hr => ?_, fun R' k1 k2 cs hr => ?_⟩
    · obtain ⟨z, rfl⟩ := rp_one hs hr
      exact ⟨[], F, [], by simp, by simpa using h2 hd⟩
    · obtain ⟨z, rfl⟩ := rp_one hs hr
      exact h3.keep (w' := w) (fun b hb => ⟨hb.elim (k1 b) (fun ⟨n, hn, hb⟩ => k2 n hn b hb), rfl⟩) (fun _ _ => rfl)
  intro t
  induction t with
  | cons t1 t2 ih1 ih2 =>
    intro x off v y o c u he ho hv
    simp only [putC] at he
    by_cases hlt : off < t1.sz
    · rw [show Nat.blt off t1.sz = true by rw [Nat.blt_eq]; exact hlt] at he
      simp only [cond_true] at he
      cases hp : putC m t1 x.1 off v with
      | none => rw [hp] at he; simp at he
      | some q =>
        obtain ⟨y1, o1, c1⟩ := q
        rw [hp] at he
        simp only [Option.some.injEq, Prod.mk.injEq] at he
        obtain ⟨rfl, rfl, rfl⟩ := he
        obtain ⟨h1, h2, h3⟩ := ih1 hp hlt hv
        refine ⟨h1, fun hd cs F hr => ?_, fun R' k1 k2 cs hr => ?_⟩
        · obtain ⟨d1, d2, F1, F2, rfl, rfl, r1, r2⟩ := hr
          obtain ⟨G1, G, G2, rfl, g⟩ := h2 hd d1 F1 r1
          refine ⟨G1, G, G2 ++ F2, by simp, d1.set off u, d2, _, F2, ?_, ?_, g, r2⟩
          · rw [List.set_append, if_pos (by rw [r1.len]; exact hlt)]
          · simp
        · obtain ⟨d1, d2, F1, F2, rfl, e, r1, r2⟩ := hr
          obtain ⟨rfl, rfl⟩ : F1 = [] ∧ F2 = [] := by simpa using e.symm
          refine ⟨d1.set off u, d2, [], [], ?_, rfl, h3 R' k1 k2 _ r1, r2⟩
          rw [List.set_append, if_pos (by rw [r1.len]; exact hlt)]
    · rw [show Nat.blt off t1.sz = false by cases hh : Nat.blt off t1.sz with | false => rfl | true => exact absurd (by rw [Nat.blt_eq] at hh; exact hh) hlt] at he
      simp only [cond_false] at he
      have ho2 : off - t1.sz < t2.sz := by simp only [CT.sz] at ho; omega
      cases hp : putC m t2 x.2 (off - t1.sz) v with
      | none => rw [hp] at he; simp at he
      | some q =>
        obtain ⟨y1, o1, c1⟩ := q
        rw [hp] at he
        simp only [Option.some.injEq, Prod.mk.injEq] at he
        obtain ⟨rfl, rfl, rfl⟩ := he
        obtain ⟨h1, h2, h3⟩ := ih2 hp ho2 hv
        refine ⟨h1, fun hd cs F hr => ?_, fun R' k1 k2 cs hr => ?_⟩
        · obtain ⟨d1, d2, F1, F2, rfl, rfl, r1, r2⟩ := hr
          obtain ⟨G1, G, G2, rfl, g⟩ := h2 hd d2 F2 r2
          refine ⟨F1 ++ G1, G, G2, by simp, d1, d2.set (off - t1.sz) u, F1, _, ?_, ?_, r1, g⟩
          · rw [List.set_append, if_neg (by rw [r1.len]; exact hlt), r1.len]
          · simp
        · obtain ⟨d1, d2, F1, F2, rfl, e, r1, r2⟩ := hr
          obtain ⟨rfl, rfl⟩ : F1 = [] ∧ F2 = [] := by simpa using e.symm
          refine ⟨d1, d2.set (off - t1.sz) u, [], [], ?_, rfl, r1, h3 R' k1 k2 _ r2⟩
          rw [List.set_append, if_neg (by rw [r1.len]; exact hlt), r1.len]
  | nil => intro x off v y o c u he ho hv; simp [CT.sz] at ho
  | int k | bool | str | sl e t' ih =>
    intro x off v y o c u he ho hv
    simp only [putC] at he
    split at he
    · rename_i hh
      simp only [Option.some.injEq, Prod.mk.injEq] at he
      obtain ⟨rfl, rfl, rfl⟩ := he
      exact leaf rfl hh ho hv
    · cases he
theorem putCs_ok (h : Sim C s a w R E) {m : Mem} (hm : Sub m s.st) {t : CT} : ∀ {l : List AV} {x : Den t} {off : Nat} {y : Den t} {o : Bool} {c : List Nat} {us : List Value}, putCs m t x off l = some (y, o, c) → off + l.length ≤ t.sz → L2 (RC w R s.st s.us E) l us →
    (∀ n, n ∈ c → s.us n = true) ∧
    (o = true → ∀ cs F, Rp w R true t x cs F → (F ++ dropsF E c).Nodup → ∃ F', F'.Nodup ∧ (∀ b, b ∈ F' → b ∈ F ∨ b ∈ dropsF E c) ∧ Rp w R true t y (setL cs off us) F') ∧
    (∀ R' : Nat → Prop, (∀ b, R b → R' b) → (∀ n, n ∈ c → ∀ b, b ∈ E.F n → R' b) → ∀ cs, Rp w R' false t x cs [] → Rp w R' false t y (setL cs off us) [])
  | [], x, off, y, o, c, us, he, ho, hl => by
    simp only [putCs, Option.some.injEq, Prod.mk.injEq] at he
    obtain ⟨rfl, rfl, rfl⟩ := he
    rw [show us = [] from hl]
    refine ⟨by simp, fun _ cs F hr hn => ⟨F, by simpa [dropsF] using hn, fun b hb => .inl hb, hr⟩, fun R' _ _ cs hr => hr⟩
  | v :: r, x, off, y, o, c, us, he, ho, ⟨u, us', e, hv, hl⟩ => by
    subst e
    simp only [List.length_cons] at ho
    unfold putCs at he
    cases hp : putC m t x off v with
    | none => rw [hp] at he; simp at he
    | some q =>
      obtain ⟨y1, o1, c1⟩ := q
      rw [hp] at he
      simp only at he
      cases hq : putCs m t y1 (off + 1) r with
      | none => rw [hq] at he; simp at he
      | some q2 =>
        obtain ⟨y2, o2, c2⟩ := q2
        rw [hq] at he
        simp only [Option.some.injEq, Prod.mk.injEq] at he
        obtain ⟨rfl, rfl, rfl⟩ := he
        obtain ⟨a1, a2, a3⟩ := putC_ok h hm hp (by omega) hv
        obtain ⟨b1, b2, b3⟩ := putCs_ok h hm hq (by omega) hl
        refine ⟨fun n hn => (List.mem_append.1 hn).elim (a1 n) (b1 n), fun hd cs F hr hn => ?_, fun R' k1 k2 cs hr => ?_⟩
        · simp only [Bool.and_eq_true] at hd
          obtain ⟨F1, G, F2, rfl, g⟩ := a2 hd.1 cs F hr
          rw [dropsF_app] at hn
          obtain ⟨F', f1, f2, f3⟩ := b2 hd.2 _ _ g (by
            simp only [List.nodup_append, List.mem_append] at hn ⊢
            grind)
          refine ⟨F', f1, fun b hb => ?_, f3⟩
          rw [dropsF_app]
          have := f2 b hb
          simp only [List.mem_append] at this ⊢
          rcases this with ((h | h) | h) | h <;> simp [h]
        · exact b3 R' k1 (fun n hn => k2 n (by simp [hn])) _ (a3 R' k1 (fun n hn => k2 n (by simp [hn])) cs hr)

theorem upd_upd {α : Type} (f : Nat → α) (n : Nat) (x y : α) : upd (upd f n x) n y = upd f n y := by
  funext i
  by_cases h : i = n
  · subst h; simp [upd_at]
  · simp [upd_ne _ _ h]

/-- what a row leads to is given up: it is only read from now on -/
theorem Sim.soften (h : Sim C s a w R E) {n : Nat} {q : Root} (hq : s.st n = some (.root q)) (hu : s.us n = true) :
    Sim C { s with st := upd s.st n (some (.root { q with deep := false })) } a w (fun b => R b ∨ (b ∈ E.F n ∧ b ∉ (E.V n).ownBlock.toList)) { E with F := upd E.F n (E.V n).ownBlock.toList } := by
  obtain ⟨l1, l2, ds, Fi, g1, g2, g3⟩ := h.root hq
  have mv : Move w R s.st s.us E w (fun b => R b ∨ (b ∈ E.F n ∧ b ∉ (E.V n).ownBlock.toList)) (upd s.st n (some (.root { q with deep := false }))) s.us { E with F := upd E.F n (E.V n).ownBlock.toList } := by
    refine ⟨fun _ h => h, fun _ _ => ⟨rfl, rfl, rfl, rfl⟩, fun b hb' => ⟨.inl hb', rfl⟩, fun k q' _ hk => ?_⟩
    by_cases hkn : k = n
    · subst hkn
      rw [upd_at] at hk
      injection hk with hk
      injection hk with hk
      subst hk
      refine ⟨q, hq, Nat.le_refl _, fun _ b hb => ⟨?_, rfl⟩⟩
      by_cases hb' : b ∈ (E.V k).ownBlock.toList
      · exact .inr (by show b ∈ upd E.F k _ k; rw [upd_at]; exact hb')
      · exact .inl (.inr ⟨hb, hb'⟩)
    · rw [upd_ne _ _ hkn] at hk
      exact ⟨q', hk, Nat.le_refl _, fun _ b hb' => ⟨.inr (by show b ∈ upd E.F n _ k; rw [upd_ne _ _ hkn]; exact hb'), rfl⟩⟩
  have hsub : ∀ k b, b ∈ upd E.F n (E.V n).ownBlock.toList k → b ∈ E.F k := by
    intro k b hb
    by_cases hkn : k = n
    · subst hkn; rw [upd_at] at hb; rw [g2]; exact List.mem_append.2 (.inl hb)
    · rwa [upd_ne _ _ hkn] at hb
  refine ⟨fun t => RV.move mv (h.tm t), h.nt, h.df, fun k => ?_, fun k hk => ?_, fun b hb => .inl (h.sub b hb), fun b hb => ?_, fun k b hb => ?_, fun k => ?_, fun k l b hkl hb hb' => h.dj k l b hkl (hsub k b hb) (hsub l b hb'), h.keep, fun b hb => hb.elim (h.nw b) (fun hb => .inr (h.own n b hb.1).2.2)⟩
  · by_cases hkn : k = n
    · subst hkn
      unfold SR
      dsimp only
      rw [upd_at]
      refine ⟨l1, l2, ds, [], g1, by simp [upd_at], g3.freeze (fun b hb => .inl hb) (fun b hb => .inr ⟨by rw [g2]; exact List.mem_append.2 (.inr hb), fun hc => ?_⟩)⟩
      have := h.nd k
      rw [g2] at this
      exact (List.nodup_append.1 this).2.2 b hc b hb rfl
    · cases hu' : s.us k with
      | false => exact SR.congr (by simp only; rw [upd_ne _ _ hkn]; exact h.un k hu') (by simp only; rw [upd_ne _ _ hkn]; exact h.unF hu')
      | true => exact SR.move mv hu' (upd_ne _ _ hkn) (by simp only; rw [upd_ne _ _ hkn]) (fun _ _ => rfl) (h.st k)
  · show upd s.st n _ k = none
    by_cases hkn : k = n
    · subst hkn; rw [hu] at hk; cases hk
    · rw [upd_ne _ _ hkn]; exact h.un k hk
  · rcases hb with hb | ⟨hb, _⟩
    · exact h.lt b hb
    · exact (h.own n b hb).2.1
  · simp only at hb
    have hb' := hsub k b hb
    refine ⟨?_, (h.own k b hb').2⟩
    rintro (h1 | ⟨h1, h2⟩)
    · exact (h.own k b hb').1 h1
    · by_cases hkn : k = n
      · subst hkn; rw [upd_at] at hb; exact h2 hb
      · exact h.dj k n b hkn hb' h1
  · show (upd E.F n _ k).Nodup
    by_cases hkn : k = n
    · subst hkn; rw [upd_at]; cases (E.V k).ownBlock <;> simp
    · rw [upd_ne _ _ hkn]; exact h.nd k
end Go.Ev
