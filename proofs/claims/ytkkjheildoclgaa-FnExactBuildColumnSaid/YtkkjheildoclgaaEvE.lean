/- A text of the claim: an evaluator of Go functions, and why it answers as they do. -/
import Derived.Test.YtkkjheildoclgaaEvD
set_option linter.all false
set_option linter.unusedVariables false
set_option linter.unusedSimpArgs false
set_option autoImplicit false
namespace Go.Ev
theorem beq_ne {a b : Nat} (h : a ≠ b) : Nat.beq a b = false := by
  cases hh : Nat.beq a b with
  | false => rfl
  | true => exact absurd (Nat.eq_of_beq_eq_true hh) h
theorem upd_at {α : Type} (f : Nat → α) (d : Nat) (v : α) : upd f d v d = v := by simp [upd]
theorem upd_ne {α : Type} (f : Nat → α) {d i : Nat} (v : α) (h : i ≠ d) : upd f d v i = f i := by simp [upd, beq_ne h]
theorem upd_self {α : Type} (f : Nat → α) (d : Nat) : upd f d (f d) = f := by
  funext i
  by_cases h : i = d
  · subst h; exact upd_at ..
  · exact upd_ne _ _ h

variable {C : Ctx} {s : St} {a : Act} {w : World} {R : Nat → Prop} {E : Env}

theorem SR.congr {w : World} {R : Nat → Prop} {m : Mem} {us : Nat → Bool} {E : Env} {n : Nat} (h : m n = none) (hF : E.F n = []) : SR w R m us E n := by
  unfold SR; rw [h]; exact hF

/-- names that are not used yet stand for nothing -/
theorem Sim.unF (h : Sim C s a w R E) {n : Nat} (hn : s.us n = false) : E.F n = [] := h.noneF (h.un n hn)

/-- the world grows: nothing that is told turns -/
theorem Sim.grow (h : Sim C s a w R E) {w' : World} (hb : ∀ b, b < w.heap.size → w'.heap[b]? = w.heap[b]?) (hs : w.heap.size ≤ w'.heap.size) (hk : Keep C.w0 w' C.F0) : Sim C s a w' R E := by
  have mv : Move w R s.st s.us E w' R s.st s.us E :=
    ⟨fun _ h => h, fun _ _ => ⟨rfl, rfl, rfl, rfl⟩, fun b hb' => ⟨hb', hb b (h.lt b hb')⟩, fun n q' _ hq => ⟨q', hq, Nat.le_refl _, fun _ b hb' => ⟨.inr hb', hb b (h.own n b hb').2.1⟩⟩⟩
  refine ⟨fun t => RV.move mv (h.tm t), h.nt, h.df, fun n => ?_, h.un, h.sub, fun b hb' => Nat.lt_of_lt_of_le (h.lt b hb') hs, fun n b hb' => ⟨(h.own n b hb').1, Nat.lt_of_lt_of_le (h.own n b hb').2.1 hs, (h.own n b hb').2.2⟩, h.nd, h.dj, hk, h.nw⟩
  cases hu : s.us n with
  | false => exact SR.congr (h.un n hu) (h.unF hu)
  | true => exact SR.move mv hu rfl rfl (fun b hb' => hb b (h.own n b hb').2.1) (h.st n)
theorem Keep.grow {w0 w w' : World} {F0 : List Nat} (h : Keep w0 w F0) (hb : ∀ b, b < w.heap.size → w'.heap[b]? = w.heap[b]?) (hs : w.heap.size ≤ w'.heap.size) (h1 : w'.os = w.os) (h2 : w'.tape = w.tape) (h3 : w'.output = w.output) : Keep w0 w' F0 :=
  ⟨h1.trans h.os, h2.trans h.tape, h3.trans h.output, Nat.le_trans h.size hs, fun k hk hF => (hb k (Nat.lt_of_lt_of_le hk h.size)).trans (h.block k hk hF)⟩

/-- a name given up -/
def Env.drop (E : Env) (n : Nat) : Env := { E with F := upd E.F n [] }
theorem Sim.drop (h : Sim C s a w R E) (n : Nat) : Sim C { s with st := upd s.st n none } a w R (E.drop n) := by
  have hF : ∀ k b, b ∈ (E.drop n).F k → k ≠ n ∧ b ∈ E.F k := by
    intro k b hb
    by_cases hk : k = n
    · subst hk; simp [Env.drop, upd_at] at hb
    · refine ⟨hk, ?_⟩
      simp only [Env.drop] at hb
      rw [upd_ne _ _ hk] at hb
      exact hb
  have mv : Move w R s.st s.us E w R (upd s.st n none) s.us (E.drop n) := by
    refine ⟨fun _ h => h, fun _ _ => ⟨rfl, rfl, rfl, rfl⟩, fun b hb' => ⟨hb', rfl⟩, fun k q' _ hq => ?_⟩
    by_cases hk : k = n
    · subst hk; rw [upd_at] at hq; cases hq
    · rw [upd_ne _ _ hk] at hq
      refine ⟨q', hq, Nat.le_refl _, fun _ b hb' => ⟨.inr ?_, rfl⟩⟩
      simp only [Env.drop]
      rw [upd_ne _ _ hk]
      exact hb'
  refine ⟨fun t => RV.move mv (h.tm t), h.nt, h.df, fun k => ?_, fun k hk => ?_, h.sub, h.lt, fun k b hb => h.own k b (hF k b hb).2, fun k => ?_, fun k l b hkl hb hb' => h.dj k l b hkl (hF k b hb).2 (hF l b hb').2, h.keep, h.nw⟩
  · by_cases hk : k = n
    · subst hk
      exact SR.congr (by simp [upd_at]) (by simp [Env.drop, upd_at])
    · cases hu : s.us k with
      | false => exact SR.congr (by simp only; rw [upd_ne _ _ hk]; exact h.un k hu) (by simp only [Env.drop]; rw [upd_ne _ _ hk]; exact h.unF hu)
      | true => exact SR.move mv hu (upd_ne _ _ hk) (by simp only [Env.drop]; rw [upd_ne _ _ hk]) (fun _ _ => rfl) (h.st k)
  · show upd s.st n none k = none
    by_cases hkn : k = n
    · subst hkn; exact upd_at ..
    · rw [upd_ne _ _ hkn]; exact h.un k hk
  · by_cases hkn : k = n
    · subst hkn; simp [Env.drop, upd_at]
    · simp only [Env.drop]; rw [upd_ne _ _ hkn]; exact h.nd k
theorem Sim.dropF {n k : Nat} (hk : k ≠ n) : (E.drop n).F k = E.F k := by simp only [Env.drop]; exact upd_ne _ _ hk
theorem Sim.dropAt {n : Nat} : (E.drop n).F n = [] := by simp only [Env.drop]; exact upd_at ..

/-- a name's rows become what is only read -/
theorem Sim.freeze (h : Sim C s a w R E) (n : Nat) : Sim C { s with st := upd s.st n none } a w (fun b => R b ∨ b ∈ E.F n) (E.drop n) := by
  have mv : Move w R s.st s.us E w (fun b => R b ∨ b ∈ E.F n) (upd s.st n none) s.us (E.drop n) := by
    refine ⟨fun _ h => h, fun _ _ => ⟨rfl, rfl, rfl, rfl⟩, fun b hb' => ⟨.inl hb', rfl⟩, fun k q' _ hq => ?_⟩
    by_cases hk : k = n
    · subst hk; rw [upd_at] at hq; cases hq
    · rw [upd_ne _ _ hk] at hq
      refine ⟨q', hq, Nat.le_refl _, fun _ b hb' => ⟨.inr ?_, rfl⟩⟩
      rw [Sim.dropF hk]
      exact hb'
  have hF : ∀ k b, b ∈ (E.drop n).F k → k ≠ n ∧ b ∈ E.F k := by
    intro k b hb
    by_cases hk : k = n
    · subst hk; rw [Sim.dropAt] at hb; cases hb
    · exact ⟨hk, by rw [Sim.dropF hk] at hb; exact hb⟩
  have hd := h.drop n
  refine ⟨fun t => RV.move mv (h.tm t), h.nt, h.df, fun k => ?_, hd.un, fun b hb => .inl (h.sub b hb), fun b hb => ?_, fun k b hb => ?_, hd.nd, hd.dj, h.keep, fun b hb => hb.elim (h.nw b) (fun hb => .inr (h.own n b hb).2.2)⟩
  · by_cases hk : k = n
    · subst hk
      exact SR.congr (by simp [upd_at]) Sim.dropAt
    · cases hu : s.us k with
      | false => exact SR.congr (by simp only; rw [upd_ne _ _ hk]; exact h.un k hu) (by rw [Sim.dropF hk]; exact h.unF hu)
      | true => exact SR.move mv hu (upd_ne _ _ hk) (Sim.dropF hk) (fun _ _ => rfl) (h.st k)
  · rcases hb with hb | hb
    · exact h.lt b hb
    · exact (h.own n b hb).2.1
  · obtain ⟨hk, hb⟩ := hF k b hb
    refine ⟨?_, (h.own k b hb).2⟩
    rintro (h1 | h1)
    · exact (h.own k b hb).1 h1
    · exact h.dj k n b hk hb h1

/-- a new name -/
def Env.add (E : Env) (n : Nat) (v : Value) (F : List Nat) (B L S : Nat) : Env := ⟨upd E.V n v, upd E.F n F, upd E.B n B, upd E.L n L, upd E.S n S⟩
theorem Sim.add (h : Sim C s a w R E) (n : Nat) (hn : s.us n = false) (en : Ent) (v : Value) (F : List Nat) (B L S : Nat)
    (hF : ∀ b, b ∈ F → ¬ R b ∧ b < w.heap.size ∧ (C.w0.heap.size ≤ b ∨ b ∈ C.F0)) (hnd : F.Nodup) (hdj : ∀ k b, b ∈ F → b ∉ E.F k)
    (hen : ∀ m us E', Move w R s.st s.us E w R m us E' → us = upd s.us n true → E' = E.add n v F B L S → m = upd s.st n (some en) → SR w R m us E' n) :
    Sim C { s with st := upd s.st n (some en), us := upd s.us n true } a w R (E.add n v F B L S) := by
  have hne : ∀ k, s.us k = true → k ≠ n := fun k hk e => by subst e; rw [hn] at hk; cases hk
  have mv : Move w R s.st s.us E w R (upd s.st n (some en)) (upd s.us n true) (E.add n v F B L S) := by
    refine ⟨fun k hk => by rw [upd_ne _ _ (hne k hk)]; exact hk, fun k hk => ?_, fun b hb' => ⟨hb', rfl⟩, fun k q' hk hq => ?_⟩
    · have := hne k hk
      exact ⟨upd_ne _ _ this, upd_ne _ _ this, upd_ne _ _ this, upd_ne _ _ this⟩
    · have hk' := hne k hk
      rw [upd_ne _ _ hk'] at hq
      refine ⟨q', hq, Nat.le_refl _, fun _ b hb' => ⟨.inr ?_, rfl⟩⟩
      show b ∈ upd E.F n F k
      rw [upd_ne _ _ hk']
      exact hb'
  have hFk : ∀ k, k ≠ n → (E.add n v F B L S).F k = E.F k := fun k hk => upd_ne _ _ hk
  have hFn : (E.add n v F B L S).F n = F := upd_at ..
  refine ⟨fun t => RV.move mv (h.tm t), h.nt, h.df, fun k => ?_, fun k hk => ?_, h.sub, h.lt, fun k b hb => ?_, fun k => ?_, fun k l b hkl hb hb' => ?_, h.keep, h.nw⟩
  · by_cases hk : k = n
    · subst hk; exact hen _ _ _ mv rfl rfl rfl
    · cases hu : s.us k with
      | false => exact SR.congr (by simp only; rw [upd_ne _ _ hk]; exact h.un k hu) (by rw [hFk k hk]; exact h.unF hu)
      | true => exact SR.move mv hu (upd_ne _ _ hk) (hFk k hk) (fun _ _ => rfl) (h.st k)
  · by_cases hkn : k = n
    · subst hkn; simp only [upd_at] at hk; cases hk
    · simp only at hk ⊢
      rw [upd_ne _ _ hkn] at hk ⊢
      exact h.un k hk
  · by_cases hkn : k = n
    · subst hkn; rw [hFn] at hb; exact hF b hb
    · rw [hFk k hkn] at hb; exact h.own k b hb
  · by_cases hkn : k = n
    · subst hkn; rw [hFn]; exact hnd
    · rw [hFk k hkn]; exact h.nd k
  · by_cases hkn : k = n
    · subst hkn
      rw [hFn] at hb
      rw [hFk l (Ne.symm hkl)] at hb'
      exact hdj l b hb hb'
    · rw [hFk k hkn] at hb
      by_cases hln : l = n
      · subst hln; rw [hFn] at hb'; exact hdj k b hb' hb
      · rw [hFk l hln] at hb'; exact h.dj k l b hkl hb hb'

/-- a name's content changes, and with it the world, in this name's blocks alone (and beyond the old world's end) -/
theorem Sim.set (h : Sim C s a w R E) (n : Nat) (hn : s.us n = true) (en en' : Ent) (hm : s.st n = some en) {w' : World} (F : List Nat)
    (hv : ∀ q', en' = .root q' → ∃ q, en = .root q ∧ q.ver < q'.ver)
    (hb : ∀ b, b < w.heap.size → b ∉ E.F n → w'.heap[b]? = w.heap[b]?) (hs : w.heap.size ≤ w'.heap.size) (h1 : w'.os = w.os) (h2 : w'.tape = w.tape) (h3 : w'.output = w.output)
    (hF : ∀ b, b ∈ F → ¬ R b ∧ b < w'.heap.size ∧ (C.w0.heap.size ≤ b ∨ b ∈ C.F0)) (hnd : F.Nodup) (hdj : ∀ k b, k ≠ n → b ∈ F → b ∉ E.F k)
    (hen : ∀ m E', Move w R s.st s.us E w' R m s.us E' → E' = { E with F := upd E.F n F } → m = upd s.st n (some en') → SR w' R m s.us E' n) :
    Sim C { s with st := upd s.st n (some en') } a w' R { E with F := upd E.F n F } := by
  have mv : Move w R s.st s.us E w' R (upd s.st n (some en')) s.us { E with F := upd E.F n F } := by
    refine ⟨fun _ h => h, fun _ _ => ⟨rfl, rfl, rfl, rfl⟩, fun b hb' => ⟨hb', hb b (h.lt b hb') (fun hc => (h.own n b hc).1 hb')⟩, fun k q' hk hq => ?_⟩
    by_cases hkn : k = n
    · subst hkn
      rw [upd_at] at hq
      injection hq with hq
      obtain ⟨q, e, hlt⟩ := hv q' hq
      subst e
      exact ⟨q, hm, by omega, fun hc => by omega⟩
    · rw [upd_ne _ _ hkn] at hq
      refine ⟨q', hq, Nat.le_refl _, fun _ b hb' => ⟨.inr ?_, hb b (h.own k b hb').2.1 (h.dj k n b hkn hb')⟩⟩
      show b ∈ upd E.F n F k
      rw [upd_ne _ _ hkn]
      exact hb'
  have hFk : ∀ k, k ≠ n → upd E.F n F k = E.F k := fun k hk => upd_ne _ _ hk
  refine ⟨fun t => RV.move mv (h.tm t), h.nt, h.df, fun k => ?_, fun k hk => ?_, h.sub, fun b hb' => Nat.lt_of_lt_of_le (h.lt b hb') hs, fun k b hb' => ?_, fun k => ?_, fun k l b hkl hb1 hb2 => ?_, ?_, h.nw⟩
  · by_cases hk : k = n
    · subst hk; exact hen _ _ mv rfl rfl
    · cases hu : s.us k with
      | false => exact SR.congr (by simp only; rw [upd_ne _ _ hk]; exact h.un k hu) (by simp only; rw [hFk k hk]; exact h.unF hu)
      | true => exact SR.move mv hu (upd_ne _ _ hk) (hFk k hk) (fun b hb' => hb b (h.own k b hb').2.1 (h.dj k n b hk hb')) (h.st k)
  · by_cases hkn : k = n
    · subst hkn; simp only at hk; rw [hn] at hk; cases hk
    · simp only at hk ⊢
      rw [upd_ne _ _ hkn]
      exact h.un k hk
  · by_cases hkn : k = n
    · subst hkn; simp only [upd_at] at hb'; exact hF b hb'
    · simp only at hb'; rw [hFk k hkn] at hb'
      exact ⟨(h.own k b hb').1, Nat.lt_of_lt_of_le (h.own k b hb').2.1 hs, (h.own k b hb').2.2⟩
  · by_cases hkn : k = n
    · subst hkn; simp only [upd_at]; exact hnd
    · simp only; rw [hFk k hkn]; exact h.nd k
  · simp only at hb1 hb2
    by_cases hkn : k = n
    · subst hkn
      rw [upd_at] at hb1
      rw [hFk l (Ne.symm hkl)] at hb2
      exact hdj l b (Ne.symm hkl) hb1 hb2
    · rw [hFk k hkn] at hb1
      by_cases hln : l = n
      · subst hln; rw [upd_at] at hb2; exact hdj k b hkn hb2 hb1
      · rw [hFk l hln] at hb2; exact h.dj k l b hkl hb1 hb2
  · exact ⟨h1.trans h.keep.os, h2.trans h.keep.tape, h3.trans h.keep.output, Nat.le_trans h.keep.size hs, fun k hk hk0 => by
      rw [hb k (Nat.lt_of_lt_of_le hk h.keep.size) (fun hc => ?_)]
      · exact h.keep.block k hk hk0
      · rcases (h.own n k hc).2.2 with h4 | h4
        · omega
        · exact hk0 h4⟩
end Go.Ev
