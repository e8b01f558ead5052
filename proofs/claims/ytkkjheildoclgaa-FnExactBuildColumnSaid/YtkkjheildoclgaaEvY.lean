/- A text of the claim: an evaluator of Go functions, and why it answers as they do. -/
import Derived.Test.YtkkjheildoclgaaEvX
set_option linter.all false
set_option linter.unusedVariables false
set_option linter.unusedSimpArgs false
set_option autoImplicit false
set_option linter.unusedVariables false
namespace Go.Ev
variable {ρ : Type} (T : Tab) (O : Orc)
theorem bif_bind {α β : Type} (c : Bool) (x y : Option α) (f : α → Option β) : (bif c then x else y).bind f = bif c then x.bind f else y.bind f := by cases c <;> rfl
theorem splitAlt_nat {A : (g : Fm) → DenF g → AV} {B : (g : Fm) → DenF g → List W} (K : AV → List W → Option ρ) : ∀ {f : Fm} {x : DenF f}, splitAlt f x (fun g y => K (A g y) (B g y)) = (splitAlt f x fun g y => some (A g y, B g y)).bind fun p => K p.1 p.2 := by
  intro f
  induction f with
  | alt a b iha ihb =>
    intro x
    cases x with
    | inl y => exact iha (x := y)
    | inr y => exact ihb (x := y)
  | _ => intro x; rfl
theorem evCall_nat (dn : Nat) (g : FuncId) (args : List AV) (m : Mem) (K : AV → List W → Option ρ) : evCall O dn g args m K = (evCall O dn g args m (fun v w => some (v, w))).bind fun p => K p.1 p.2 := by
  unfold evCall
  split
  · split
    · rw [bif_bind]
      congr 1
      split
      · split
        · rw [bif_bind]
          congr 1
          exact splitAlt_nat K
        · rfl
      · rfl
    · rfl
  · rfl
theorem core_nat (dn : Nat) (op : Op) (vs : List AV) (m : Mem) (K : AV → List W → Option ρ) : core T O dn op vs m K = (core T O dn op vs m (fun v w => some (v, w))).bind fun p => K p.1 p.2 := by
  unfold core
  split
  all_goals (try (unfold evAppend))
  all_goals (repeat' split)
  all_goals (try rfl)
  all_goals (try (exact evCall_nat O dn _ _ m K))
  all_goals (simp only [bif_bind, Option.bind_some, Option.bind_none])
  all_goals (repeat' split)
  all_goals (try rfl)
  all_goals (simp only [bif_bind, Option.bind_some, Option.bind_none])


/-! ### one operation of an open region, as a step -/
def recOf (o : Oper) (g : List Nat) (s : St) (ws : List W) : Rec := ⟨o.dst, g ++ tmpsOf o, (o.op.operands.toList.map s.op).flatMap (namesV s.st), ws.map (·.n)⟩
def guardOf (ops : List Oper) (o : Oper) : Option Nat × Bool := match o.guard with
  | none => (none, true)
  | some (j, want) => ((ops[j]?).bind (·.dst), want)
def stepR (fx : Nat) (ops : List Oper) (o : Oper) (s s1 : St) (q : Rec) : Prop :=
  dOk fx o.dst = true ∧ ((∃ v ws g, core T O ((o.dst.getD 0) * 64) o.op (o.op.operands.toList.map s.op) (rm ((o.op.operands.toList.map s.op).flatMap (namesV s.st)) s.st) (fun v w => some (v, w)) = some (v, ws) ∧ freshOk s.us ws = true ∧ s1 = (s.write ws).put o.dst v ∧ q = recOf o g s ws ∧
    (match o.guard with
      | none => g = []
      | some (j, want) => ∃ d, (ops[j]?).bind (·.dst) = some d ∧ g = [d] ∧ s.tm d = .bool want)) ∨
  (∃ j want d, o.guard = some (j, want) ∧ (ops[j]?).bind (·.dst) = some d ∧ (s.tm d = .bool (!want) ∨ s.tm d = .tup []) ∧ s1 = s.put o.dst (.tup []) ∧ q = ⟨o.dst, [d], [], []⟩))
theorem put_same (s : St) (d : Nat) {v : AV} (h : s.tm d = v) : s.put (some d) v = s := by
  unfold St.put
  subst h
  dsimp only
  cases Nat.blt d s.nt with
  | false => rfl
  | true => simp [upd_self]
theorem evalOpR_some {fx : Nat} {o : Oper} {g : List Nat} {s : St} {K : St → Rec → Option ρ} {r : ρ} (h : evalOpR T O fx o g s K = some r) :
    ∃ v ws, core T O ((o.dst.getD 0) * 64) o.op (o.op.operands.toList.map s.op) (rm ((o.op.operands.toList.map s.op).flatMap (namesV s.st)) s.st) (fun v w => some (v, w)) = some (v, ws) ∧ freshOk s.us ws = true ∧ dOk fx o.dst = true ∧ K ((s.write ws).put o.dst v) (recOf o g s ws) = some r := by
  unfold evalOpR at h
  dsimp only at h
  rw [core_nat] at h
  cases hc : core T O ((o.dst.getD 0) * 64) o.op (o.op.operands.toList.map s.op) (rm ((o.op.operands.toList.map s.op).flatMap (namesV s.st)) s.st) (fun v w => some (v, w)) with
  | none => rw [hc] at h; cases h
  | some p =>
    rw [hc] at h
    obtain ⟨h1, h2⟩ := bif_some h
    rw [Bool.and_eq_true] at h1
    exact ⟨p.1, p.2, rfl, h1.1, h1.2, h2⟩
/-- the text's order, as steps -/
def seqR (fx : Nat) (ops : List Oper) : List Oper → List Rec → St → St → Prop
  | [], rs, s, s' => rs = [] ∧ s' = s
  | o :: r, rs, s, s' => ∃ q rs' s1, rs = q :: rs' ∧ stepR T O fx ops o s s1 q ∧ seqR fx ops r rs' s1 s'
theorem evalOpsR_seq (fx : Nat) (ops : List Oper) : ∀ (l : List Oper) {s : St} {rs : List Rec} {K : St → List Rec → Option ρ} {r : ρ}, evalOpsR T O fx ops l s rs K = some r → ∃ rs' s', seqR T O fx ops l rs' s s' ∧ K s' (rs ++ rs') = some r
  | [], s, rs, K, r, h => ⟨[], s, ⟨rfl, rfl⟩, by rw [List.append_nil]; exact h⟩
  | o :: l, s, rs, K, r, h => by
    unfold evalOpsR at h
    split at h
    · rename_i hg
      obtain ⟨v, ws, h1, h2, hd0, h3⟩ := evalOpR_some T O h
      obtain ⟨rs', s', h4, h5⟩ := evalOpsR_seq fx ops l h3
      refine ⟨_ :: rs', s', ⟨_, rs', _, rfl, ⟨hd0, .inl ⟨v, ws, [], h1, h2, rfl, rfl, by rw [hg]⟩⟩, h4⟩, by rw [List.append_assoc] at h5; exact h5⟩
    · rename_i j want hg
      split at h
      · rename_i d hd
        split at h
        · rename_i b hb
          cases hbw : (b == want) with
          | true =>
            rw [hbw] at h
            have e : b = want := by simpa using hbw
            subst e
            dsimp only [cond_true] at h
            rw [put_same s d hb] at h
            obtain ⟨v, ws, h1, h2, hd0, h3⟩ := evalOpR_some T O h
            obtain ⟨rs', s', h4, h5⟩ := evalOpsR_seq fx ops l h3
            refine ⟨_ :: rs', s', ⟨_, rs', _, rfl, ⟨hd0, .inl ⟨v, ws, [d], h1, h2, rfl, rfl, ?_⟩⟩, h4⟩, by rw [List.append_assoc] at h5; exact h5⟩
            rw [hg]
            exact ⟨d, hd, rfl, hb⟩
          | false =>
            rw [hbw] at h
            have e : b = !want := by cases b <;> cases want <;> simp_all
            subst e
            dsimp only [cond_false] at h
            rw [put_same s d hb] at h
            obtain ⟨hd0, h⟩ := bif_some h
            obtain ⟨rs', s', h4, h5⟩ := evalOpsR_seq fx ops l h
            exact ⟨_ :: rs', s', ⟨_, rs', _, rfl, ⟨hd0, .inr ⟨j, want, d, hg, hd, .inl hb, rfl, rfl⟩⟩, h4⟩, by rw [List.append_assoc] at h5; exact h5⟩
        · rename_i hb
          obtain ⟨hd0, h⟩ := bif_some h
          obtain ⟨rs', s', h4, h5⟩ := evalOpsR_seq fx ops l h
          exact ⟨_ :: rs', s', ⟨_, rs', _, rfl, ⟨hd0, .inr ⟨j, want, d, hg, hd, .inr hb, rfl, rfl⟩⟩, h4⟩, by rw [List.append_assoc] at h5; exact h5⟩
        · cases h
      · cases h

/-! the frame of a step -/
theorem op_same {s s' : St} {x : Operand} (h : ∀ t, x = .tmp t → s'.tm t = s.tm t) : s'.op x = s.op x := by
  cases x with
  | tmp t => exact h t rfl
  | _ => rfl
theorem ops_same {o : Oper} {s s' : St} (h : ∀ t, t ∈ tmpsOf o → s'.tm t = s.tm t) : o.op.operands.toList.map s'.op = o.op.operands.toList.map s.op := by
  apply List.map_congr_left
  intro x hx
  apply op_same
  intro t e
  apply h
  unfold tmpsOf
  rw [List.mem_filterMap]
  exact ⟨x, hx, by rw [e]⟩
theorem namesB_same {m m' : Mem} {v : AV} (h : ∀ n, n ∈ namesB m v → m' n = m n) : namesB m' v = namesB m v := by
  cases v with
  | pbox n o => 
    have := h n (by simp [namesB])
    simp only [namesB, this]
  | _ => rfl
theorem flatB_same {m m' : Mem} {l : List AV} (h : ∀ n, n ∈ l.flatMap (namesB m) → m' n = m n) : l.flatMap (namesB m') = l.flatMap (namesB m) := by
  induction l with
  | nil => rfl
  | cons x r ih =>
    simp only [List.flatMap_cons, List.mem_append] at h ⊢
    rw [namesB_same fun n hn => h n (.inl hn), ih fun n hn => h n (.inr hn)]
theorem namesC_same {m m' : Mem} {v : AV} (h : ∀ n, n ∈ namesC m v → m' n = m n) : namesC m' v = namesC m v := by
  cases v with
  | agg cs => exact flatB_same h
  | _ => simp only [namesC] at h ⊢; exact namesB_same h
theorem flatC_same {m m' : Mem} {l : List AV} (h : ∀ n, n ∈ l.flatMap (namesC m) → m' n = m n) : l.flatMap (namesC m') = l.flatMap (namesC m) := by
  induction l with
  | nil => rfl
  | cons x r ih =>
    simp only [List.flatMap_cons, List.mem_append] at h ⊢
    rw [namesC_same fun n hn => h n (.inl hn), ih fun n hn => h n (.inr hn)]
theorem namesD_same {m m' : Mem} {v : AV} (h : ∀ n, n ∈ namesD m v → m' n = m n) : namesD m' v = namesD m v := by
  cases v with
  | clo f vs => exact flatC_same h
  | ifc f vs => exact flatB_same h
  | _ => simp only [namesD] at h ⊢; exact namesC_same h
theorem flatD_same {m m' : Mem} {l : List AV} (h : ∀ n, n ∈ l.flatMap (namesD m) → m' n = m n) : l.flatMap (namesD m') = l.flatMap (namesD m) := by
  induction l with
  | nil => rfl
  | cons x r ih =>
    simp only [List.flatMap_cons, List.mem_append] at h ⊢
    rw [namesD_same fun n hn => h n (.inl hn), ih fun n hn => h n (.inr hn)]
theorem namesV_same {m m' : Mem} {v : AV} (h : ∀ n, n ∈ namesV m v → m' n = m n) : namesV m' v = namesV m v := by
  cases v with
  | tup vs => exact flatD_same h
  | _ => simp only [namesV] at h ⊢; exact namesD_same h
theorem flatV_same {m m' : Mem} {l : List AV} (h : ∀ n, n ∈ l.flatMap (namesV m) → m' n = m n) : l.flatMap (namesV m') = l.flatMap (namesV m) := by
  induction l with
  | nil => rfl
  | cons x r ih =>
    simp only [List.flatMap_cons, List.mem_append] at h ⊢
    rw [namesV_same fun n hn => h n (.inl hn), ih fun n hn => h n (.inr hn)]
theorem rm_same {m m' : Mem} {ns : List Nat} (h : ∀ n, n ∈ ns → m' n = m n) : rm ns m' = rm ns m := by
  funext n
  unfold rm
  cases hn : elemN n ns with
  | false => rfl
  | true => simp only [cond_true]; exact h n ((elemN_iff n ns).1 hn)
/-- a step, told by what it reads and writes -/
theorem stepR_frame {fx : Nat} {ops : List Oper} {o : Oper} {s s1 : St} {q : Rec} (h : stepR T O fx ops o s s1 q) :
    ∃ v ws, s1 = (s.write ws).put q.d v ∧ freshOk s.us ws = true ∧ q.wk = ws.map (·.n) ∧
      ∀ s', (∀ t, t ∈ q.rd → s'.tm t = s.tm t) → (∀ n, n ∈ q.ns → s'.st n = s.st n) → freshOk s'.us ws = true → stepR T O fx ops o s' ((s'.write ws).put q.d v) q := by
  obtain ⟨hd0, h⟩ := h
  rcases h with ⟨v, ws, g, h1, h2, h3, rfl, h5⟩ | ⟨j, want, d, h1, h2, h3, h4, rfl⟩
  · refine ⟨v, ws, h3, h2, rfl, fun s' ht hn hf => ⟨hd0, .inl ⟨v, ws, g, ?_, hf, rfl, ?_, ?_⟩⟩⟩
    · have e1 := ops_same (o := o) (s := s) (s' := s') fun t hm => ht t (by simp [recOf, hm])
      rw [e1, flatV_same (m := s.st) (m' := s'.st) (fun n hm => hn n hm), rm_same (m := s.st) (m' := s'.st) (ns := (o.op.operands.toList.map s.op).flatMap (namesV s.st)) (fun n hm => hn n hm)]
      exact h1
    · have e1 := ops_same (o := o) (s := s) (s' := s') fun t hm => ht t (by simp [recOf, hm])
      unfold recOf
      rw [e1, flatV_same (m := s.st) (m' := s'.st) (fun n hm => hn n hm)]
    · cases hg : o.guard with
      | none => rw [hg] at h5; exact h5
      | some p =>
        obtain ⟨j, want⟩ := p
        rw [hg] at h5
        obtain ⟨d, h6, h7, h8⟩ := h5
        exact ⟨d, h6, h7, by rw [ht d (by simp [recOf, h7])]; exact h8⟩
  · exact ⟨.tup [], [], h4, rfl, rfl, fun s' ht hn hf => ⟨hd0, .inr ⟨j, want, d, h1, h2, by rw [ht d (by simp)]; exact h3, rfl, rfl⟩⟩⟩
theorem write_tm (ws : List W) : ∀ (s : St), (s.write ws).tm = s.tm ∧ (s.write ws).nt = s.nt := by
  induction ws with
  | nil => intro s; exact ⟨rfl, rfl⟩
  | cons x r ih => intro s; exact ih _
theorem write_ne (ws : List W) : ∀ (s : St) (n : Nat), n ∉ ws.map (·.n) → (s.write ws).st n = s.st n ∧ (s.write ws).us n = s.us n := by
  induction ws with
  | nil => intro s n _; exact ⟨rfl, rfl⟩
  | cons x r ih =>
    intro s n hn
    simp only [List.map_cons, List.mem_cons, not_or] at hn
    obtain ⟨h1, h2⟩ := ih { s with st := upd s.st x.n x.e, us := upd s.us x.n (s.us x.n || x.new) } n hn.2
    exact ⟨h1.trans (upd_ne _ _ hn.1), h2.trans (upd_ne _ _ hn.1)⟩
theorem fresh_congr (ws : List W) : ∀ (u u' : Nat → Bool), (∀ n, n ∈ ws.map (·.n) → u' n = u n) → freshOk u' ws = freshOk u ws := by
  induction ws with
  | nil => intro u u' _; rfl
  | cons x r ih =>
    intro u u' h
    have h1 := h x.n (by simp)
    have h2 : ∀ n, n ∈ r.map (·.n) → u' n = u n := fun n hn => h n (by simp only [List.map_cons, List.mem_cons]; exact .inr hn)
    unfold freshOk
    rw [h1, ih u u' h2, ih (upd u x.n true) (upd u' x.n true) (fun n hn => by
      by_cases e : n = x.n
      · rw [e, upd_at, upd_at]
      · rw [upd_ne _ _ e, upd_ne _ _ e]; exact h2 n hn)]
theorem write_at (ws : List W) : ∀ (s s' : St) (n : Nat), n ∈ ws.map (·.n) → s'.us n = s.us n → (s'.write ws).st n = (s.write ws).st n ∧ (s'.write ws).us n = (s.write ws).us n := by
  induction ws with
  | nil => intro s s' n h; simp at h
  | cons x r ih =>
    intro s s' n hn hu
    show (St.write { s' with st := upd s'.st x.n x.e, us := upd s'.us x.n (s'.us x.n || x.new) } r).st n = (St.write { s with st := upd s.st x.n x.e, us := upd s.us x.n (s.us x.n || x.new) } r).st n ∧ _
    have hu2 : upd s'.us x.n (s'.us x.n || x.new) n = upd s.us x.n (s.us x.n || x.new) n := by
      by_cases e : n = x.n
      · subst e; rw [upd_at, upd_at, hu]
      · rw [upd_ne _ _ e, upd_ne _ _ e]; exact hu
    by_cases hr : n ∈ r.map (·.n)
    · exact ih _ _ n hr hu2
    · have e : n = x.n := by simpa [hr] using hn
      have h1 := write_ne r { s' with st := upd s'.st x.n x.e, us := upd s'.us x.n (s'.us x.n || x.new) } n hr
      have h2 := write_ne r { s with st := upd s.st x.n x.e, us := upd s.us x.n (s.us x.n || x.new) } n hr
      refine ⟨?_, ?_⟩
      · rw [h1.1, h2.1]
        subst e
        simp only [upd_at]
      · exact h1.2.trans (hu2.trans h2.2.symm)
theorem put_st (s : St) (d : Option Nat) (v : AV) : (s.put d v).st = s.st ∧ (s.put d v).us = s.us ∧ (s.put d v).nt = s.nt := by
  cases d with
  | none => exact ⟨rfl, rfl, rfl⟩
  | some d => unfold St.put; dsimp only; cases Nat.blt d s.nt <;> exact ⟨rfl, rfl, rfl⟩
theorem put_tm (s : St) (d : Option Nat) (v : AV) (t : Nat) : (s.put d v).tm t = if d = some t ∧ t < s.nt then v else s.tm t := by
  cases d with
  | none => simp [St.put]
  | some d =>
    unfold St.put
    dsimp only
    by_cases hd : d < s.nt
    · rw [show Nat.blt d s.nt = true by rw [Nat.blt_eq]; exact hd]
      dsimp only [cond_true]
      by_cases e : t = d
      · subst e; simp [upd_at, hd]
      · rw [upd_ne _ _ e]; simp [Ne.symm e]
    · have : Nat.blt d s.nt = false := by
        cases hh : Nat.blt d s.nt with
        | false => rfl
        | true => exact absurd (by rw [Nat.blt_eq] at hh; exact hh) hd
      rw [this]
      dsimp only [cond_false]
      split
      · rename_i hc
        simp only [Option.some.injEq] at hc
        obtain ⟨rfl, hc⟩ := hc
        exact absurd hc hd
      · rfl
theorem meets_iff {l k : List Nat} (h : meets l k = false) : ∀ n, n ∈ l → n ∉ k := by
  have : meets l k = anyN l k := by
    induction l with
    | nil => rfl
    | cons x r ih => 
      unfold meets anyN
      unfold meets at h
      cases hx : elemN x k with
      | true => rfl
      | false => rw [hx] at h; exact ih h
  rw [this] at h
  exact anyN_iff h
theorem dIn_iff {d : Option Nat} {l : List Nat} (h : dIn d l = false) : ∀ t, t ∈ l → d ≠ some t := by
  intro t ht e
  subst e
  have := (elemN_iff t l).2 ht
  unfold dIn at h
  dsimp only at h
  rw [this] at h
  cases h
/-- two steps that do not meet, in the other order -/
theorem stepR_swap {fx : Nat} {ops : List Oper} {o1 o2 : Oper} {s s1 s2 : St} {q1 q2 : Rec} (h1 : stepR T O fx ops o1 s s1 q1) (h2 : stepR T O fx ops o2 s1 s2 q2) (hc : conflict q1 q2 = false) :
    ∃ s', stepR T O fx ops o2 s s' q2 ∧ stepR T O fx ops o1 s' s2 q1 := by
  simp only [conflict, Bool.or_eq_false_iff] at hc
  obtain ⟨c1, c2, c3, c4, c5, c6⟩ := hc
  have c1 := dIn_iff c1
  have c2 := dIn_iff c2
  have c4 := meets_iff c4
  have c5 := meets_iff c5
  have c6 := meets_iff c6
  obtain ⟨v1, ws1, e1, f1, w1, k1⟩ := stepR_frame T O h1
  obtain ⟨v2, ws2, e2, f2, w2, k2⟩ := stepR_frame T O h2
  have st1 : s1.st = (s.write ws1).st := by rw [e1]; exact (put_st _ _ _).1
  have us1 : s1.us = (s.write ws1).us := by rw [e1]; exact (put_st _ _ _).2.1
  have hf2 : freshOk s.us ws2 = true := by
    rw [fresh_congr ws2 s1.us s.us (fun n hn => ?_)]
    · exact f2
    · rw [us1, (write_ne ws1 s n (fun hc => c5 n (by rw [w1]; exact hc) (by rw [w2]; exact hn))).2]
  have a2 := k2 s (fun t ht => by
      rw [e1, put_tm, if_neg (fun hc => c1 t ht hc.1), (write_tm ws1 s).1]) (fun n hn => by
      rw [st1, (write_ne ws1 s n (fun hc => c4 n (by rw [w1]; exact hc) hn)).1]) hf2
  have st2 : ((s.write ws2).put q2.d v2).st = (s.write ws2).st := (put_st _ _ _).1
  have us2 : ((s.write ws2).put q2.d v2).us = (s.write ws2).us := (put_st _ _ _).2.1
  have hd12 : ∀ n, n ∈ ws1.map (·.n) → n ∉ ws2.map (·.n) := fun n hn hn2 => c5 n (by rw [w1]; exact hn) (by rw [w2]; exact hn2)
  have a1 := k1 ((s.write ws2).put q2.d v2) (fun t ht => by
      rw [put_tm, if_neg (fun hc => c2 t ht hc.1), (write_tm ws2 s).1]) (fun n hn => by
      rw [st2, (write_ne ws2 s n (fun hc => c6 n (by rw [w2]; exact hc) hn)).1]) (by
      rw [fresh_congr ws1 s.us _ (fun n hn => ?_)]
      · exact f1
      · rw [us2, (write_ne ws2 s n (hd12 n hn)).2])
  refine ⟨_, a2, ?_⟩
  have e : (((s.write ws2).put q2.d v2).write ws1).put q1.d v1 = s2 := by
    rw [e2]
    have hus : ∀ n, s1.us n = (s.write ws1).us n := fun n => by rw [us1]
    refine st_eq ?_ ?_ ?_ ?_
    · funext t
      rw [put_tm, put_tm, (write_tm ws1 _).1, (write_tm ws1 _).2, (write_tm ws2 _).1, (write_tm ws2 _).2, put_tm, (put_st _ _ _).2.2, (write_tm ws2 _).1, (write_tm ws2 _).2, e1, put_tm, (put_st _ _ _).2.2, (write_tm ws1 _).1, (write_tm ws1 _).2]
      by_cases x1 : q1.d = some t ∧ t < s.nt
      · rw [if_pos x1]
        have x2 : ¬ (q2.d = some t ∧ t < s.nt) := fun x2 => by
          rw [x1.1, x2.1] at c3
          simp [sameD] at c3
        rw [if_neg x2, if_pos x1]
      · rw [if_neg x1]
        by_cases x2 : q2.d = some t ∧ t < s.nt
        · rw [if_pos x2, if_pos x2]
        · rw [if_neg x2, if_neg x2, if_neg x1]
    · rw [(put_st _ _ _).1, (put_st _ _ _).1]
      funext n
      by_cases x1 : n ∈ ws1.map (·.n)
      · rw [(write_at ws1 s ((s.write ws2).put q2.d v2) n x1 (by rw [us2, (write_ne ws2 s n (hd12 n x1)).2])).1, (write_ne ws2 s1 n (hd12 n x1)).1, st1]
      · rw [(write_ne ws1 _ n x1).1, st2]
        by_cases x2 : n ∈ ws2.map (·.n)
        · rw [(write_at ws2 s1 s n x2 (by rw [hus n, (write_ne ws1 s n x1).2])).1]
        · rw [(write_ne ws2 s n x2).1, (write_ne ws2 s1 n x2).1, st1, (write_ne ws1 s n x1).1]
    · rw [(put_st _ _ _).2.1, (put_st _ _ _).2.1]
      funext n
      by_cases x1 : n ∈ ws1.map (·.n)
      · rw [(write_at ws1 s ((s.write ws2).put q2.d v2) n x1 (by rw [us2, (write_ne ws2 s n (hd12 n x1)).2])).2, (write_ne ws2 s1 n (hd12 n x1)).2, us1]
      · rw [(write_ne ws1 _ n x1).2, us2]
        by_cases x2 : n ∈ ws2.map (·.n)
        · rw [(write_at ws2 s1 s n x2 (by rw [hus n, (write_ne ws1 s n x1).2])).2]
        · rw [(write_ne ws2 s n x2).2, (write_ne ws2 s1 n x2).2, us1, (write_ne ws1 s n x1).2]
    · rw [(put_st _ _ _).2.2, (write_tm ws1 _).2, (put_st _ _ _).2.2, (write_tm ws2 _).2, (put_st _ _ _).2.2, (write_tm ws2 _).2, e1, (put_st _ _ _).2.2, (write_tm ws1 _).2]
  rw [e] at a1
  exact a1
end Go.Ev
