/- A text of the claim: an evaluator of Go functions, and why it answers as they do. -/
import Derived.Test.YtkkjheildoclgaaEvZ
set_option linter.all false
set_option linter.unusedVariables false
set_option linter.unusedSimpArgs false
set_option autoImplicit false
set_option linter.unusedVariables false
namespace Go.Ev
variable {ρ : Type} {P : Program} {T : Tab} {O : Orc} {C : Ctx} {s : St} {a : Act} {w : World} {R : Nat → Prop} {E : Env} {Q : Exit → Act → World → Prop}

theorem getD_set (l : Array Bool) (i j : Nat) (hi : i < l.size) (d : Bool) : (l.setIfInBounds i true).getD j d = if j = i then true else l.getD j d := by
  by_cases h : j = i
  · subst h
    simp [Array.getD, hi]
  · rw [if_neg h]
    simp only [Array.getD_eq_getD_getElem?]
    rw [Array.getElem?_setIfInBounds_ne (by omega)]
theorem mem_ready {full : Array Oper} {listed : Array Bool} {i : Nat} : i ∈ Region.ready .any full listed ↔ ∃ o, full[i]? = some o ∧ listed.getD i true = false ∧ ∀ e, e ∈ o.after.toList → Region.binds .any e = true → listed.getD e.on false = true := by
  unfold Region.ready
  rw [List.mem_filter]
  constructor
  · rintro ⟨h1, h2⟩
    rw [List.mem_range] at h1
    simp only [Bool.and_eq_true, Bool.not_eq_true'] at h2
    have ho : full[i]? = some full[i] := by simp [h1]
    refine ⟨full[i], ho, h2.1, fun e he hb => ?_⟩
    have h3 := h2.2
    rw [ho] at h3
    simp only [Option.map_some, Option.getD_some] at h3
    rw [Array.all_eq_true'] at h3
    have := h3 e (by simpa using he)
    rw [hb] at this
    simpa using this
  · rintro ⟨o, ho, h1, h2⟩
    have hi : i < full.size := by
      rcases Nat.lt_or_ge i full.size with h | h
      · exact h
      · rw [Array.getElem?_eq_none h] at ho; cases ho
    refine ⟨List.mem_range.2 hi, ?_⟩
    rw [h1, ho]
    simp only [Bool.not_false, Bool.true_and, Option.map_some, Option.getD_some]
    rw [Array.all_eq_true']
    intro e he
    cases hb : Region.binds .any e with
    | false => rfl
    | true => simpa using h2 e (by simpa using he) hb

theorem any_wp (hT : TabOK P T) (hO : OrcOK P O) {fx : Nat} {full : Array Oper} {rs : List Rec} (hlen : rs.length = full.size) (hord : ordOk 0 full.toList = true) (hind : indepAll (befs full.toList []) [] 0 rs = true) {s' : St}
    (hQ : ∀ a' w' R' E', Fxd fx C a' → Sim C s' a' w' R' E' → Q .normal a' w') :
    ∀ (fuel : Nat) (L : List Nat) (listed : Array Bool), L.length = fuel → L.Pairwise (· < ·) → (∀ i, i ∈ L → i < full.size) → listed.size = full.size → (∀ i, i < full.size → (listed.getD i true = false ↔ i ∈ L)) →
      (∀ j, j < full.size → j ∉ L → ∀ k, ((befs full.toList []).getD j 0).testBit k = true → k ∉ L) →
      ∀ {s : St} {a : Act} {w : World} {R : Nat → Prop} {E : Env}, Fxd fx C a → Sim C s a w R E → seqI fx T O full rs L s s' → wpAny P .any full Q fuel listed a w := by
  intro fuel
  induction fuel with
  | zero =>
    intro L listed hL _ _ hsz hlist _ s a w R E hfx h hs
    have : L = [] := List.eq_nil_of_length_eq_zero hL
    subst this
    have e : s' = s := hs
    subst e
    refine ⟨?_, hQ _ _ _ _ hfx h⟩
    apply List.eq_nil_iff_forall_not_mem.2
    intro i hi
    obtain ⟨o, ho, h1, _⟩ := mem_ready.1 hi
    have hi : i < full.size := by
      rcases Nat.lt_or_ge i full.size with h | h
      · exact h
      · rw [Array.getElem?_eq_none h] at ho; cases ho
    have := (hlist i hi).1 h1
    simp at this
  | succ fuel ih =>
    intro L listed hL hpw hlt hsz hlist hcl s a w R E hfx h hs
    have gd : ∀ j, j < full.size → listed.getD j false = listed.getD j true := fun j hj => by
      simp [Array.getD, show j < listed.size by omega]
    have onlt : ∀ i o, full[i]? = some o → ∀ e, e ∈ o.after.toList → Region.binds .any e = true → e.on < i := fun i o ho e he hb => by
      have := ord_lt full.toList 0 hord i o (by rw [Array.getElem?_toList]; exact ho) e he hb
      omega
    constructor
    · intro hr
      exfalso
      cases L with
      | nil => simp at hL
      | cons i0 L' =>
        have hi0 := hlt i0 (by simp)
        have ho : full[i0]? = some full[i0] := by simp [hi0]
        have : i0 ∈ Region.ready .any full listed := mem_ready.2 ⟨_, ho, (hlist i0 hi0).2 (by simp), fun e he hb => by
          have h1 := onlt i0 _ ho e he hb
          rw [gd e.on (by omega)]
          cases hg : listed.getD e.on true with
          | true => rfl
          | false =>
            have h2 := (hlist e.on (by omega)).1 hg
            rcases List.mem_cons.1 h2 with h2 | h2
            · omega
            · have := (List.pairwise_cons.1 hpw).1 _ h2
              omega⟩
        rw [hr] at this
        simp at this
    · intro i hi
      obtain ⟨o, ho, h1, h2⟩ := mem_ready.1 hi
      have hin : i < full.size := by
        rcases Nat.lt_or_ge i full.size with h | h
        · exact h
        · rw [Array.getElem?_eq_none h] at ho; cases ho
      have hiL := (hlist i hin).1 h1
      have lk : ∀ k, ((befs full.toList []).getD i 0).testBit k = true → k ∉ L := fun k hk => by
        obtain ⟨e, he, hb, h3⟩ := befs_bit full.toList [] i o (by rw [Array.getElem?_toList]; exact ho) k (by simpa using hk)
        have h4 := onlt i o ho e he hb
        have h5 := h2 e he hb
        have h6 : e.on ∉ L := fun hc => by
          have := (hlist e.on (by omega)).2 hc
          rw [gd e.on (by omega), this] at h5
          cases h5
        rcases h3 with rfl | h3
        · exact h6
        · exact hcl e.on (by omega) h6 k h3
      obtain ⟨A, B, e⟩ := List.append_of_mem hiL
      subst e
      have hAB := List.pairwise_append.1 hpw
      have hcf : ∀ k, k ∈ A → conflict (recA rs k) (recA rs i) = false := fun k hk => by
        have hki : k < i := hAB.2.2 k hk i (by simp)
        have hkn : k < full.size := by omega
        have q1 : rs[k]? = some rs[k] := by simp [hlen, hkn]
        have q2 : rs[i]? = some rs[i] := by simp [hlen, hin]
        have := indepAll_ok _ rs [] hind i _ q2 k _ (by rw [List.nil_append]; exact q1) (by simpa using hki)
        rcases this with h3 | h3
        · exact absurd (List.mem_append.2 (.inl hk)) (lk k (by simpa using h3))
        · unfold recA
          rw [q1, q2]
          exact h3
      obtain ⟨o', s1, ho', hst, hsq⟩ := seqI_front A hs hcf
      rw [ho] at ho'
      injection ho' with ho'
      subst ho'
      refine step_wp hT hO h hfx ho hst fun a' w' R' E' hfx' hs' => ?_
      have hiA : i ∉ A := fun hc => by have := hAB.2.2 i hc i (by simp); omega
      have hiB : i ∉ B := fun hc => by have := (List.pairwise_cons.1 hAB.2.1).1 i hc; omega
      refine ih (A ++ B) (listed.setIfInBounds i true) ?_ ?_ (fun j hj => hlt j ?_) (by simpa using hsz) (fun j hj => ?_) (fun j hj hjL k hk => ?_) hfx' hs' hsq
      · simp only [List.length_append, List.length_cons] at hL ⊢; omega
      · exact List.pairwise_append.2 ⟨hAB.1, (List.pairwise_cons.1 hAB.2.1).2, fun x hx y hy => hAB.2.2 x hx y (by simp [hy])⟩
      · simp only [List.mem_append, List.mem_cons] at hj ⊢
        rcases hj with hj | hj <;> simp [hj]
      · rw [getD_set _ _ _ (by omega)]
        by_cases hji : j = i
        · subst hji
          rw [if_pos rfl]
          simp [hiA, hiB]
        · rw [if_neg hji, hlist j hj]
          simp [hji]
      · by_cases hji : j = i
        · subst hji
          have := lk k hk
          simp only [List.mem_append, List.mem_cons, not_or] at this ⊢
          exact ⟨this.1, this.2.2⟩
        · have := hcl j hj (fun hc => hjL (by
            simp only [List.mem_append, List.mem_cons] at hc ⊢
            rcases hc with hc | hc | hc
            · exact .inl hc
            · exact absurd hc hji
            · exact .inr hc)) k hk
          simp only [List.mem_append, List.mem_cons, not_or] at this ⊢
          exact ⟨this.1, this.2.2⟩
theorem seqR_len {fx : Nat} {ops : List Oper} : ∀ (l : List Oper) (rs : List Rec) {s s' : St}, seqR T O fx ops l rs s s' → rs.length = l.length
  | [], rs, _, _, h => by rw [h.1]; rfl
  | o :: l, _, _, _, ⟨q, rs', s1, e, _, h⟩ => by rw [e, List.length_cons, List.length_cons, seqR_len l rs' h]

theorem stepR_nt {fx : Nat} {ops : List Oper} {o : Oper} {s s1 : St} {q : Rec} (h : stepR T O fx ops o s s1 q) : s1.nt = s.nt := by
  obtain ⟨v, ws, e, _⟩ := stepR_frame T O h
  rw [e, (put_st _ _ _).2.2, (write_tm ws s).2]
theorem seqR_nt {fx : Nat} {ops : List Oper} : ∀ (l : List Oper) (rs : List Rec) {s s' : St}, seqR T O fx ops l rs s s' → s'.nt = s.nt
  | [], rs, _, _, h => by rw [h.2]
  | o :: l, _, _, _, ⟨q, rs', s1, e, h1, h⟩ => (seqR_nt l rs' h).trans (stepR_nt h1)

/-- A REGION -/
theorem region_wp (hm : P.follows .mixedOrders = true) (hT : TabOK P T) (hO : OrcOK P O) {fx : Nat} (hfx : Fxd fx C a) (h : Sim C s a w R E) {id : Nat} {full : Array Oper} {draw : Bool} {K : St → Option ρ} {r : ρ}
    (hK : (bif draw then evalOpsR T O fx full.toList full.toList s [] (fun s rs => bif ordOk 0 full.toList && indepAll (befs full.toList []) [] 0 rs then K s else none) else evalOps T O fx full.toList full.toList s K) = some r)
    (hQ : ∀ s' a' w' R' E', s'.nt = s.nt → Fxd fx C a' → K s' = some r → Sim C s' a' w' R' E' → Q .normal a' w') : (Code.region id full draw).wp P Q a w := by
  cases draw with
  | false => exact wp_region (ops_wp hT hO hQ full.toList (List.range full.size) (range_l2 full) rfl hfx h hK)
  | true =>
    obtain ⟨rs, s', hs, hK'⟩ := evalOpsR_seq T O _ _ _ hK
    rw [List.nil_append] at hK'
    obtain ⟨hb, hK'⟩ := bif_some hK'
    rw [Bool.and_eq_true] at hb
    have hlen := seqR_len _ _ hs
    have hI := seqI_of (rs := rs) full.toList 0 rs (fun j => by simp) (fun j => by simp) hs
    refine wp_region_any hm (any_wp hT hO (by rw [hlen]; simp) hb.1 hb.2 (fun a' w' R' E' hf' hs' => hQ s' a' w' R' E' (seqR_nt _ _ hs) hf' hK' hs') full.size (List.range' 0 full.toList.length) _ (by simp) List.pairwise_lt_range' (fun i hi => ?_) (by simp) (fun i hi => ?_) (fun j hj hjL => ?_) hfx (h.drew _) hI)
    · have := List.mem_range'_1.1 hi
      simpa using this.2
    · constructor
      · intro _; exact List.mem_range'_1.2 ⟨Nat.zero_le _, by simpa using hi⟩
      · intro _; simp [Array.getD, hi]
    · exact absurd (List.mem_range'_1.2 ⟨Nat.zero_le _, by simpa using hj⟩) hjL
end Go.Ev
