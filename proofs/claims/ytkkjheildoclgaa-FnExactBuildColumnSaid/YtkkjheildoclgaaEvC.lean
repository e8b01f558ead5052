/- A text of the claim: an evaluator of Go functions, and why it answers as they do. -/
import Derived.Test.YtkkjheildoclgaaEvB
import Derived.Maps.AppendAt
import Derived.Below
import Derived.OwnWalk
set_option linter.all false
set_option linter.unusedVariables false
set_option linter.unusedSimpArgs false
set_option autoImplicit false
namespace Go.Ev

/-! ### what memory says of data -/
/-- the elements of a row: their cells, one behind the other, and the blocks that they own -/
def All {α : Type} (p : α → List Value → List Nat → Prop) : List α → List Value → List Nat → Prop
  | [], cs, F => cs = [] ∧ F = []
  | x :: r, cs, F => ∃ c1 c2 F1 F2, cs = c1 ++ c2 ∧ F = F1 ++ F2 ∧ p x c1 F1 ∧ All p r c2 F2

theorem All.imp {α : Type} {p q : α → List Value → List Nat → Prop} : ∀ {l : List α} {cs : List Value} {F : List Nat}, (∀ x c G, x ∈ l → (∀ b, b ∈ G → b ∈ F) → p x c G → q x c G) → All p l cs F → All q l cs F
  | [], _, _, _, h => h
  | x :: r, _, _, hi, ⟨c1, c2, F1, F2, e1, e2, h1, h2⟩ =>
    ⟨c1, c2, F1, F2, e1, e2, hi x c1 F1 (by simp) (fun b hb => by rw [e2]; simp [hb]) h1, h2.imp fun y c G hy hG hp => hi y c G (by simp [hy]) (fun b hb => by rw [e2]; simp [hG b hb]) hp⟩
theorem All.len {α : Type} {p : α → List Value → List Nat → Prop} {n : Nat} (hn : ∀ x c G, p x c G → c.length = n) : ∀ {l : List α} {cs : List Value} {F : List Nat}, All p l cs F → cs.length = l.length * n
  | [], _, _, h => by simp [h.1]
  | x :: r, _, _, ⟨c1, c2, F1, F2, e1, e2, h1, h2⟩ => by rw [e1, List.length_append, hn _ _ _ h1, h2.len hn, List.length_cons, Nat.add_mul]; omega
theorem All.app {α : Type} {p : α → List Value → List Nat → Prop} : ∀ {l l' : List α} {cs cs' : List Value} {F F' : List Nat}, All p l cs F → All p l' cs' F' → All p (l ++ l') (cs ++ cs') (F ++ F')
  | [], _, _, _, _, _, h, h' => by rw [h.1, h.2]; exact h'
  | x :: r, _, _, _, _, _, ⟨c1, c2, F1, F2, e1, e2, h1, h2⟩, h' => ⟨c1, _, F1, _, by rw [e1, List.append_assoc], by rw [e2, List.append_assoc], h1, h2.app h'⟩
/-- one element, and what puts another in its place -/
theorem All.focus {α : Type} {p : α → List Value → List Nat → Prop} {n : Nat} (hn : ∀ x c G, p x c G → c.length = n) : ∀ {l : List α} {cs : List Value} {F : List Nat} (i : Nat) (h : i < l.length), All p l cs F →
    ∃ c1 c c2 F1 G F2, cs = c1 ++ c ++ c2 ∧ F = F1 ++ G ++ F2 ∧ c1.length = i * n ∧ p l[i] c G ∧
      ∀ (q : α → List Value → List Nat → Prop) y c' G', (∀ x c H, (∀ b, b ∈ H → b ∈ F1 ∨ b ∈ F2) → p x c H → q x c H) → q y c' G' → All q (l.set i y) (c1 ++ c' ++ c2) (F1 ++ G' ++ F2)
  | [], _, _, i, h, _ => by simp at h
  | x :: r, _, _, 0, _, ⟨c1, c2, F1, F2, e1, e2, h1, h2⟩ => ⟨[], c1, c2, [], F1, F2, by simpa using e1, by simpa using e2, by simp, h1, fun q y c' G' hi hy => ⟨c', c2, G', F2, by simp, by simp, hy, h2.imp fun x c H _ hH hp => hi x c H (fun b hb => .inr (hH b hb)) hp⟩⟩
  | x :: r, _, _, i + 1, h, ⟨c1, c2, F1, F2, e1, e2, h1, h2⟩ => by
    obtain ⟨d1, d, d2, G1, G, G2, e3, e4, e5, h3, h4⟩ := h2.focus hn i (by simpa using h)
    refine ⟨c1 ++ d1, d, d2, F1 ++ G1, G, G2, by rw [e1, e3]; simp, by rw [e2, e4]; simp, by rw [List.length_append, hn _ _ _ h1, e5, Nat.add_mul]; omega, by simpa using h3, fun q y c' G' hi hy => ?_⟩
    refine ⟨c1, d1 ++ c' ++ d2, F1, G1 ++ G' ++ G2, by simp, by simp, hi _ _ _ (fun b hb => .inl (by simp [hb])) h1, ?_⟩
    exact h4 q y c' G' (fun x c H hH hp => hi x c H (fun b hb => by rcases hH b hb with h | h <;> simp [h]) hp) hy

def Cells (w : World) (a : Addr) (cs : List Value) : Prop := ∀ j u, cs[j]? = some u → w.cell? (a.add j) = some u

/-- x, laid out as t, is what the cells say; with d, all that they lead to is owned, by the blocks of F; without, it lies in R -/
def Rp (w : World) (R : Nat → Prop) (d : Bool) : (t : CT) → Den t → List Value → List Nat → Prop
  | .int k, x, cs, F => cs = [.int k x] ∧ F = []
  | .bool, x, cs, F => cs = [.bool x] ∧ F = []
  | .str, x, cs, F => cs = [.string x] ∧ F = []
  | .sl e t, x, cs, F => match d with
    | true => ∃ v ds Fi, cs = [v] ∧ w.ownsRow 0 e t.sz v x.length ds ∧ F = v.ownBlock.toList ++ Fi ∧ All (Rp w R true t) x ds Fi
    | false => ∃ A c ds, cs = [.slice A x.length c] ∧ F = [] ∧ x.length ≤ c ∧ All (Rp w R false t) x ds [] ∧ (ds ≠ [] → ∃ a, A = some a ∧ R a.block ∧ Cells w a ds)
  | .nil, _, cs, F => cs = [] ∧ F = []
  | .cons a b, x, cs, F => ∃ c1 c2 F1 F2, cs = c1 ++ c2 ∧ F = F1 ++ F2 ∧ Rp w R d a x.1 c1 F1 ∧ Rp w R d b x.2 c2 F2

theorem Rp.len {w : World} {R : Nat → Prop} {d : Bool} : ∀ {t : CT} {x : Den t} {cs : List Value} {F : List Nat}, Rp w R d t x cs F → cs.length = t.sz
  | .int _, _, _, _, h => by rw [h.1]; rfl
  | .bool, _, _, _, h => by rw [h.1]; rfl
  | .str, _, _, _, h => by rw [h.1]; rfl
  | .sl e t, x, cs, F, h => by
    cases d
    · obtain ⟨A, c, ds, e, _⟩ := h; rw [e]; rfl
    · obtain ⟨v, ds, Fi, e, _⟩ := h; rw [e]; rfl
  | .nil, _, _, _, h => by rw [h.1]; rfl
  | .cons a b, x, cs, F, ⟨c1, c2, F1, F2, e1, e2, h1, h2⟩ => by rw [e1, List.length_append, h1.len, h2.len]; rfl
theorem Rp.noF {w : World} {R : Nat → Prop} : ∀ {t : CT} {x : Den t} {cs : List Value} {F : List Nat}, Rp w R false t x cs F → F = []
  | .int _, _, _, _, h => h.2
  | .bool, _, _, _, h => h.2
  | .str, _, _, _, h => h.2
  | .sl e t, x, cs, F, ⟨A, c, ds, _, e2, _⟩ => e2
  | .nil, _, _, _, h => h.2
  | .cons a b, x, cs, F, ⟨c1, c2, F1, F2, e1, e2, h1, h2⟩ => by rw [e2, h1.noF, h2.noF]; rfl

theorem ownsRow_same {w w' : World} {e sz n : Nat} {v : Value} {ds : List Value} (h : w.ownsRow 0 e sz v n ds) (hb : ∀ b, b ∈ v.ownBlock.toList → w'.heap[b]? = w.heap[b]?) : w'.ownsRow 0 e sz v n ds := by
  refine ⟨h.1, ?_⟩
  rcases h.2 with h2 | ⟨g, cap, cur, rfl, h3, h4, h5⟩
  · exact .inl h2
  · exact .inr ⟨g, cap, cur, rfl, h3, by rw [hb g (by simp [Value.ownBlock])]; exact h4, h5⟩
theorem Cells.same {w w' : World} {a : Addr} {cs : List Value} (h : Cells w a cs) (hb : w'.heap[a.block]? = w.heap[a.block]?) : Cells w' a cs := by
  intro j u hu
  have hj : (a.add j).block = a.block := by unfold Addr.add; split <;> rfl
  have e : w'.cell? (a.add j) = w.cell? (a.add j) := World.cell?_of_block (by rw [hj]; exact hb)
  rw [e]
  exact h j u hu

/-- what is told stays, where the blocks stay -/
theorem Rp.keep {w w' : World} {R R' : Nat → Prop} {d : Bool} (hR : ∀ b, R b → R' b ∧ w'.heap[b]? = w.heap[b]?) : ∀ {t : CT} {x : Den t} {cs : List Value} {F : List Nat}, (∀ b, b ∈ F → w'.heap[b]? = w.heap[b]?) → Rp w R d t x cs F → Rp w' R' d t x cs F
  | .int _, _, _, _, _, h => h
  | .bool, _, _, _, _, h => h
  | .str, _, _, _, _, h => h
  | .sl e t, x, cs, F, hF, h => by
    cases d
    · obtain ⟨A, c, ds, e1, e2, h1, h2, h3⟩ := h
      refine ⟨A, c, ds, e1, e2, h1, h2.imp fun y c G _ hG hp => hp.keep hR (fun b hb => absurd (hG b hb) (by simp)), fun hd => ?_⟩
      obtain ⟨a, ea, ha, hc⟩ := h3 hd
      exact ⟨a, ea, (hR _ ha).1, hc.same (hR _ ha).2⟩
    · obtain ⟨v, ds, Fi, e1, h1, e2, h2⟩ := h
      exact ⟨v, ds, Fi, e1, ownsRow_same h1 (fun b hb => hF b (by rw [e2]; simp [hb])), e2, h2.imp fun y c G _ hG hp => hp.keep hR (fun b hb => hF b (by rw [e2]; simp [hG b hb]))⟩
  | .nil, _, _, _, _, h => h
  | .cons a b, x, cs, F, hF, ⟨c1, c2, F1, F2, e1, e2, h1, h2⟩ =>
    ⟨c1, c2, F1, F2, e1, e2, h1.keep hR (fun b hb => hF b (by rw [e2]; simp [hb])), h2.keep hR (fun b hb => hF b (by rw [e2]; simp [hb]))⟩

theorem own_imm {w : World} {e sz n : Nat} {v : Value} {ds : List Value} (h : w.ownsRow 0 e sz v n ds) : ∃ A c, v = .slice A n c ∧ n ≤ c ∧ (ds ≠ [] → ∃ a, A = some a ∧ a.block ∈ v.ownBlock.toList ∧ Cells w a ds) := by
  rcases h.2 with ⟨rfl, rfl⟩ | ⟨g, cap, cur, rfl, _, h4, h5, h6, h7, h8⟩
  · refine ⟨none, 0, rfl, Nat.le_refl _, fun hd => absurd (List.eq_nil_of_length_eq_zero (by rw [h.1]; simp)) hd⟩
  · exact ⟨some ⟨g, 0, none⟩, cap, rfl, h5, fun _ => ⟨_, rfl, by simp [Value.ownBlock], fun j u hu => h.cells (g := g) rfl j u hu⟩⟩
/-- what is owned, told as what is only read -/
theorem Rp.freeze {w : World} {R R' : Nat → Prop} (hR : ∀ b, R b → R' b) : ∀ {d : Bool} {t : CT} {x : Den t} {cs : List Value} {F : List Nat}, (∀ b, b ∈ F → R' b) → Rp w R d t x cs F → Rp w R' false t x cs []
  | _, .int _, _, _, _, _, h => ⟨h.1, rfl⟩
  | _, .bool, _, _, _, _, h => ⟨h.1, rfl⟩
  | _, .str, _, _, _, _, h => ⟨h.1, rfl⟩
  | false, .sl e t, x, cs, F, hF, h => by
    have e := Rp.noF h
    subst e
    exact Rp.keep (w' := w) (fun b hb => ⟨hR b hb, rfl⟩) (fun _ _ => rfl) h
  | true, .sl e t, x, cs, F, hF, ⟨v, ds, Fi, e1, h1, e2, h2⟩ => by
    obtain ⟨A, c, rfl, hc, hd⟩ := own_imm h1
    have h3 : ∀ (l : List (Den t)) (ds : List Value) (G : List Nat), (∀ b, b ∈ G → R' b) → All (Rp w R true t) l ds G → All (Rp w R' false t) l ds [] := by
      intro l
      induction l with
      | nil => intro ds G _ h; exact ⟨h.1, rfl⟩
      | cons y r ih =>
        rintro ds G hG ⟨c1, c2, F1, F2, e1, e2, h1, h2⟩
        exact ⟨c1, c2, [], [], e1, rfl, h1.freeze hR (fun b hb => hG b (by rw [e2]; simp [hb])), ih c2 F2 (fun b hb => hG b (by rw [e2]; simp [hb])) h2⟩
    refine ⟨A, c, ds, e1, rfl, hc, h3 x ds Fi (fun b hb => hF b (by rw [e2]; simp [hb])) h2, fun hne => ?_⟩
    obtain ⟨a, ea, hb, hcs⟩ := hd hne
    exact ⟨a, ea, hF _ (by rw [e2]; simp only [List.mem_append]; exact .inl hb), hcs⟩
  | _, .nil, _, _, _, _, h => ⟨h.1, rfl⟩
  | _, .cons a b, x, cs, F, hF, ⟨c1, c2, F1, F2, e1, e2, h1, h2⟩ =>
    ⟨c1, c2, [], [], e1, rfl, h1.freeze hR (fun b hb => hF b (by rw [e2]; simp [hb])), h2.freeze hR (fun b hb => hF b (by rw [e2]; simp [hb]))⟩
theorem All.freeze {w : World} {R R' : Nat → Prop} {d : Bool} {t : CT} (hR : ∀ b, R b → R' b) : ∀ {l : List (Den t)} {ds : List Value} {G : List Nat}, (∀ b, b ∈ G → R' b) → All (Rp w R d t) l ds G → All (Rp w R' false t) l ds []
  | [], _, _, _, h => ⟨h.1, rfl⟩
  | y :: r, ds, G, hG, ⟨c1, c2, F1, F2, e1, e2, h1, h2⟩ =>
    ⟨c1, c2, [], [], e1, rfl, h1.freeze hR (fun b hb => hG b (by rw [e2]; simp [hb])), h2.freeze hR (fun b hb => hG b (by rw [e2]; simp [hb]))⟩
/-- data that lead to nothing: told either way -/
theorem Rp.flatT {w : World} {R : Nat → Prop} {d d' : Bool} : ∀ {t : CT} {x : Den t} {cs : List Value} {F : List Nat}, t.hasSl = false → Rp w R d t x cs F → F = [] ∧ Rp w R d' t x cs []
  | .int _, _, _, _, _, h => ⟨h.2, h.1, rfl⟩
  | .bool, _, _, _, _, h => ⟨h.2, h.1, rfl⟩
  | .str, _, _, _, _, h => ⟨h.2, h.1, rfl⟩
  | .sl e t, _, _, _, ht, _ => by simp [CT.hasSl] at ht
  | .nil, _, _, _, _, h => ⟨h.2, h.1, rfl⟩
  | .cons a b, x, cs, F, ht, ⟨c1, c2, F1, F2, e1, e2, h1, h2⟩ => by
    simp only [CT.hasSl, Bool.or_eq_false_iff] at ht
    obtain ⟨f1, g1⟩ := h1.flatT (d' := d') ht.1
    obtain ⟨f2, g2⟩ := h2.flatT (d' := d') ht.2
    exact ⟨by rw [e2, f1, f2]; rfl, c1, c2, [], [], e1, rfl, g1, g2⟩
theorem All.flatT {w : World} {R : Nat → Prop} {d d' : Bool} {t : CT} (ht : t.hasSl = false) : ∀ {l : List (Den t)} {cs : List Value} {F : List Nat}, All (Rp w R d t) l cs F → F = [] ∧ All (Rp w R d' t) l cs []
  | [], _, _, h => ⟨h.2, h.1, rfl⟩
  | x :: r, cs, F, ⟨c1, c2, F1, F2, e1, e2, h1, h2⟩ => by
    obtain ⟨f1, g1⟩ := h1.flatT (d' := d') ht
    obtain ⟨f2, g2⟩ := All.flatT (d' := d') ht h2
    exact ⟨by rw [e2, f1, f2]; rfl, c1, c2, [], [], e1, rfl, g1, g2⟩
theorem Rp.lt {w : World} {R : Nat → Prop} : ∀ {d : Bool} {t : CT} {x : Den t} {cs : List Value} {F : List Nat}, Rp w R d t x cs F → ∀ b, b ∈ F → b < w.heap.size
  | _, .int _, _, _, _, h => by simp [h.2]
  | _, .bool, _, _, _, h => by simp [h.2]
  | _, .str, _, _, _, h => by simp [h.2]
  | false, .sl e t, x, cs, F, h => by simp [Rp.noF h]
  | true, .sl e t, x, cs, F, ⟨v, ds, Fi, e1, h1, e2, h2⟩ => by
    have h3 : ∀ (l : List (Den t)) (ds : List Value) (G : List Nat), All (Rp w R true t) l ds G → ∀ b, b ∈ G → b < w.heap.size := by
      intro l
      induction l with
      | nil => intro ds G h; simp [h.2]
      | cons y r ih =>
        rintro ds G ⟨c1, c2, F1, F2, e1, e2, h1, h2⟩ b hb
        rw [e2, List.mem_append] at hb
        rcases hb with hb | hb
        · exact h1.lt b hb
        · exact ih c2 F2 h2 b hb
    intro b hb
    rw [e2, List.mem_append] at hb
    rcases hb with hb | hb
    · exact (h1.lt b (by simpa using hb)).2
    · exact h3 x ds Fi h2 b hb
  | _, .nil, _, _, _, h => by simp [h.2]
  | _, .cons a b, x, cs, F, ⟨c1, c2, F1, F2, e1, e2, h1, h2⟩ => by
    intro b hb
    rw [e2, List.mem_append] at hb
    rcases hb with hb | hb
    · exact h1.lt b hb
    · exact h2.lt b hb
theorem All.lt {w : World} {R : Nat → Prop} {d : Bool} {t : CT} : ∀ {l : List (Den t)} {ds : List Value} {G : List Nat}, All (Rp w R d t) l ds G → ∀ b, b ∈ G → b < w.heap.size
  | [], _, _, h => by simp [h.2]
  | y :: r, ds, G, ⟨c1, c2, F1, F2, e1, e2, h1, h2⟩ => by
    intro b hb
    rw [e2, List.mem_append] at hb
    rcases hb with hb | hb
    · exact h1.lt b hb
    · exact h2.lt b hb
end Go.Ev
