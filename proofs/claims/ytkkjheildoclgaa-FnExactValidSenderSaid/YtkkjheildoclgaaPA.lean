/- A text of the claim: plain lemmas of what the functions compute. -/
import Derived.Test.YtkkjheildoclgaaYTyp
set_option linter.all false
set_option linter.unusedVariables false
set_option linter.unusedSimpArgs false
set_option autoImplicit false
set_option linter.unusedVariables false
set_option linter.unusedSimpArgs false
namespace Go.Ev

/-! ### loops -/
theorem rounds_run {H E R : Type} {st : (H → Option R) → (Nat → E → Option R) → H → Option R} {X : Nat → E → Option R} {fuel : Nat} (n : Nat) (φ : Nat → H) (ψ : Nat → Option R) (hn : n < fuel)
    (hs : ∀ i, i < n → ∀ Rc : H → Option R, Rc (φ (i + 1)) = ψ (i + 1) → st Rc X (φ i) = ψ i) (he : ∀ Rc : H → Option R, st Rc X (φ n) = ψ n) : rounds st fuel X (φ 0) = ψ 0 := by
  have go : ∀ d m fuel, m + d = n → d < fuel → rounds st fuel X (φ m) = ψ m := by
    intro d
    induction d with
    | zero =>
      intro m fuel hm hf
      obtain ⟨f, rfl⟩ : ∃ f, fuel = f + 1 := ⟨fuel - 1, by omega⟩
      obtain rfl : m = n := by omega
      exact he _
    | succ d ih =>
      intro m fuel hm hf
      obtain ⟨f, rfl⟩ : ∃ f, fuel = f + 1 := ⟨fuel - 1, by omega⟩
      exact hs m (by omega) _ (ih (m + 1) f (by omega) (by omega))
  exact go n 0 fuel (by omega) hn
theorem rounds_inv {H E R : Type} {st : (H → Option R) → (Nat → E → Option R) → H → Option R} {X : Nat → E → Option R} {fuel : Nat} (n : Nat) (P : Nat → H → Prop) (Q : Option R → Prop) {x0 : H} (hn : n < fuel) (h0 : P 0 x0)
    (hs : ∀ i x, i < n → P i x → ∀ Rc : H → Option R, (∀ y, P (i + 1) y → Q (Rc y)) → Q (st Rc X x)) (he : ∀ x, P n x → ∀ Rc : H → Option R, Q (st Rc X x)) : Q (rounds st fuel X x0) := by
  have go : ∀ d m fuel x, m + d = n → d < fuel → P m x → Q (rounds st fuel X x) := by
    intro d
    induction d with
    | zero =>
      intro m fuel x hm hf hp
      obtain ⟨f, rfl⟩ : ∃ f, fuel = f + 1 := ⟨fuel - 1, by omega⟩
      obtain rfl : m = n := by omega
      exact he x hp _
    | succ d ih =>
      intro m fuel x hm hf hp
      obtain ⟨f, rfl⟩ : ∃ f, fuel = f + 1 := ⟨fuel - 1, by omega⟩
      exact hs m x (by omega) hp _ fun y hy => ih (m + 1) f y (by omega) (by omega) hy
  exact go n 0 fuel x0 (by omega) hn h0

/-! ### numbers -/
theorem wr_i64 (n : Int) (h1 : -9223372036854775808 ≤ n) (h2 : n ≤ 9223372036854775807) : wr .i64 n = n := by
  simp only [wr, IntKind.wrap, IntKind.bits, IntKind.signed]
  simp
  omega
theorem wr_u64 (n : Int) (h1 : 0 ≤ n) (h2 : n ≤ 18446744073709551615) : wr .u64 n = n := by
  simp only [wr, IntKind.wrap, IntKind.bits, IntKind.signed]
  simp
  omega
theorem wr_u8 (n : Int) : wr .u8 n = n % 256 := by
  simp only [wr, IntKind.wrap, IntKind.bits, IntKind.signed]
  simp
theorem big_pos : big = 18446744073709551616 := rfl
theorem ck_true {α : Type} {c : Bool} {k : Option α} (h : c = true) : ck c k = k := by rw [h]; rfl
theorem getD_nat {α : Type} (xs : List α) (i : Nat) (d : α) (h : i < xs.length) : xs.getD (Int.toNat (i : Int)) d = xs[i] := by
  simp [List.getD_eq_getElem?_getD, h]
theorem in_range {α : Type} {xs : List α} {i : Nat} (h : i < xs.length) : (decide (0 ≤ (i : Int)) && decide ((i : Int) < (List.length xs : Int))) = true := by
  simp; omega
theorem gd {α : Type} {xs : List α} {i : Nat} {d : α} (h : i < xs.length) : xs.getD i d = xs[i] := by
  simp [List.getD_eq_getElem?_getD, h]
theorem nn (i : Nat) : decide (0 ≤ (i : Int)) = true := by simp
theorem lt_true {α : Type} {xs : List α} {i : Nat} (h : i < xs.length) : decide ((i : Int) < (List.length xs : Int)) = true := by
  simp; omega
theorem lt_false {α : Type} {xs : List α} {i : Nat} (h : xs.length ≤ i) : decide ((i : Int) < (List.length xs : Int)) = false := by
  simp; omega
theorem wr_succ {i n : Nat} (h : i < n) (hn : n ≤ 9223372036854775807) : wr .i64 ((i : Int) + 1) = ((i + 1 : Nat) : Int) := by
  rw [wr_i64 _ (by omega) (by omega)]; rfl
theorem take_rep_set {α : Type} (xs : List α) (d : α) (i : Nat) (h : i < xs.length) : (xs.take i ++ List.replicate (xs.length - i) d).set i xs[i] = xs.take (i + 1) ++ List.replicate (xs.length - (i + 1)) d := by
  have h1 : xs.length - i = (xs.length - (i + 1)) + 1 := by omega
  rw [h1, List.replicate_succ, List.set_append_right _ _ (by simp; omega)]
  have : i - (xs.take i).length = 0 := by simp; omega
  rw [this, List.set_cons_zero, List.take_succ_eq_append_getElem h, List.append_assoc]
  rfl
/-! ### marks -/
def mkL {α : Type} (f : Int → α → Int × α) : Int → List α → Int × List α
  | k, [] => (k, [])
  | k, x :: r => ((mkL f (f k x).1 r).1, (f k x).2 :: (mkL f (f k x).1 r).2)
theorem mkL_app {α : Type} (f : Int → α → Int × α) : ∀ (k : Int) (xs ys : List α), mkL f k (xs ++ ys) = ((mkL f (mkL f k xs).1 ys).1, (mkL f k xs).2 ++ (mkL f (mkL f k xs).1 ys).2)
  | k, [], ys => rfl
  | k, x :: r, ys => by simp only [List.cons_append, mkL, mkL_app f (f k x).1 r ys]
theorem mkL_len {α : Type} (f : Int → α → Int × α) : ∀ (k : Int) (xs : List α), (mkL f k xs).2.length = xs.length
  | k, [] => rfl
  | k, x :: r => by simp [mkL, mkL_len f _ r]
theorem mkL_take {α : Type} (f : Int → α → Int × α) (k : Int) (xs : List α) (i : Nat) (h : i < xs.length) : mkL f k (xs.take (i + 1)) = ((f (mkL f k (xs.take i)).1 xs[i]).1, (mkL f k (xs.take i)).2 ++ [(f (mkL f k (xs.take i)).1 xs[i]).2]) := by
  rw [List.take_succ_eq_append_getElem h, mkL_app]
  rfl
theorem mkL_get {α : Type} (f : Int → α → Int × α) (k : Int) (xs : List α) (i : Nat) (h : i < xs.length) : (mkL f k xs).2[i]'(by rw [mkL_len]; exact h) = (f (mkL f k (xs.take i)).1 xs[i]).2 := by
  have e : xs = xs.take i ++ (xs[i] :: xs.drop (i + 1)) := by rw [← List.drop_eq_getElem_cons h, List.take_append_drop]
  have h1 : (mkL f k xs).2 = (mkL f k (xs.take i)).2 ++ ((f (mkL f k (xs.take i)).1 xs[i]).2 :: (mkL f (f (mkL f k (xs.take i)).1 xs[i]).1 (xs.drop (i + 1))).2) := by
    conv => lhs; rw [e]
    rw [mkL_app]
    rfl
  have h2 : (mkL f k (xs.take i)).2.length = i := by rw [mkL_len, List.length_take]; omega
  have h3 : (mkL f k xs).2[i]? = some (f (mkL f k (xs.take i)).1 xs[i]).2 := by
    rw [h1, List.getElem?_append_right (by omega), h2]
    simp
  have h4 := List.getElem?_eq_getElem (l := (mkL f k xs).2) (i := i) (by rw [mkL_len]; exact h)
  rw [h4] at h3
  exact Option.some.inj h3
theorem mkL_bd {α : Type} {f : Int → α → Int × α} {c : Nat} : ∀ {k : Int} {xs : List α}, (∀ k x, x ∈ xs → k ≤ (f k x).1 ∧ (f k x).1 ≤ k + c) → k ≤ (mkL f k xs).1 ∧ (mkL f k xs).1 ≤ k + (c * xs.length : Nat)
  | k, [], _ => by simp [mkL]
  | k, x :: r, h => by
    have h1 := h k x (by simp)
    have h2 := mkL_bd (k := (f k x).1) (xs := r) fun k y hy => h k y (by simp [hy])
    simp only [mkL, List.length_cons, Nat.mul_add, Nat.mul_one]
    omega
theorem set_mid {α : Type} (a : List α) (b : List α) (i : Nat) (y : α) (h : i < b.length) (ha : a.length = i) : (a ++ b.drop i).set i y = (a ++ [y]) ++ b.drop (i + 1) := by
  rw [List.drop_eq_getElem_cons h, List.set_append_right _ _ (by omega)]
  rw [show i - a.length = 0 by omega, List.set_cons_zero, List.append_assoc]
  rfl
theorem get_mid {α : Type} (a : List α) (b : List α) (i : Nat) (d : α) (h : i < b.length) (ha : a.length = i) : (a ++ b.drop i).getD (Int.toNat (i : Int)) d = b[i] := by
  rw [List.drop_eq_getElem_cons h]
  simp [List.getD_eq_getElem?_getD, List.getElem?_append_right, ha, h]
theorem len_mid {α : Type} {a : List α} {b : List α} {i : Nat} (h : i ≤ b.length) (ha : a.length = i) : (a ++ b.drop i).length = b.length := by
  simp [ha]; omega
def maxL : Nat := 9223372036854775807
end Go.Ev

