/- A text of the claim: plain lemmas of what the functions compute. -/
import Derived.Test.YtkkjheildoclgaaPC
set_option linter.all false
set_option linter.unusedVariables false
set_option linter.unusedSimpArgs false
set_option autoImplicit false
set_option linter.unusedVariables false
set_option linter.unusedSimpArgs false
namespace Go.Ev
/-! ### weights -/
theorem bind_of {α β : Type} {o : Option α} {a : α} {K : α → Option β} {z : Option β} (h : o = some a) (k : K a = z) : o.bind K = z := by rw [h]; exact k
def szP (w : Nat) (n : Int) : Int := if n < (w : Int) then -1 else n - w
theorem szP_lt {w : Nat} {n : Int} (h : n < (w : Int)) : szP w n = -1 := if_pos h
theorem szP_ge {w : Nat} {n : Int} (h : (w : Int) ≤ n) : szP w n = n - w := if_neg (by omega)
def wL {α : Type} (f : α → Nat) : List α → Nat
  | [] => 0
  | x :: r => 1 + f x + wL f r
theorem wL_app {α : Type} (f : α → Nat) : ∀ (xs ys : List α), wL f (xs ++ ys) = wL f xs + wL f ys
  | [], ys => by simp [wL]
  | x :: xs, ys => by simp only [List.cons_append, wL, wL_app f xs ys]; omega
theorem wL_len {α : Type} (f : α → Nat) : ∀ (xs : List α), xs.length ≤ wL f xs
  | [] => Nat.le_refl _
  | x :: r => by have := wL_len f r; simp only [List.length_cons, wL]; omega
theorem wL_mem {α : Type} (f : α → Nat) : ∀ (xs : List α) (e : α), e ∈ xs → f e ≤ wL f xs
  | [], e, h => by simp at h
  | x :: r, e, h => by
    rw [List.mem_cons] at h
    rcases h with rfl | h
    · simp only [wL]; omega
    · have := wL_mem f r e h; simp only [wL]; omega
theorem wL_sum {α : Type} (f : α → Nat) (xs : List α) (i : Nat) (h : i < xs.length) : wL f (xs.take (i + 1)) = wL f (xs.take i) + (1 + f xs[i]) := by
  rw [List.take_succ_eq_append_getElem h, wL_app]; simp [wL]
def wByteS (xs : List Int) : Nat := xs.length
def bByteS (xs : List Int) : Prop := xs.length ≤ maxL
theorem wL_take {α : Type} (f : α → Nat) (xs : List α) (i : Nat) (h : i < xs.length) : wL f (xs.take (i + 1)) = wL f (xs.take i) + (1 + f xs[i]) := wL_sum f xs i h
theorem wL_le {α : Type} (f : α → Nat) (xs : List α) (i : Nat) (h : i ≤ xs.length) : wL f (xs.take i) + (xs.length - i) ≤ wL f xs := by
  have e : wL f xs = wL f (xs.take i) + wL f (xs.drop i) := by rw [← wL_app, List.take_append_drop]
  have := wL_len f (xs.drop i)
  rw [List.length_drop] at this
  omega
theorem ByteS_sz (a : List Int) (n : Int) (ha : bByteS a) (h0 : 0 ≤ n) (hn : n ≤ 1048576) : L.szByteS (a, n, ()) = some (szP (wByteS a) n, ((), (), ())) := by
  unfold bByteS maxL at ha
  unfold L.szByteS wByteS
  dsimp only
  rw [wr_i64 _ (by omega) (by omega)]
  by_cases h : n - (a.length : Int) < 0
  · rw [szP_lt (by omega)]; simp [h]
  · rw [szP_ge (by omega)]; simp [h]
theorem ByteS_to (xs : List Int) (h : wByteS xs ≤ 1048576) : L.toByteS (xs, ()) = some (xs, ((), ())) := toByteS_ok xs h
theorem ByteS_eq (xs : List Int) (h : bByteS xs) : L.eqByteS (xs, xs, ()) = some (true, ((), (), ())) := eqByteS_ok xs h
end Go.Ev

