/- Plain facts on the words of the typed functions. -/
import Derived.Test.YtgihpfidacjogaaDoorSlU
set_option linter.unusedVariables false
set_option linter.unusedSimpArgs false
namespace Fw
open Go Go.SL
theorem sb {α β : Type} (x : α) (f : α → Option β) : (some x >>= f) = f x := rfl
theorem ift {α : Type} (x y : α) : (if true = true then x else y) = x := rfl
theorem iff_ {α : Type} (x y : α) : (if false = true then x else y) = y := rfl
theorem w64s {x : Int} (h1 : -4611686018427387904 ≤ x) (h2 : x ≤ 4611686018427387904) : w64 x = x := w64_in (by omega) (by omega)
theorem w64n {n : Nat} (h : n ≤ 4611686018427387904) : w64 (n : Int) = n := w64s (by omega) (by omega)
theorem w64n1 {n : Nat} (h : n < 4611686018427387904) : w64 ((n : Int) + 1) = ((n + 1 : Nat) : Int) := by rw [w64s (by omega) (by omega)]; rfl
theorem rdN {α : Type} {l : List α} {i : Nat} : rd l (i : Int) = l[i]? := by simp [rd]
theorem rd_lt {α : Type} {l : List α} {i : Nat} (h : i < l.length) : rd l (i : Int) = some l[i] := by rw [rdN]; simp [h]
theorem drop_lt {α : Type} {l : List α} {i : Nat} (h : i < l.length) : l.drop i = l[i] :: l.drop (i + 1) := List.drop_eq_getElem_cons h
theorem cutN {α : Type} {l : List α} {a b : Nat} (h : a ≤ b) (hb : b ≤ l.length) : cut l (a : Int) (b : Int) = some ((l.drop a).take (b - a)) := by
  unfold cut
  rw [if_pos ⟨by omega, by omega, by omega⟩, show ((b : Int) - (a : Int)).toNat = b - a by omega, Int.toNat_natCast]
theorem cutE {α : Type} {l : List α} {a : Nat} (h : a ≤ l.length) : cut l (a : Int) (l.length : Int) = some (l.drop a) := by
  rw [cutN h (Nat.le_refl _), List.take_of_length_le (by simp)]
theorem cut0 {α : Type} {l : List α} {b : Nat} (h : b ≤ l.length) : cut l 0 (b : Int) = some (l.take b) := by
  have := cutN (l := l) (a := 0) (b := b) (Nat.zero_le _) h
  simpa using this
theorem cat_ok {a b : List UInt8} (h : a.length + b.length ≤ 4611686018427387904) : cat a b = some (a ++ b) := by
  unfold cat; rw [if_pos (by omega)]
theorem apd_ok {α : Type} {n : Nat} {a b : List α} (h : (a.length + b.length) * n ≤ 140737488355328) : apd n a b = some (a ++ b) := by
  unfold apd; rw [if_pos h]
theorem len_lt {α : Type} {l : List α} {i : Nat} : (decide ((i : Int) < (l.length : Int))) = decide (i < l.length) := by
  rw [decide_eq_decide]; omega
theorem nb {x : Bool} (h : (!x) = false) : x = true := by cases x <;> simp_all
theorem nbf {x : Bool} (h : (!x) = true) : ¬ x = true := by cases x <;> simp_all
theorem optmap {α β : Type} {o : Option α} {x : α} (h : o = some x) (f : α → Option β) : (o >>= f) = f x := by rw [h]; rfl

/-- A loop over places: what it answers from place i on, by the rest. -/
theorem scan {α β : Type} (l : List α) (F : Int → Option β) (R : List α → β) (h0 : F (l.length : Int) = some (R []))
    (h1 : ∀ (i : Nat) (h : i < l.length), F ((i + 1 : Nat) : Int) = some (R (l.drop (i + 1))) → F (i : Int) = some (R (l[i] :: l.drop (i + 1)))) : ∀ i : Nat, i ≤ l.length → F (i : Int) = some (R (l.drop i)) := by
  intro i hi
  generalize hn : l.length - i = n
  induction n generalizing i with
  | zero =>
    have : i = l.length := by omega
    subst this
    rw [List.drop_length]
    exact h0
  | succ n ih =>
    have h : i < l.length := by omega
    rw [drop_lt h]
    exact h1 i h (ih (i + 1) (by omega) (by omega))
theorem len_ge {α : Type} {l : List α} : (decide ((l.length : Int) < (l.length : Int))) = false := by simp
theorem len_t {α : Type} {l : List α} {i : Nat} (h : i < l.length) : (decide ((i : Int) < (l.length : Int))) = true := by rw [len_lt]; simpa using h
theorem down {n : Nat} {P : Nat → Prop} (h0 : P n) (h1 : ∀ i, i < n → P (i + 1) → P i) : ∀ i, i ≤ n → P i := by
  intro i hi
  generalize hk : n - i = k
  induction k generalizing i with
  | zero => have : i = n := by omega
            subst this; exact h0
  | succ k ih => exact h1 i (by omega) (ih (i + 1) (by omega) (by omega))
/-- p at all places from i on -/
def allF (p : Nat → Bool) (n i : Nat) : Bool := decide (∀ j, j < n → i ≤ j → p j = true)
theorem allF_end {p : Nat → Bool} {n : Nat} : allF p n n = true := by
  unfold allF; simp; intro j h1 h2; omega
theorem allF_step {p : Nat → Bool} {n i : Nat} (h : i < n) : allF p n i = (p i && allF p n (i + 1)) := by
  unfold allF
  rw [Bool.eq_iff_iff]
  simp only [decide_eq_true_eq, Bool.and_eq_true]
  constructor
  · intro hp; exact ⟨hp i h (Nat.le_refl _), fun j h1 h2 => hp j h1 (by omega)⟩
  · rintro ⟨h1, h2⟩ j hj hij
    by_cases e : i = j
    · subst e; exact h1
    · exact h2 j hj (by omega)
theorem allF_iff {p : Nat → Bool} {n i : Nat} : allF p n i = true ↔ ∀ j, j < n → i ≤ j → p j = true := by unfold allF; simp
theorem allF_congr {p q : Nat → Bool} {n i : Nat} (h : ∀ j, j < n → p j = q j) : allF p n i = allF q n i := by
  rw [Bool.eq_iff_iff, allF_iff, allF_iff]
  exact ⟨fun hp j h1 h2 => by rw [← h j h1]; exact hp j h1 h2, fun hp j h1 h2 => by rw [h j h1]; exact hp j h1 h2⟩
theorem getD_lt {α : Type} {l : List α} {i : Nat} {d : α} (h : i < l.length) : l.getD i d = l[i] := by simp [List.getD_eq_getElem?_getD, h]
end Fw
