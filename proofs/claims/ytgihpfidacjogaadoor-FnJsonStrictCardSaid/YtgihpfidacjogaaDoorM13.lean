/- A text of the proof of FnJsonStrict: M13. -/
import Derived.Test.YtgihpfidacjogaaDoorM12
set_option linter.unusedVariables false
set_option linter.unusedSimpArgs false
namespace Fw
open Go Go.SL
theorem xor_nn {a b : Int} (ha : 0 ≤ a) (ha' : a < 4611686018427387904) (hb : 0 ≤ b) (hb' : b < 4611686018427387904) : 0 ≤ xor64 a b ∧ xor64 a b < 4611686018427387904 := by
  have e : ∀ x : Int, 0 ≤ x → x < 4611686018427387904 → (BitVec.ofInt IntKind.i64.bits x).toNat = x.toNat := by
    intro x h1 h2
    rw [BitVec.toNat_ofInt]
    show (x % ((2 ^ 64 : Nat) : Int)).toNat = x.toNat
    rw [Int.emod_eq_of_lt h1 (by rw [show ((2 ^ 64 : Nat) : Int) = 18446744073709551616 from rfl]; omega)]
  unfold xor64
  rw [BitVec.toNat_xor, e a ha ha', e b hb hb']
  have h : a.toNat ^^^ b.toNat < 2 ^ 62 := Nat.xor_lt_two_pow (by omega) (by omega)
  have h2 : IntKind.i64.wrap ((a.toNat ^^^ b.toNat : Nat) : Int) = ((a.toNat ^^^ b.toNat : Nat) : Int) := w64s (by omega) (by omega)
  rw [h2]
  omega
theorem tmod_nn {a n : Int} (ha : 0 ≤ a) (hn : 1 ≤ n) : 0 ≤ a.tmod n ∧ a.tmod n < n := ⟨Int.tmod_nonneg _ ha, Int.tmod_lt_of_pos _ (by omega)⟩
theorem rd_in {α : Type} {l : List α} {i : Int} (h : 0 ≤ i) (h2 : i < l.length) : ∃ x, rd l i = some x ∧ x ∈ l := by
  obtain ⟨n, rfl⟩ := Int.eq_ofNat_of_zero_le h
  exact ⟨l[n]'(by omega), rd_lt (by omega), List.getElem_mem _⟩
abbrev rr (b : List UInt8) (p : Nat) : L6Rd := ⟨b, (p : Int)⟩
theorem pick_ok (b : List UInt8) (p : Nat) (n : Int) (hb : b.length ≤ 2000) (hp : p ≤ 1000000000000) : ∃ k, spec_l6Rd_pick (rr b p) n = some (k, rr b (p + 1)) ∧ 0 ≤ k ∧ (1 ≤ n → k < n) := by
  unfold spec_l6Rd_pick rr
  dsimp only
  have ew : w64 ((p : Int) + 1) = ((p + 1 : Nat) : Int) := w64n1 (by omega)
  have ek : w64 (((p + 1 : Nat) : Int) - 1) = (p : Int) := by rw [w64s (by omega) (by omega)]; omega
  rw [ew]
  by_cases h0 : n < 1 ∨ b.length = 0
  · rw [if_pos (by rcases h0 with h | h <;> simp [h])]
    exact ⟨0, rfl, Int.le_refl _, fun h => by omega⟩
  · have hn : 1 ≤ n := by omega
    have hbl : 0 < b.length := by omega
    have hc : (decide (n < 1) || ((b.length : Int) == 0)) = false := Bool.or_eq_false_iff.2 ⟨decide_eq_false (by omega), beq_eq_false_iff_ne.2 (by omega)⟩
    have hn0 : ¬ ((n == 0) = true) := by rw [beq_iff_eq]; omega
    rw [hc, iff_, ek, sb]
    by_cases hk : p < b.length
    · rw [if_pos (by simpa using hk), rd_lt hk, sb, if_neg hn0, sb]
      exact ⟨_, rfl, (tmod_nn (Int.natCast_nonneg _) hn).1, fun _ => (tmod_nn (Int.natCast_nonneg _) hn).2⟩
    · have hz : ¬ (((b.length : Int) == 0) = true) := by rw [beq_iff_eq]; omega
      have hm := tmod_nn (a := (p : Int)) (n := (b.length : Int)) (by omega) (by omega)
      have e7 : w64 ((w64 ((p : Int) * 7)) + 3) = (p : Int) * 7 + 3 := by rw [w64s (x := (p : Int) * 7) (by omega) (by omega), w64s (by omega) (by omega)]
      have hm2 := tmod_nn (a := (p : Int) * 7 + 3) (n := (b.length : Int)) (by omega) (by omega)
      obtain ⟨c1, r1, _⟩ := rd_in (l := b) hm.1 hm.2
      obtain ⟨c2, r2, _⟩ := rd_in (l := b) hm2.1 hm2.2
      rw [if_neg (by simpa using hk), if_neg hz, sb, r1, sb, sb, e7, r2, sb, sb, sb, if_neg hn0, sb]
      have b1 : c1.toNat < 256 := c1.toNat_lt
      have b2 : c2.toNat < 256 := c2.toNat_lt
      have hq : 0 ≤ (p : Int).tdiv (b.length : Int) ∧ (p : Int).tdiv (b.length : Int) ≤ p := ⟨Int.tdiv_nonneg (by omega) (by omega), Int.tdiv_le_self _ (by omega)⟩
      generalize (p : Int).tdiv (b.length : Int) = q at hq
      have eX : w64 ((w64 ((w64 ((w64 ((c1.toNat : Int) * 131)) + (w64 ((c2.toNat : Int) * 1117)))) + (w64 ((p : Int) * 29)))) + (w64 ((w64 q) * 53))) = (c1.toNat : Int) * 131 + (c2.toNat : Int) * 1117 + (p : Int) * 29 + q * 53 := by
        rw [w64s (x := (c1.toNat : Int) * 131) (by omega) (by omega), w64s (x := (c2.toNat : Int) * 1117) (by omega) (by omega), w64s (x := (p : Int) * 29) (by omega) (by omega), w64s (x := q) (by omega) (by omega), w64s (x := q * 53) (by omega) (by omega), w64s (x := (c1.toNat : Int) * 131 + (c2.toNat : Int) * 1117) (by omega) (by omega), w64s (x := (c1.toNat : Int) * 131 + (c2.toNat : Int) * 1117 + (p : Int) * 29) (by omega) (by omega), w64s (by omega) (by omega)]
      rw [eX]
      have hX : 0 ≤ (c1.toNat : Int) * 131 + (c2.toNat : Int) * 1117 + (p : Int) * 29 + q * 53 ∧ (c1.toNat : Int) * 131 + (c2.toNat : Int) * 1117 + (p : Int) * 29 + q * 53 < 4000000000000000 := by omega
      generalize (c1.toNat : Int) * 131 + (c2.toNat : Int) * 1117 + (p : Int) * 29 + q * 53 = X at hX
      have hD : 0 ≤ X.tdiv 64 ∧ X.tdiv 64 ≤ X := ⟨Int.tdiv_nonneg (by omega) (by omega), Int.tdiv_le_self _ (by omega)⟩
      rw [w64s (x := X.tdiv 64) (by omega) (by omega)]
      have hx := xor_nn hX.1 (by omega) hD.1 (by omega)
      exact ⟨_, rfl, (tmod_nn hx.1 hn).1, fun _ => (tmod_nn hx.1 hn).2⟩
theorem of_ok (b : List UInt8) (p : Nat) (l : List Str) (hb : b.length ≤ 2000) (hp : p ≤ 1000000000000) (hl : l ≠ []) : ∃ x, spec_l6Rd_of (rr b p) l = some (x, rr b (p + 1)) ∧ x ∈ l := by
  obtain ⟨k, h1, h2, h3⟩ := pick_ok b p (l.length : Int) hb hp
  have : 0 < l.length := List.length_pos_iff.2 hl
  obtain ⟨x, e1, e2⟩ := rd_in (l := l) h2 (h3 (by omega))
  unfold spec_l6Rd_of
  rw [h1, sb, e1, sb]
  exact ⟨x, rfl, e2⟩
end Fw
