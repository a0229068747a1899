/- A text of the proof of FnJsonStrict: M14. -/
import Derived.Test.YtgihpfidacjogaaDoorM13
set_option linter.unusedVariables false
set_option linter.unusedSimpArgs false
namespace Fw
open Go Go.SL
theorem many_l0 : ∀ (f n : Nat), n < 2 ^ f → n ≤ 1000 → ∀ s out : Str, out.length + s.length * n ≤ 1000000000 → ∃ r, spec_l6Many_l0 s (n : Int) out = some r ∧ r.length ≤ out.length + s.length * n := by
  intro f
  induction f with
  | zero =>
    intro n hn _ s out h
    have : n = 0 := by simp at hn; omega
    subst this
    rw [spec_l6Many_l0, if_neg (by simp)]
    exact ⟨out, rfl, by simp⟩
  | succ f ih =>
    intro n hn hn' s out h
    rw [spec_l6Many_l0]
    by_cases h0 : 0 < n
    · have hm : s.length * 1 ≤ s.length * n := Nat.mul_le_mul_left _ h0
      have e1 : (n : Int).tmod 2 = ((n % 2 : Nat) : Int) := by rw [Int.tmod_eq_emod_of_nonneg (by omega)]; omega
      have e2 : w64 ((n : Int).tdiv 2) = ((n / 2 : Nat) : Int) := by
        rw [Int.tdiv_eq_ediv_of_nonneg (by omega), w64s (by omega) (by omega)]; omega
      have hpow : n / 2 < 2 ^ f := by rw [Nat.pow_succ] at hn; omega
      have hd : n = 2 * (n / 2) + n % 2 := by omega
      have hmul : s.length * n = 2 * (s.length * (n / 2)) + s.length * (n % 2) := by
        conv => lhs; rw [hd]
        rw [Nat.mul_add, Nat.mul_left_comm]
      rw [if_pos (by simpa using h0), e1]
      have hs2 : (s ++ s).length * (n / 2) = 2 * (s.length * (n / 2)) := by rw [List.length_append, Nat.add_mul, Nat.two_mul]
      rcases Nat.mod_two_eq_zero_or_one n with h2 | h2
      · rw [h2] at hmul ⊢
        rw [if_neg (by simp), sb, cat_ok (by omega), sb, e2, sb]
        obtain ⟨r, r1, r2⟩ := ih (n / 2) hpow (by omega) (s ++ s) out (by rw [hs2]; omega)
        exact ⟨r, r1, by rw [hs2] at r2; omega⟩
      · rw [h2] at hmul ⊢
        rw [if_pos (by simp), cat_ok (by omega), sb, sb, cat_ok (by omega), sb, e2, sb]
        obtain ⟨r, r1, r2⟩ := ih (n / 2) hpow (by omega) (s ++ s) (out ++ s) (by rw [hs2, List.length_append]; omega)
        exact ⟨r, r1, by rw [hs2, List.length_append] at r2; omega⟩
    · rw [if_neg (by simp; omega)]
      exact ⟨out, rfl, by omega⟩
theorem many_ok (s : Str) (n : Nat) (hn : n ≤ 1000) (hs : s.length ≤ 1000) : ∃ r, spec_l6Many s (n : Int) = some r ∧ r.length ≤ s.length * n := by
  have : s.length * n ≤ 1000 * 1000 := Nat.mul_le_mul hs hn
  obtain ⟨r, h1, h2⟩ := many_l0 10 n (by omega) hn s [] (by simp; omega)
  unfold spec_l6Many
  rw [h1, sb]
  exact ⟨r, rfl, by simpa using h2⟩
/-! ### Schemas that are drawn -/
def okS : Nat → Schema → Prop
  | 0, _ => False
  | d + 1, s => 1 ≤ s.Kind ∧ s.Kind ≤ 8 ∧ 0 ≤ s.Min ∧ s.Min ≤ s.Max ∧ s.Max ≤ 4 ∧ (s.Kind = 8 → s.Names ≠ []) ∧ (s.Kind = 7 ∨ s.Kind = 5 → s.Kids ≠ []) ∧ (s.Kind = 6 → s.Must.length = s.Names.length ∧ s.Kids.length = s.Names.length) ∧ s.Names.length ≤ 3 ∧ ∀ k ∈ s.Kids, okS d k
theorem p20 (d : Nat) : 1 ≤ 20 ^ d := Nat.one_le_pow _ _ (by omega)
theorem head_ok (b : List UInt8) (hb : b.length ≤ 2000) (D : Nat) (p : Nat) (k : Int) (hp : p ≤ 1000000000) (h1 : 1 ≤ k) (h2 : k ≤ 8) : ∃ (k' : Int) (p1 : Nat), (if (((decide ((D : Int) < 2)) && (decide (5 ≤ k))) && (decide (k ≤ 7))) = true then
  spec_l6Rd_pick (rr b p) 4 >>= fun r2 =>
  some (w64 (1 + r2.1)) >>= fun k_2 =>
  some (k_2, r2.2.b, r2.2.p)
  else
  some (k, (rr b p).b, (rr b p).p)) = some (k', b, (p1 : Int)) ∧ 1 ≤ k' ∧ k' ≤ 8 ∧ p ≤ p1 ∧ p1 ≤ p + 1 ∧ (D < 2 → k' ≤ 4 ∨ k' = 8) := by
  by_cases h : D < 2 ∧ 5 ≤ k ∧ k ≤ 7
  · obtain ⟨x, x1, x2, x3⟩ := pick_ok b p 4 hb (by omega)
    have := x3 (by omega)
    rw [if_pos (by simp; omega), x1, sb, sb, w64s (by dsimp only; omega) (by dsimp only; omega)]
    exact ⟨1 + x, p + 1, rfl, by omega, by omega, by omega, by omega, fun _ => by omega⟩
  · rw [if_neg (by simp; omega)]
    exact ⟨k, p, rfl, h1, h2, by omega, by omega, fun _ => by omega⟩
/-- A drawn schema, the recursion given. -/
theorem schema_step (b : List UInt8) (hb : b.length ≤ 2000) (d : Nat) (hd : d ≤ 3) (p : Nat) (hp : p + 20 ^ (d + 1) ≤ 1000000000)
    (ih : 1 ≤ d → ∀ p, p + 20 ^ d ≤ 1000000000 → ∃ s p', spec_l71Schema (rr b p) (w64 (((d + 1 : Nat) : Int) - 1)) = some (s, rr b p') ∧ okS d s ∧ p ≤ p' ∧ p' ≤ p + 20 ^ d)
    (hl1 : 1 ≤ d → ∀ n : Nat, n ≤ 3 → ∀ p, p + n * (1 + 20 ^ d) ≤ 1000000000 → ∃ p' o1' o2' o3', spec_l71Schema_l1 ((d + 1 : Nat) : Int) (n : Int) b (p : Int) [] [] [] = some (b, ((p' : Nat) : Int), o1', o2', o3') ∧ o2'.length = o1'.length ∧ o3'.length = o1'.length ∧ o1'.length ≤ 3 ∧ (∀ x ∈ o3', okS d x) ∧ p ≤ p' ∧ p' ≤ p + n * (1 + 20 ^ d)) :
    ∃ s p', spec_l71Schema (rr b p) ((d + 1 : Nat) : Int) = some (s, rr b p') ∧ okS (d + 1) s ∧ p ≤ p' ∧ p' ≤ p + 20 ^ (d + 1) := by
  have h20 := p20 d
  have ep : 20 ^ (d + 1) = 20 * 20 ^ d := by rw [Nat.pow_succ]; omega
  obtain ⟨x, x1, x2, x3⟩ := pick_ok b p 8 hb (by omega)
  have := x3 (by omega)
  obtain ⟨k, p1, e, k1, k2, a1, a2, a3⟩ := head_ok b hb (d + 1) (p + 1) (1 + x) (by omega) (by omega) (by omega)
  rw [spec_l71Schema, x1, sb, w64s (x := 1 + (x, rr b (p + 1)).1) (by dsimp only; omega) (by dsimp only; omega), sb]
  have e' := e
  dsimp only at e' ⊢
  rw [e', sb]
  dsimp only
  by_cases k4 : k = 4
  · obtain ⟨y, y1, y2, y3⟩ := pick_ok b p1 3 hb (by omega)
    obtain ⟨z, z1, z2, z3⟩ := pick_ok b (p1 + 1) 3 hb (by omega)
    have := y3 (by omega); have := z3 (by omega)
    subst k4
    rw [if_pos (by decide), show L6Rd.mk b (p1 : Int) = rr b p1 from rfl, y1, sb, z1, sb, sb, w64s (by dsimp only; omega) (by dsimp only; omega)]
    exact ⟨_, p1 + 1 + 1, rfl, ⟨by simp, by simp, by simp; omega, by simp; omega, by simp; omega, by simp, by simp, by simp, by simp, by simp⟩, by omega, by omega⟩
  rw [if_neg (by simpa using k4)]
  by_cases k5 : k = 5
  · have hd1 : 1 ≤ d := by rcases Nat.eq_zero_or_pos d with h | h; (have := a3 (by omega); omega); exact h
    obtain ⟨y, y1, y2, y3⟩ := pick_ok b p1 3 hb (by omega)
    obtain ⟨z, z1, z2, z3⟩ := pick_ok b (p1 + 1) 3 hb (by omega)
    have := y3 (by omega); have := z3 (by omega)
    obtain ⟨s, p3, s1, s2, s3, s4⟩ := ih hd1 (p1 + 1 + 1) (by omega)
    subst k5
    rw [if_pos (by decide), show L6Rd.mk b (p1 : Int) = rr b p1 from rfl, y1, sb, z1, sb, s1, sb, sb, w64s (by dsimp only; omega) (by dsimp only; omega)]
    exact ⟨_, p3, rfl, ⟨by simp, by simp, by simp; omega, by simp; omega, by simp; omega, by simp, by simp, by simp, by simp, by simpa using s2⟩, by omega, by omega⟩
  rw [if_neg (by simpa using k5)]
  by_cases k6 : k = 6
  · have hd1 : 1 ≤ d := by rcases Nat.eq_zero_or_pos d with h | h; (have := a3 (by omega); omega); exact h
    obtain ⟨y, y1, y2, y3⟩ := pick_ok b p1 4 hb (by omega)
    have := y3 (by omega)
    obtain ⟨n, rfl⟩ := Int.eq_ofNat_of_zero_le y2
    have hn : n * (1 + 20 ^ d) ≤ 3 * (1 + 20 ^ d) := Nat.mul_le_mul_right _ (by omega)
    obtain ⟨p', o1, o2, o3, q1, q2, q3, q4, q5, q6, q7⟩ := hl1 hd1 n (by omega) (p1 + 1) (by omega)
    subst k6
    rw [if_pos (by decide), show L6Rd.mk b (p1 : Int) = rr b p1 from rfl, y1, sb]
    dsimp only at q1 ⊢
    rw [q1, sb, sb]
    exact ⟨_, p', rfl, ⟨by simp, by simp, by simp, by simp, by simp, by simp, by simp, fun _ => ⟨q2, q3⟩, q4, q5⟩, by omega, by omega⟩
  rw [if_neg (by simpa using k6)]
  by_cases k7 : k = 7
  · have hd1 : 1 ≤ d := by rcases Nat.eq_zero_or_pos d with h | h; (have := a3 (by omega); omega); exact h
    obtain ⟨s, p3, s1, s2, s3, s4⟩ := ih hd1 p1 (by omega)
    obtain ⟨t, p4, t1, t2, t3, t4⟩ := ih hd1 p3 (by omega)
    subst k7
    rw [if_pos (by decide), show L6Rd.mk b (p1 : Int) = rr b p1 from rfl, s1, sb, t1, sb, sb]
    refine ⟨_, p4, rfl, ⟨by simp, by simp, by simp, by simp, by simp, by simp, by simp, by simp, by simp, fun x hx => ?_⟩, by omega, by omega⟩
    simp only [List.mem_cons, List.not_mem_nil, or_false] at hx
    rcases hx with rfl | rfl
    · exact s2
    · exact t2
  rw [if_neg (by simpa using k7)]
  by_cases k8 : k = 8
  · obtain ⟨y, y1, y2, y3⟩ := pick_ok b p1 3 hb (by omega)
    have := y3 (by omega)
    obtain ⟨l, l1, l2⟩ := rd_in (l := ([[[121, 101, 115], [110, 111]], [[97, 98], [97, 98, 99], []], [[120]]] : List (List Str))) y2 (by simp <;> omega)
    have hl : l ≠ [] ∧ l.length ≤ 3 := by
      simp only [List.mem_cons, List.not_mem_nil, or_false] at l2
      rcases l2 with rfl | rfl | rfl <;> simp
    subst k8
    rw [if_pos (by decide), show L6Rd.mk b (p1 : Int) = rr b p1 from rfl, y1, sb]
    dsimp only at l1 ⊢
    rw [l1, sb, sb]
    exact ⟨_, p1 + 1, rfl, ⟨by simp, by simp, by simp, by simp, by simp, fun _ => hl.1, by simp, by simp, hl.2, by simp⟩, by omega, by omega⟩
  rw [if_neg (by simpa using k8), sb]
  exact ⟨_, p1, rfl, ⟨k1, k2, by simp, by simp, by simp, fun h => absurd h k8, fun h => by rcases h with h | h; exact absurd h k7; exact absurd h k5, fun h => absurd h k6, by simp, by simp⟩, by omega, by omega⟩
theorem schema_ok (b : List UInt8) (hb : b.length ≤ 2000) : ∀ d, d ≤ 3 → ∀ p, p + 20 ^ (d + 1) ≤ 1000000000 → ∃ s p', spec_l71Schema (rr b p) ((d + 1 : Nat) : Int) = some (s, rr b p') ∧ okS (d + 1) s ∧ p ≤ p' ∧ p' ≤ p + 20 ^ (d + 1) := by
  intro d
  induction d with
  | zero => exact fun _ p hp => schema_step b hb 0 (by omega) p hp (fun h => by omega) (fun h => by omega)
  | succ d ih =>
    intro hd p hp
    have h20 := p20 d
    have ep : 20 ^ (d + 1 + 1) = 20 * 20 ^ (d + 1) := by rw [Nat.pow_succ]; omega
    have ep' : 20 ^ (d + 1) = 20 * 20 ^ d := by rw [Nat.pow_succ]; omega
    have edd : w64 (((d + 1 + 1 : Nat) : Int) - 1) = ((d + 1 : Nat) : Int) := by rw [w64s (by omega) (by omega)]; omega
    have hl1 : ∀ n : Nat, n ≤ 3 → ∀ (p : Nat) (o1 : List Str) (o2 : List Bool) (o3 : List Schema), p + n * (1 + 20 ^ (d + 1)) ≤ 1000000000 → o2.length = o1.length → o3.length = o1.length → o1.length + n ≤ 3 → (∀ x ∈ o3, okS (d + 1) x) →
        ∃ p' o1' o2' o3', spec_l71Schema_l1 ((d + 1 + 1 : Nat) : Int) (n : Int) b (p : Int) o1 o2 o3 = some (b, ((p' : Nat) : Int), o1', o2', o3') ∧ o2'.length = o1'.length ∧ o3'.length = o1'.length ∧ o1'.length ≤ 3 ∧ (∀ x ∈ o3', okS (d + 1) x) ∧ p ≤ p' ∧ p' ≤ p + n * (1 + 20 ^ (d + 1)) := by
      intro n
      induction n with
      | zero =>
        intro _ p o1 o2 o3 _ h2 h3 h1 h4
        rw [spec_l71Schema_l1, if_neg (by simp)]
        exact ⟨p, o1, o2, o3, rfl, h2, h3, by omega, h4, Nat.le_refl _, by omega⟩
      | succ n ihn =>
        intro hn p o1 o2 o3 hp h2 h3 h1 h4
        have em : (n + 1) * (1 + 20 ^ (d + 1)) = n * (1 + 20 ^ (d + 1)) + (1 + 20 ^ (d + 1)) := by rw [Nat.succ_mul]
        obtain ⟨x, x1, _⟩ := rd_in (l := ([[97], [98, 98], [99, 99, 99], [100, 100]] : List Str)) (i := ((n + 1 : Nat) : Int)) (by omega) (by simp <;> omega)
        obtain ⟨k, k1, _, _⟩ := pick_ok b p 2 hb (by omega)
        obtain ⟨s, p2, s1, s2, s3, s4⟩ := ih (by omega) (p + 1) (by omega)
        obtain ⟨p', a, c, e, q1, q2, q3, q4, q5, q6, q7⟩ := ihn (by omega) p2 (o1 ++ [x]) (o2 ++ [k == 0]) (o3 ++ [s]) (by omega) (by simp; omega) (by simp; omega) (by simp; omega) (fun y hy => by
          rcases List.mem_append.1 hy with h | h
          · exact h4 y h
          · rw [List.mem_singleton.1 h]; exact s2)
        have en : w64 (((n + 1 : Nat) : Int) - 1) = (n : Int) := by rw [w64s (by omega) (by omega)]; omega
        rw [spec_l71Schema_l1, if_pos (by simp <;> omega), x1, sb, apd_ok (by simp; omega), sb, show L6Rd.mk b (p : Int) = rr b p from rfl, k1, sb, apd_ok (by simp; omega), sb, edd, s1, sb, apd_ok (by simp; omega), sb, en, sb]
        exact ⟨p', a, c, e, q1, q2, q3, q4, q5, by omega, by omega⟩
    refine schema_step b hb (d + 1) hd p hp (fun _ p hp => ?_) (fun _ n hn p hp => ?_)
    · rw [edd]; exact ih (by omega) p hp
    · exact hl1 n hn p [] [] [] hp rfl rfl (by simpa using hn) (by simp)
end Fw
