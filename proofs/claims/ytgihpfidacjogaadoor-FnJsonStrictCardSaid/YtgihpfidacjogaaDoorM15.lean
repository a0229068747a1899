/- A text of the proof of FnJsonStrict: M15. -/
import Derived.Test.YtgihpfidacjogaaDoorM14
set_option linter.unusedVariables false
set_option linter.unusedSimpArgs false
namespace Fw
open Go Go.SL
theorem fit_ok (b : List UInt8) (hb : b.length ≤ 2000) : ∀ d, ∀ s, okS d s → ∀ p, p + 20 ^ d ≤ 1000000000 → ∃ j p', spec_l71Fit (rr b p) s = some (j, rr b p') ∧ j.Names.length ≤ 3 ∧ p ≤ p' ∧ p' ≤ p + 20 ^ d := by
  intro d
  induction d with
  | zero => intro s h; exact h.elim
  | succ d ih =>
    intro s hs p hp
    obtain ⟨k1, k8, m0, m1, m2, n8, n7, n6, nl, hk⟩ := hs
    have h20 := p20 d
    have ep : 20 ^ (d + 1) = 20 * 20 ^ d := by rw [Nat.pow_succ]; omega
    have hl1 : s.Kind = 5 → ∀ n : Nat, n ≤ 6 → ∀ (p : Nat) (o : List Json), o.length + n ≤ 6 → p + n * 20 ^ d ≤ 1000000000 → ∃ p' o', spec_l71Fit_l1 s (n : Int) b (p : Int) o = some (b, ((p' : Nat) : Int), o') ∧ p ≤ p' ∧ p' ≤ p + n * 20 ^ d := by
      intro h5 n
      induction n with
      | zero =>
        intro _ p o _ _
        rw [spec_l71Fit_l1, if_neg (by simp)]
        exact ⟨p, o, rfl, Nat.le_refl _, by omega⟩
      | succ n ihn =>
        intro hn p o ho hp
        have em : (n + 1) * 20 ^ d = n * 20 ^ d + 20 ^ d := by rw [Nat.succ_mul]
        have hne : 0 < s.Kids.length := List.length_pos_iff.2 (n7 (.inr h5))
        obtain ⟨j, p1, e1, e2, e3, e4⟩ := ih s.Kids[0] (hk _ (List.getElem_mem _)) p (by omega)
        obtain ⟨p', o', q1, q2, q3⟩ := ihn (by omega) p1 (o ++ [j]) (by simp; omega) (by omega)
        rw [spec_l71Fit_l1, if_pos (by simp [h5] <;> omega), show (0 : Int) = ((0 : Nat) : Int) from rfl, rd_lt hne, sb, show L6Rd.mk b (p : Int) = rr b p from rfl, e1, sb, apd_ok (by simp; omega), sb, show w64 (((n + 1 : Nat) : Int) - 1) = (n : Int) by rw [w64s (by omega) (by omega)]; omega, sb]
        exact ⟨p', o', q1, by omega, by omega⟩
    have hl1' : s.Kind ≠ 5 → ∀ (n : Int) (p : Nat) (o : List Json), spec_l71Fit_l1 s n b (p : Int) o = some (b, ((p : Nat) : Int), o) := by
      intro h5 n p o
      rw [spec_l71Fit_l1, if_neg (by simp [h5])]
    have hl3' : s.Kind ≠ 6 → ∀ (n : Int) (p : Nat) (o : List Str) (o1 : List Json), spec_l71Fit_l3 s n b (p : Int) o o1 = some (b, ((p : Nat) : Int), o, o1) := by
      intro h6 n p o o1
      rw [spec_l71Fit_l3, if_neg (by simp [h6])]
    have hl3 : s.Kind = 6 → ∀ x, x ≤ s.Names.length → ∀ (p : Nat) (o : List Str) (o1 : List Json), o.length ≤ x → o1.length ≤ x → p + (s.Names.length - x) * (2 + 20 ^ d) ≤ 1000000000 → ∃ p' o' o1', spec_l71Fit_l3 s (x : Int) b (p : Int) o o1 = some (b, ((p' : Nat) : Int), o', o1') ∧ o'.length ≤ s.Names.length ∧ p ≤ p' ∧ p' ≤ p + (s.Names.length - x) * (2 + 20 ^ d) := by
      intro h6
      obtain ⟨hm, hkl⟩ := n6 h6
      refine down ?_ ?_
      · intro p o o1 h1 h2 _
        rw [spec_l71Fit_l3, len_ge, Bool.false_and, iff_]
        exact ⟨p, o, o1, rfl, h1, Nat.le_refl _, by omega⟩
      · intro x hx ihx p o o1 h1 h2 hp
        have em : (s.Names.length - x) * (2 + 20 ^ d) = (s.Names.length - (x + 1)) * (2 + 20 ^ d) + (2 + 20 ^ d) := by
          rw [show s.Names.length - x = (s.Names.length - (x + 1)) + 1 by omega, Nat.succ_mul]
        rw [spec_l71Fit_l3, len_t hx, Bool.true_and, if_pos (by simp [h6]), rd_lt (by omega : x < s.Must.length), sb]
        obtain ⟨f, p1, e, a1, a2⟩ : ∃ (f : Bool) (p1 : Nat), (if s.Must[x]'(by omega) = true then
          spec_l6Rd_pick (L6Rd.mk b (p : Int)) 20 >>= fun r12 =>
          (if (decide (0 < r12.1)) = true then
          some (true, r12.2.b, r12.2.p)
          else
          spec_l6Rd_pick r12.2 2 >>= fun r13 =>
          some ((r13.1 == 0), r13.2.b, r13.2.p))
          else
          (if false = true then
          some (true, b, (p : Int))
          else
          spec_l6Rd_pick (L6Rd.mk b (p : Int)) 2 >>= fun r14 =>
          some ((r14.1 == 0), r14.2.b, r14.2.p))) = some (f, b, (p1 : Int)) ∧ p ≤ p1 ∧ p1 ≤ p + 2 := by
          split
          · obtain ⟨y, y1, y2, y3⟩ := pick_ok b p 20 hb (by omega)
            rw [show L6Rd.mk b (p : Int) = rr b p from rfl, y1, sb]
            split
            · exact ⟨true, p + 1, rfl, by omega, by omega⟩
            · obtain ⟨z, z1, z2, z3⟩ := pick_ok b (p + 1) 2 hb (by omega)
              dsimp only
              rw [z1, sb]
              exact ⟨_, p + 1 + 1, rfl, by omega, by omega⟩
          · obtain ⟨z, z1, z2, z3⟩ := pick_ok b p 2 hb (by omega)
            rw [if_neg (by simp), show L6Rd.mk b (p : Int) = rr b p from rfl, z1, sb]
            exact ⟨_, p + 1, rfl, by omega, by omega⟩
        rw [e, sb]
        have ew := w64n1 (n := x) (by omega)
        cases f with
        | true =>
          obtain ⟨j, p2, e1, e2, e3, e4⟩ := ih (s.Kids[x]'(by omega)) (hk _ (List.getElem_mem _)) p1 (by omega)
          obtain ⟨p', o', o1', q1, q2, q3, q4⟩ := ihx p2 (o ++ [s.Names[x]]) (o1 ++ [j]) (by simp; omega) (by simp; omega) (by omega)
          rw [ift, rd_lt hx, sb, apd_ok (by simp; omega), sb, rd_lt (by omega : x < s.Kids.length), sb, show L6Rd.mk (true, b, (p1 : Int)).2.1 (true, b, (p1 : Int)).2.2 = rr b p1 from rfl, e1, sb, apd_ok (by simp; omega), sb, sb, ew]
          exact ⟨p', o', o1', q1, q2, by omega, by omega⟩
        | false =>
          obtain ⟨p', o', o1', q1, q2, q3, q4⟩ := ihx p1 o o1 (by omega) (by omega) (by omega)
          rw [iff_, sb, ew]
          exact ⟨p', o', o1', q1, q2, by omega, by omega⟩
    rw [spec_l71Fit]
    by_cases c1 : s.Kind = 1
    · rw [if_pos (by simpa using c1)]; exact ⟨_, p, rfl, by simp, by omega, by omega⟩
    rw [if_neg (by simpa using c1)]
    by_cases c2 : s.Kind = 2
    · obtain ⟨y, y1, y2, y3⟩ := pick_ok b p 2 hb (by omega)
      rw [if_pos (by simpa using c2), y1, sb]; exact ⟨_, p + 1, rfl, by simp, by omega, by omega⟩
    rw [if_neg (by simpa using c2)]
    by_cases c3 : s.Kind = 3
    · obtain ⟨y, y1, y2⟩ := of_ok b p [[48], [55], [45, 49, 50], [49, 50, 51, 52, 53, 54, 55], [49, 50, 51, 52, 53, 54, 55, 56], [48, 49], [45, 48]] hb (by omega) (by simp)
      rw [if_pos (by simpa using c3), y1, sb]; exact ⟨_, p + 1, rfl, by simp, by omega, by omega⟩
    rw [if_neg (by simpa using c3)]
    have hm : ∀ q : Int, 0 ≤ q → q < 9 → w64 ((w64 ((w64 (s.Max - s.Min)) + 1)) + (w64 (q.tdiv 8))) = s.Max - s.Min + 1 + q.tdiv 8 ∧ 0 ≤ q.tdiv 8 ∧ q.tdiv 8 ≤ 1 := by
      intro q h1 h2
      have : 0 ≤ q.tdiv 8 ∧ q.tdiv 8 ≤ 1 := by rw [Int.tdiv_eq_ediv_of_nonneg h1]; omega
      rw [w64s (x := s.Max - s.Min) (by omega) (by omega), w64s (x := q.tdiv 8) (by omega) (by omega), w64s (x := s.Max - s.Min + 1) (by omega) (by omega), w64s (by omega) (by omega)]
      exact ⟨rfl, this⟩
    by_cases c4 : s.Kind = 4
    · obtain ⟨t, t1, t2⟩ := of_ok b p [[97], [32], [126]] hb (by omega) (by simp)
      obtain ⟨y, y1, y2, y3⟩ := pick_ok b (p + 1) 9 hb (by omega)
      have := y3 (by omega)
      obtain ⟨h1, h2, h3⟩ := hm y y2 this
      obtain ⟨z, z1, z2, z3⟩ := pick_ok b (p + 1 + 1) (s.Max - s.Min + 1 + y.tdiv 8) hb (by omega)
      have := z3 (by omega)
      have ht : t.length ≤ 1 := by
        simp only [List.mem_cons, List.not_mem_nil, or_false] at t2
        rcases t2 with rfl | rfl | rfl <;> simp
      obtain ⟨n, hn⟩ := Int.eq_ofNat_of_zero_le (a := s.Min + z) (by omega)
      obtain ⟨r, r1, _⟩ := many_ok t n (by omega) (by omega)
      rw [if_pos (by simpa using c4), t1, sb, y1, sb]
      dsimp only
      rw [h1, z1, sb]
      dsimp only
      rw [w64s (x := s.Min + z) (by omega) (by omega), hn]
      rw [r1, sb]
      exact ⟨_, p + 1 + 1 + 1, rfl, by simp, by omega, by omega⟩
    rw [if_neg (by simpa using c4)]
    by_cases c8 : s.Kind = 8
    · have hne : 0 < s.Names.length := List.length_pos_iff.2 (n8 c8)
      obtain ⟨y, y1, y2, y3⟩ := pick_ok b p (s.Names.length : Int) hb (by omega)
      obtain ⟨x, x1, _⟩ := rd_in (l := s.Names) y2 (y3 (by omega))
      rw [if_pos (by simpa using c8), y1, sb]
      dsimp only
      rw [x1, sb]
      exact ⟨_, p + 1, rfl, by simp, by omega, by omega⟩
    rw [if_neg (by simpa using c8)]
    by_cases c7 : s.Kind = 7
    · have hne : 0 < s.Kids.length := List.length_pos_iff.2 (n7 (.inl c7))
      obtain ⟨y, y1, y2, y3⟩ := pick_ok b p (s.Kids.length : Int) hb (by omega)
      obtain ⟨x, x1, x2⟩ := rd_in (l := s.Kids) y2 (y3 (by omega))
      obtain ⟨j, p1, e1, e2, e3, e4⟩ := ih x (hk _ x2) (p + 1) (by omega)
      rw [if_pos (by simpa using c7), y1, sb]
      dsimp only
      rw [x1, sb, e1, sb]
      exact ⟨_, p1, rfl, e2, by omega, by omega⟩
    rw [if_neg (by simpa using c7)]
    obtain ⟨y, y1, y2, y3⟩ := pick_ok b p 9 hb (by omega)
    have := y3 (by omega)
    obtain ⟨h1, h2, h3⟩ := hm y y2 this
    obtain ⟨z, z1, z2, z3⟩ := pick_ok b (p + 1) (s.Max - s.Min + 1 + y.tdiv 8) hb (by omega)
    have := z3 (by omega)
    obtain ⟨n, hn⟩ := Int.eq_ofNat_of_zero_le (a := s.Min + z) (by omega)
    have hn5 : n ≤ 5 := by omega
    have hnm : n * 20 ^ d ≤ 5 * 20 ^ d := Nat.mul_le_mul_right _ hn5
    rw [y1, sb]
    dsimp only
    rw [h1, z1, sb]
    dsimp only
    rw [w64s (x := s.Min + z) (by omega) (by omega), hn]
    by_cases c5 : s.Kind = 5
    · obtain ⟨p1, o1, q1, q2, q3⟩ := hl1 c5 n (by omega) (p + 1 + 1) [] (by simp; omega) (by omega)
      rw [q1, sb]
      dsimp only
      rw [hl3' (by omega), sb]
      exact ⟨_, p1, rfl, by simp, by omega, by omega⟩
    · have c6 : s.Kind = 6 := by omega
      have hnn : (s.Names.length - 0) * (2 + 20 ^ d) ≤ 3 * (2 + 20 ^ d) := Nat.mul_le_mul_right _ (by omega)
      obtain ⟨p1, o1, o2, q1, q2, q3, q4⟩ := hl3 c6 0 (Nat.zero_le _) (p + 1 + 1) [] [] (by simp) (by simp) (by omega)
      rw [hl1' c5, sb]
      dsimp only
      rw [show spec_l71Fit_l3 s 0 b ((p + 1 + 1 : Nat) : Int) [] [] = _ from q1, sb]
      exact ⟨_, p1, rfl, by simp only; omega, by omega, by omega⟩
end Fw
