/- A text of the proof of FnJsonStrict: M16. -/
import Derived.Test.YtgihpfidacjogaaDoorM15
set_option linter.unusedVariables false
set_option linter.unusedSimpArgs false
namespace Fw
open Go Go.SL
theorem json_l1 : ∀ n : Nat, n ≤ 1000 → ∀ (k : Int) (f : Bool) (t : Str) (ks : List Json) (ns : List Str), ∃ r, spec_l71Json_l1 (n : Int) k f t ks ns = some r := by
  intro n
  induction n with
  | zero => intro _ k f t ks ns; rw [spec_l71Json_l1, if_neg (by simp)]; exact ⟨_, rfl⟩
  | succ n ih =>
    intro hn k f t ks ns
    rw [spec_l71Json_l1, if_pos (by simp <;> omega), sb, show w64 (((n + 1 : Nat) : Int) - 1) = (n : Int) by rw [w64s (by omega) (by omega)]; omega]
    exact ih (by omega) _ _ _ _ _
theorem json_l3 (m : Nat) (hm : m ≤ 1000) : ∀ i, i ≤ m → ∀ o : List Json, o.length = m → ∃ r, spec_l71Json_l3 (i : Int) o = some r := by
  refine down ?_ ?_
  · intro o ho; rw [spec_l71Json_l3, ← ho, len_ge, iff_]; exact ⟨o, rfl⟩
  · intro i hi ih o ho
    rw [spec_l71Json_l3, len_t (by omega), ift, rd_lt (by omega : i < o.length), sb, sb, w64n1 (by omega)]
    exact ih _ (by rw [List.length_set]; exact ho)
theorem json_ok (b : List UInt8) (hb : b.length ≤ 2000) (p : Nat) (hp : p ≤ 1000) : ∃ j p', spec_l71Json (rr b p) = some (j, rr b p') ∧ p' ≤ 1000000 := by
  obtain ⟨x, x1, x2, x3⟩ := pick_ok b p 4 hb (by omega)
  have := x3 (by omega)
  obtain ⟨d, rfl⟩ := Int.eq_ofNat_of_zero_le x2
  have hpw : 20 ^ (d + 1) ≤ 20 ^ 4 := Nat.pow_le_pow_right (by omega) (by omega)
  have h160 : (20 : Nat) ^ 4 = 160000 := by decide
  obtain ⟨s, p1, s1, s2, s3, s4⟩ := schema_ok b hb d (by omega) (p + 1) (by omega)
  obtain ⟨j, p2, j1, j2, j3, j4⟩ := fit_ok b hb (d + 1) s s2 p1 (by omega)
  obtain ⟨y, y1, y2, y3⟩ := pick_ok b p2 16 hb (by omega)
  unfold spec_l71Json
  rw [x1, sb, show w64 (1 + ((d : Int), rr b (p + 1)).1) = ((d + 1 : Nat) : Int) by rw [w64s (by dsimp only; omega) (by dsimp only; omega)]; dsimp only; omega, s1, sb, j1, sb, y1, sb]
  dsimp only
  by_cases c0 : y = 0
  · obtain ⟨z, z1, z2, z3⟩ := pick_ok b (p2 + 1) 8 hb (by omega)
    rw [if_pos (by simpa using c0), z1, sb, sb]
    exact ⟨_, p2 + 1 + 1, rfl, by omega⟩
  rw [if_neg (by simpa using c0)]
  by_cases c1 : y = 1
  · obtain ⟨r, r1, _⟩ := many_ok [121] 21 (by omega) (by simp)
    obtain ⟨z, z1, z2⟩ := of_ok b (p2 + 1) [[120], [34], [10], r, [49, 50]] hb (by omega) (by simp)
    rw [if_pos (by simpa using c1), show spec_l6Many [121] 21 = some r from r1, sb, z1, sb, sb]
    exact ⟨_, p2 + 1 + 1, rfl, by omega⟩
  rw [if_neg (by simpa using c1)]
  by_cases c2 : y = 2
  · obtain ⟨z, z1, z2⟩ := of_ok b (p2 + 1) [[97], [81]] hb (by omega) (by simp)
    rw [if_pos (by simpa using c2), z1, sb, apd_ok (by simp; omega), sb, sb]
    exact ⟨_, p2 + 1 + 1, rfl, by omega⟩
  rw [if_neg (by simpa using c2)]
  by_cases c3 : y = 3
  · obtain ⟨z, z1, z2, z3⟩ := pick_ok b (p2 + 1) 8 hb (by omega)
    have := z3 (by omega)
    obtain ⟨n, rfl⟩ := Int.eq_ofNat_of_zero_le z2
    obtain ⟨r, r1⟩ := json_l1 n (by omega) j.Kind j.Flag j.Text j.Kids j.Names
    rw [if_pos (by simpa using c3), z1, sb]
    dsimp only
    rw [r1, sb, sb]
    exact ⟨_, p2 + 1 + 1, rfl, by omega⟩
  rw [if_neg (by simpa using c3)]
  by_cases c4 : y = 4
  · obtain ⟨z, z1, z2, z3⟩ := pick_ok b (p2 + 1) 6 hb (by omega)
    have := z3 (by omega)
    have hm : mkl 80 (36 + z) (Json.mk 0 false [] [] []) = some (List.replicate (36 + z).toNat (Json.mk 0 false [] [] [])) := by
      unfold mkl; rw [if_pos ⟨by omega, by omega⟩]
    obtain ⟨r, r1⟩ := json_l3 (36 + z).toNat (by omega) 0 (Nat.zero_le _) (List.replicate (36 + z).toNat (Json.mk 0 false [] [] [])) (by simp)
    rw [if_pos (by simpa using c4), z1, sb]
    dsimp only
    rw [w64s (x := 36 + z) (by omega) (by omega), hm, sb, show spec_l71Json_l3 0 _ = some r from r1, sb, sb]
    exact ⟨_, p2 + 1 + 1, rfl, by omega⟩
  rw [if_neg (by simpa using c4), sb]
  exact ⟨_, p2 + 1, rfl, by omega⟩
theorem open_ok (code : List UInt8) : ∃ b, spec_l6Open code = some (rr b 0) ∧ b.length ≤ 2000 := by
  unfold spec_l6Open
  by_cases h : 2000 < code.length
  · rw [if_pos (by simp; omega), show (2000 : Int) = ((2000 : Nat) : Int) from rfl, cut0 (by omega), sb, sb]
    exact ⟨_, rfl, by simp; omega⟩
  · rw [if_neg (by simp; omega), sb]
    exact ⟨code, rfl, by omega⟩
theorem draw_ok (code : List UInt8) : ∃ s, spec_DrawJsonRead code = some s := by
  obtain ⟨b, e1, hb⟩ := open_ok code
  obtain ⟨j, p, e2, hp⟩ := json_ok b hb 0 (by omega)
  obtain ⟨w, e3, hw⟩ : ∃ w, spec_JsonWrite j = some w ∧ w.length ≤ 300 := by
    refine ⟨_, spec_JsonWrite_eq j, ?_⟩
    split
    · rename_i h; exact (OKb_spec h).2.2.1
    · simp
  obtain ⟨x, x1, x2, x3⟩ := pick_ok b p 2 hb (by omega)
  unfold spec_DrawJsonRead
  rw [e1, sb, e2, sb]
  dsimp only
  rw [e3, sb, x1, sb]
  dsimp only
  by_cases h0 : x = 0 ∨ w.length = 0
  · rw [if_pos (by rcases h0 with h | h <;> simp [h])]; exact ⟨_, rfl⟩
  have hw0 : 0 < w.length := by omega
  have hc : ((x == 0) || ((w.length : Int) == 0)) = false := Bool.or_eq_false_iff.2 ⟨beq_eq_false_iff_ne.2 (by omega), beq_eq_false_iff_ne.2 (by omega)⟩
  obtain ⟨y, y1, y2, y3⟩ := pick_ok b (p + 1) (w.length : Int) hb (by omega)
  have := y3 (by omega)
  obtain ⟨i, rfl⟩ := Int.eq_ofNat_of_zero_le y2
  obtain ⟨z, z1, z2, z3⟩ := pick_ok b (p + 1 + 1) 4 hb (by omega)
  rw [hc, iff_, y1, sb]
  dsimp only
  rw [z1, sb]
  dsimp only
  have hi : i < w.length := by omega
  by_cases c0 : z = 0
  · rw [if_pos (by simpa using c0), cut0 (by omega), sb, w64n1 (by omega), cutE (by omega), sb, cat_ok (by simp; omega), sb]
    exact ⟨_, rfl⟩
  rw [if_neg (by simpa using c0)]
  by_cases c1 : z = 1
  · obtain ⟨t, t1, t2⟩ := of_ok b (p + 1 + 1 + 1) [[32], [44], [93], [125], [48], [45], [34], [110, 117, 108, 108], [58]] hb (by omega) (by simp)
    have ht : t.length ≤ 4 := by
      simp only [List.mem_cons, List.not_mem_nil, or_false] at t2
      rcases t2 with rfl | rfl | rfl | rfl | rfl | rfl | rfl | rfl | rfl <;> simp
    rw [if_pos (by simpa using c1), cut0 (by omega), sb, t1, sb, cat_ok (by simp; omega), sb, cutE (by omega), sb, cat_ok (by simp; omega), sb]
    exact ⟨_, rfl⟩
  rw [if_neg (by simpa using c1)]
  by_cases c2 : z = 2
  · rw [if_pos (by simpa using c2), cat_ok (by omega), sb]; exact ⟨_, rfl⟩
  rw [if_neg (by simpa using c2), cut0 (by omega), sb]
  exact ⟨_, rfl⟩
theorem strict (code : List UInt8) : laws_FnJsonStrict code = some true := law (fun _ => draw_ok code)
end Fw
