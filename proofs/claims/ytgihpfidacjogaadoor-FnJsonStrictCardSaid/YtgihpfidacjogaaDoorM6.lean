/- A text of the proof of FnJsonStrict: M6. -/
import Derived.Test.YtgihpfidacjogaaDoorM5
set_option linter.unusedVariables false
set_option linter.unusedSimpArgs false
namespace Fw
open Go Go.SL
abbrev rdr (s : Str) (p : Nat) (ok : Bool) : L31Rd := ⟨s, (p : Int), ok⟩
theorem l1Fits_eq (x t : Str) : spec_l1Fits x t = some (t.isPrefixOf x) := by
  unfold spec_l1Fits
  by_cases h : t.length ≤ x.length
  · rw [if_pos (by simpa using h), cut0 h, sb, sb]
    congr 1
    rw [Bool.eq_iff_iff, beq_iff_eq, List.isPrefixOf_iff_prefix, List.prefix_iff_eq_take]
    exact ⟨fun h => h.symm, fun h => h.symm⟩
  · rw [if_neg (by simp; omega), sb]
    congr 1
    cases hp : t.isPrefixOf x with
    | false => rfl
    | true =>
      have := (List.isPrefixOf_iff_prefix.1 hp).length_le
      omega
theorem take_eq {s : Str} (hs : Big s.length) {p : Nat} (hp : p ≤ s.length) (ok : Bool) (t : Str) :
    spec_l31Rd_take (rdr s p ok) t = some (if (ok && t.isPrefixOf (s.drop p)) = true then (true, rdr s (p + t.length) ok) else (false, rdr s p ok)) := by
  unfold spec_l31Rd_take rdr
  cases ok with
  | false => rfl
  | true =>
    rw [if_neg (by simp), cutE hp, sb, l1Fits_eq, sb, sb, Bool.true_and]
    cases hf : t.isPrefixOf (s.drop p) with
    | false => rfl
    | true =>
      have := (List.isPrefixOf_iff_prefix.1 hf).length_le
      rw [List.length_drop] at this
      rw [if_neg (by simp), ift, w64s (by simp only; omega) (by simp only; omega)]
      rfl
theorem pre_le {s t : Str} {p : Nat} (h : t.isPrefixOf (s.drop p) = true) (hp : p ≤ s.length) : p + t.length ≤ s.length := by
  have := (List.isPrefixOf_iff_prefix.1 h).length_le
  rw [List.length_drop] at this; omega
/-- the place behind the longest run of p's -/
def runEnd (f : UInt8 → Bool) (s : Str) (p : Nat) : Nat := p + ((s.drop p).takeWhile f).length
theorem runEnd_le (f : UInt8 → Bool) (s : Str) (p : Nat) (hp : p ≤ s.length) : p ≤ runEnd f s p ∧ runEnd f s p ≤ s.length := by
  have := (List.takeWhile_sublist f (l := s.drop p)).length_le
  rw [List.length_drop] at this
  unfold runEnd; omega
theorem runEnd_lt {f : UInt8 → Bool} {s : Str} {p : Nat} (h : p < s.length) (hf : f s[p] = true) : runEnd f s p = runEnd f s (p + 1) := by
  unfold runEnd; rw [drop_lt h, List.takeWhile_cons, if_pos hf, List.length_cons]; omega
theorem runEnd_stop {f : UInt8 → Bool} {s : Str} {p : Nat} (h : p < s.length) (hf : f s[p] = false) : runEnd f s p = p := by
  unfold runEnd; rw [drop_lt h, List.takeWhile_cons, if_neg (by simp [hf])]; rfl
theorem runEnd_end {f : UInt8 → Bool} {s : Str} : runEnd f s s.length = s.length := by unfold runEnd; simp
theorem quote_l0_eq (x : Bool × L31Rd) (hs : Big x.2.s.length) : ∀ p, p ≤ x.2.s.length → spec_l31Rd_quote_l0 x (p : Int) = some ((runEnd (fun c => !(c == 34)) x.2.s p : Nat) : Int) := by
  refine down ?_ ?_
  · rw [spec_l31Rd_quote_l0, len_ge, iff_, sb, iff_, runEnd_end]
  · intro p hp ih
    rw [spec_l31Rd_quote_l0, len_t hp, ift, rd_lt hp, sb, sb]
    have e : ((x.2.s[p].toNat : Int) != 34) = !(x.2.s[p] == 34) := by
      rw [show ((x.2.s[p].toNat : Int) != 34) = !((x.2.s[p].toNat : Int) == 34) from rfl, show ((x.2.s[p].toNat : Int) == 34) = (x.2.s[p] == 34) from u8i _ 34 (by omega)]
    rw [e]
    cases hc : (!(x.2.s[p] == 34)) with
    | true => rw [ift, w64n1 (by omega), ih, runEnd_lt hp hc]
    | false => rw [iff_, runEnd_stop hp hc]
def nb_ (c : UInt8) : Bool := (c == 45) || (decide (48 ≤ c.toNat) && decide (c.toNat ≤ 57))
theorem number_l0_eq (r : L31Rd) (hs : Big r.s.length) : ∀ p, p ≤ r.s.length → spec_l31Rd_number_l0 r (p : Int) = some ((runEnd nb_ r.s p : Nat) : Int) := by
  refine down ?_ ?_
  · rw [spec_l31Rd_number_l0, len_ge, iff_, sb, iff_, runEnd_end]
  · intro p hp ih
    rw [spec_l31Rd_number_l0, len_t hp, ift, rd_lt hp, sb]
    have e : (if ((r.s[p].toNat : Int) == 45) = true then some true else if (decide (48 ≤ (r.s[p].toNat : Int))) = true then some (decide ((r.s[p].toNat : Int) ≤ 57)) else some false) = some (nb_ r.s[p]) := by
      unfold nb_
      rw [show ((r.s[p].toNat : Int) == 45) = (r.s[p] == 45) from u8i _ 45 (by omega), show (decide (48 ≤ (r.s[p].toNat : Int))) = decide (48 ≤ r.s[p].toNat) by rw [decide_eq_decide]; omega, show (decide ((r.s[p].toNat : Int) ≤ 57)) = decide (r.s[p].toNat ≤ 57) by rw [decide_eq_decide]; omega]
      cases r.s[p] == 45 <;> cases decide (48 ≤ r.s[p].toNat) <;> rfl
    rw [e, sb]
    cases hc : nb_ r.s[p] with
    | true => rw [ift, w64n1 (by omega), ih, runEnd_lt hp hc]
    | false => rw [iff_, runEnd_stop hp hc]
theorem cut_run {f : UInt8 → Bool} {s : Str} {p : Nat} (hp : p ≤ s.length) : cut s (p : Int) ((runEnd f s p : Nat) : Int) = some ((s.drop p).takeWhile f) := by
  have h := runEnd_le f s p hp
  rw [cutN h.1 h.2]
  congr 1
  unfold runEnd
  rw [Nat.add_sub_cancel_left]
  have : (s.drop p).takeWhile f ++ (s.drop p).dropWhile f = s.drop p := List.takeWhile_append_dropWhile
  have h2 := congrArg (List.take ((s.drop p).takeWhile f).length) this
  rw [List.take_left] at h2
  exact h2.symm
theorem number_eq {s : Str} (hs : Big s.length) {p : Nat} (hp : p ≤ s.length) (ok : Bool) : spec_l31Rd_number (rdr s p ok) = some ((s.drop p).takeWhile nb_, rdr s (runEnd nb_ s p) ok) := by
  unfold spec_l31Rd_number
  have h := runEnd_le nb_ s p hp
  rw [number_l0_eq (rdr s p ok) hs p hp, sb, cut_run hp, sb]
theorem take_cases {s : Str} (hs : Big s.length) {p : Nat} (hp : p ≤ s.length) (ok : Bool) (t : Str) : ∃ b p', spec_l31Rd_take (rdr s p ok) t = some (b, rdr s p' ok) ∧ p ≤ p' ∧ p' ≤ s.length ∧ (b = false → p' = p) := by
  rw [take_eq hs hp]
  cases h : (ok && t.isPrefixOf (s.drop p)) with
  | false => exact ⟨false, p, rfl, Nat.le_refl _, hp, fun _ => rfl⟩
  | true =>
    simp only [Bool.and_eq_true] at h
    exact ⟨true, _, rfl, by omega, pre_le h.2 hp, fun h => by cases h⟩
theorem quote_cases {s : Str} (hs : Big s.length) {p : Nat} (hp : p ≤ s.length) (ok : Bool) : ∃ t p' ok', spec_l31Rd_quote (rdr s p ok) = some (t, rdr s p' ok') ∧ p ≤ p' ∧ p' ≤ s.length := by
  unfold spec_l31Rd_quote
  obtain ⟨b, p1, h1, h2, h3, _⟩ := take_cases hs hp ok [34]
  rw [h1, sb]
  cases b with
  | false => exact ⟨_, p1, false, rfl, h2, h3⟩
  | true =>
    rw [if_neg (by simp)]
    have h := runEnd_le (fun c => !(c == 34)) s p1 h3
    rw [quote_l0_eq (true, rdr s p1 ok) hs p1 h3, sb, cut_run h3, sb]
    obtain ⟨b, p2, k1, k2, k3, _⟩ := take_cases hs h.2 ok [34]
    rw [show (L31Rd.mk (true, rdr s p1 ok).2.s ((runEnd (fun c => !(c == 34)) (true, rdr s p1 ok).2.s p1 : Nat) : Int) (true, rdr s p1 ok).2.ok) = rdr s (runEnd (fun c => !(c == 34)) s p1) ok from rfl, k1, sb]
    cases b with
    | false => exact ⟨_, p2, false, rfl, by omega, k3⟩
    | true => exact ⟨_, p2, ok, rfl, by omega, k3⟩
theorem valueD {s : Str} (hs : Big s.length) : ∀ d : Nat, d ≤ 5 → ∀ p, p ≤ s.length → ∀ ok, ∃ j p' ok', spec_l31Rd_value (rdr s p ok) (d : Int) = some (j, rdr s p' ok') ∧ p ≤ p' ∧ p' ≤ s.length := by
  intro d
  induction d with
  | zero =>
    intro _ p hp ok
    rw [spec_l31Rd_value]
    exact ⟨_, p, false, rfl, Nat.le_refl _, hp⟩
  | succ d ih =>
    intro hd p hp ok
    have ed : w64 (((d + 1 : Nat) : Int) - 1) = (d : Int) := by rw [w64s (by omega) (by omega)]; omega
    have hl0 : ∀ m, ∀ (j : Json) (e : Str) (p : Nat) (ok : Bool) (o : List Str) (o1 : List Json), o.length ≤ o1.length → o1.length + m = 40 → p ≤ s.length →
        ∃ y, spec_l31Rd_kids_l0 j e ((d + 1 : Nat) : Int) s (p : Int) ok o o1 = some y ∧ match y with
          | .inl v => ∃ p', v.1 = s ∧ v.2.1 = ((p' : Nat) : Int) ∧ p ≤ p' ∧ p' ≤ s.length
          | .inr r => ∃ p' ok', r.2 = rdr s p' ok' ∧ p ≤ p' ∧ p' ≤ s.length := by
      intro m
      induction m with
      | zero =>
        intro j e p ok o o1 _ ho1 hp
        rw [spec_l31Rd_kids_l0, show (decide ((o1.length : Int) < 40)) = false by simp; omega, Bool.and_false, iff_]
        exact ⟨_, rfl, p, rfl, rfl, Nat.le_refl _, hp⟩
      | succ m ihm =>
        intro j e p ok o o1 ho ho1 hp
        rw [spec_l31Rd_kids_l0, show (decide ((o1.length : Int) < 40)) = true by simp; omega, Bool.and_true]
        cases ok with
        | false => exact ⟨_, rfl, p, rfl, rfl, Nat.le_refl _, hp⟩
        | true =>
          rw [ift]
          have hbody : ∀ (p2 : Nat) (ok2 : Bool) (o2 : List Str), p ≤ p2 → p2 ≤ s.length → o2.length ≤ o1.length + 1 → ∃ y, (spec_l31Rd_value (rdr s p2 ok2) (w64 (((d + 1 : Nat) : Int) - 1)) >>= fun r4 =>
              apd 80 o1 [r4.1] >>= fun out6 =>
              spec_l31Rd_take r4.2 e >>= fun r5 =>
              (if r5.1 = true then
              some (.inr ((Json.mk j.Kind j.Flag j.Text o2 out6), r5.2))
              else
              spec_l31Rd_take r5.2 [44] >>= fun r6 =>
              spec_l31Rd_kids_l0 j e ((d + 1 : Nat) : Int) r6.2.s r6.2.at_ r6.1 o2 out6)) = some y ∧ match y with
                | .inl v => ∃ p', v.1 = s ∧ v.2.1 = ((p' : Nat) : Int) ∧ p ≤ p' ∧ p' ≤ s.length
                | .inr r => ∃ p' ok', r.2 = rdr s p' ok' ∧ p ≤ p' ∧ p' ≤ s.length := by
            intro p2 ok2 o2 hp2 hp2' ho2
            obtain ⟨j1, p3, ok3, e1, e2, e3⟩ := ih (by omega) p2 hp2' ok2
            obtain ⟨b4, p4, k1, k2, k3, _⟩ := take_cases hs e3 ok3 e
            rw [ed, e1, sb, apd_ok (by simp; omega), sb, k1, sb]
            cases b4 with
            | true => exact ⟨_, rfl, p4, ok3, rfl, by omega, k3⟩
            | false =>
              obtain ⟨b5, p5, q1, q2, q3, _⟩ := take_cases hs k3 ok3 [44]
              rw [if_neg (by simp), q1, sb]
              obtain ⟨y, y1, y2⟩ := ihm j e p5 b5 o2 (o1 ++ [j1]) (by simp; omega) (by simp; omega) q3
              refine ⟨y, y1, ?_⟩
              cases y with
              | inl v => obtain ⟨p', a, b, c, d⟩ := y2; exact ⟨p', a, b, by omega, d⟩
              | inr r => obtain ⟨p', o', a, b, c⟩ := y2; exact ⟨p', o', a, by omega, c⟩
          by_cases k6 : j.Kind = 6
          · obtain ⟨t, p1, ok1, e1, e2, e3⟩ := quote_cases hs hp true
            obtain ⟨b2, p2, k1, k2, k3, _⟩ := take_cases hs e3 ok1 [58]
            rw [show (j.Kind == 6) = true by simpa using k6, ift, show L31Rd.mk s (p : Int) true = rdr s p true from rfl, e1, sb, apd_ok (by simp; omega), sb, k1, sb, sb]
            exact hbody p2 b2 _ (by omega) k3 (by simp; omega)
          · rw [show (j.Kind == 6) = false by simpa using k6, iff_, sb]
            exact hbody p true o (Nat.le_refl _) hp (by omega)
    have hkids : ∀ (j : Json) (e : Str) (p : Nat) (ok : Bool), p ≤ s.length → ∃ j' p' ok', spec_l31Rd_kids (rdr s p ok) j e ((d + 1 : Nat) : Int) = some (j', rdr s p' ok') ∧ p ≤ p' ∧ p' ≤ s.length := by
      intro j e p ok hp
      rw [spec_l31Rd_kids]
      obtain ⟨b, p1, k1, k2, k3, _⟩ := take_cases hs hp ok e
      rw [k1, sb]
      cases b with
      | true => exact ⟨_, p1, ok, rfl, k2, k3⟩
      | false =>
        rw [if_neg (by simp)]
        obtain ⟨y, y1, y2⟩ := hl0 40 j e p1 ok [] [] (Nat.le_refl _) (by simp) k3
        rw [show spec_l31Rd_kids_l0 j e ((d + 1 : Nat) : Int) (false, rdr s p1 ok).2.s (false, rdr s p1 ok).2.at_ (false, rdr s p1 ok).2.ok ([] : List Str) ([] : List Json) = some y from y1, sb]
        cases y with
        | inl v =>
          obtain ⟨p', a, b, c, d⟩ := y2
          refine ⟨Json.mk j.Kind j.Flag j.Text v.2.2.2.1 v.2.2.2.2, p', false, ?_, by omega, d⟩
          show some (_, L31Rd.mk v.1 v.2.1 false) = _
          rw [a, b]
        | inr r =>
          obtain ⟨p', o', a, b, c⟩ := y2
          refine ⟨r.1, p', o', ?_, by omega, c⟩
          show some r = _
          rw [← a]
    rw [spec_l31Rd_value, show (decide (((d + 1 : Nat) : Int) < 1)) = false by simp; omega, iff_, sb]
    have hif : ((if (!(rdr s p ok).ok) = true then some true else some (decide (((rdr s p ok).s.length : Int) ≤ (rdr s p ok).at_))) : Option Bool) = some (!ok || decide (s.length ≤ p)) := by
      cases ok with
      | false => rfl
      | true => simp
    rw [hif, sb]
    cases hg : (!ok || decide (s.length ≤ p)) with
    | true => exact ⟨_, p, false, rfl, Nat.le_refl _, hp⟩
    | false =>
      simp only [Bool.or_eq_false_iff, decide_eq_false_iff_not, Bool.not_eq_false'] at hg
      rw [if_neg (by simp)]
      obtain ⟨b1, p1, h1, a1, c1, d1⟩ := take_cases hs hp ok [110, 117, 108, 108]
      rw [show L31Rd.mk (rdr s p ok).s (rdr s p ok).at_ (rdr s p ok).ok = rdr s p ok from rfl, h1, sb]
      cases b1 with
      | true => exact ⟨_, p1, ok, rfl, a1, c1⟩
      | false =>
        rw [if_neg (by simp)]
        obtain ⟨b2, p2, h2, a2, c2, d2⟩ := take_cases hs c1 ok [116, 114, 117, 101]
        rw [h2, sb]
        cases b2 with
        | true => exact ⟨_, p2, ok, rfl, by omega, c2⟩
        | false =>
          rw [if_neg (by simp)]
          obtain ⟨b3, p3, h3, a3, c3, d3⟩ := take_cases hs c2 ok [102, 97, 108, 115, 101]
          rw [h3, sb]
          cases b3 with
          | true => exact ⟨_, p3, ok, rfl, by omega, c3⟩
          | false =>
            have e1 := d1 rfl; have e2 := d2 rfl; have e3 := d3 rfl
            have hlt : p3 < s.length := by omega
            rw [if_neg (by simp), show rd (false, rdr s p3 ok).2.s (false, rdr s p3 ok).2.at_ = some s[p3] from rd_lt (l := s) hlt, sb]
            split
            · obtain ⟨t, p4, ok4, q1, q2, q3⟩ := quote_cases hs c3 ok
              rw [q1, sb]
              exact ⟨_, p4, ok4, rfl, by omega, q3⟩
            · obtain ⟨b4, p4, h4, a4, c4, _⟩ := take_cases hs c3 ok [91]
              rw [h4, sb]
              cases b4 with
              | true =>
                obtain ⟨j', p5, ok5, q1, q2, q3⟩ := hkids (Json.mk 5 false [] [] []) [93] p4 ok c4
                rw [ift, q1, sb]
                exact ⟨_, p5, ok5, rfl, by omega, q3⟩
              | false =>
                rw [if_neg (by simp)]
                obtain ⟨b5, p5, h5, a5, c5, _⟩ := take_cases hs c4 ok [123]
                rw [h5, sb]
                cases b5 with
                | true =>
                  obtain ⟨j', p6, ok6, q1, q2, q3⟩ := hkids (Json.mk 6 false [] [] []) [125] p5 ok c5
                  rw [ift, q1, sb]
                  exact ⟨_, p6, ok6, rfl, by omega, q3⟩
                | false =>
                  rw [if_neg (by simp), show (false, rdr s p5 ok).2 = rdr s p5 ok from rfl, number_eq hs c5, sb]
                  have := runEnd_le nb_ s p5 c5
                  exact ⟨_, _, ok, rfl, by omega, this.2⟩
end Fw
