/- A text of the proof of FnJsonStrict: M8. -/
import Derived.Test.YtgihpfidacjogaaDoorM7
set_option linter.unusedVariables false
set_option linter.unusedSimpArgs false
namespace Fw
open Go Go.SL
theorem its_nil_or {f : Nat → Str} {n i : Nat} (h : i ≤ n) : its f n i = [] ∧ i = n ∨ i < n ∧ its f n i = 44 :: (f i ++ its f n (i + 1)) := by
  by_cases e : i < n
  · exact .inr ⟨e, its_lt e⟩
  · have : i = n := by omega
    subst this; exact .inl ⟨its_end _ _, rfl⟩
theorem take_succ' {α : Type} {l : List α} {i : Nat} (h : i < l.length) : l.take (i + 1) = l.take i ++ [l[i]] := by
  rw [List.take_add_one]; simp [h]
theorem jeta (j : Json) : Json.mk j.Kind j.Flag j.Text j.Names j.Kids = j := by cases j; rfl
theorem bare_spec {j : Json} (h : bareB j = true) : (j.Kind ≠ 2 → j.Flag = false) ∧ (j.Kind ≠ 3 → j.Kind ≠ 4 → j.Text = []) ∧ (j.Kind < 5 → j.Kids = []) ∧ (j.Kind ≠ 6 → j.Names = []) := by
  unfold bareB at h
  simp only [Bool.not_eq_true', Bool.or_eq_false_iff, Bool.and_eq_false_iff, bne_eq_false_iff_eq, Bool.not_eq_false', beq_iff_eq, decide_eq_false_iff_not] at h
  obtain ⟨⟨⟨h1, h2⟩, h3⟩, h4⟩ := h
  refine ⟨fun k => ?_, fun k k' => ?_, fun k => ?_, fun k => ?_⟩
  · rcases h1 with h1 | h1
    · exact h1
    · exact absurd h1 k
  · rcases h2 with (h2 | h2) | h2
    · exact h2
    · exact absurd h2 k
    · exact absurd h2 k'
  · rcases h3 with h3 | h3
    · exact absurd k h3
    · exact List.length_eq_zero_iff.1 (by omega)
  · rcases h4 with h4 | h4
    · exact absurd h4 k
    · exact List.length_eq_zero_iff.1 (by omega)
theorem RT {s : Str} (hs : Big s.length) : ∀ d : Nat, d ≤ 5 → ∀ j, okd d j = true → k40 d j = true → ∀ p u, p ≤ s.length → s.drop p = wr d j ++ u → stop u →
    spec_l31Rd_value (rdr s p true) (d : Int) = some (j, rdr s (p + (wr d j).length) true) := by
  intro d
  induction d with
  | zero => intro _ j h; cases h
  | succ d ih =>
    intro hd j ho hk p u hp hdr hu
    have ed : w64 (((d + 1 : Nat) : Int) - 1) = (d : Int) := by rw [w64s (by omega) (by omega)]; omega
    obtain ⟨hn, hok⟩ := okd_node ho
    obtain ⟨hb, hkk⟩ := node_bare hn
    have hk0 := hk
    unfold k40 at hk
    simp only [Bool.and_eq_true, decide_eq_true_eq, List.all_eq_true] at hk
    obtain ⟨c, r, hw, hc93, hc125, hd1, hd2, hd3, hd4, hd5, hd6⟩ := wr_head ho
    have hhead : s.drop p = c :: (r ++ u) := by rw [hdr, hw]; rfl
    have hplt : p < s.length := by
      have := congrArg List.length hhead
      rw [List.length_drop] at this; simp at this; omega
    have hsp : s[p] = c := by
      have := drop_lt hplt
      rw [hhead] at this
      exact (List.cons.inj this).1.symm
    -- the kids
    have hkl : ∀ (e : UInt8), (e = 93 ∨ e = 125) → ∀ i, i ≤ j.Kids.length → i < j.Kids.length → ∀ q v, q ≤ s.length → s.drop q = (its (item j d (wr d)) j.Kids.length i).tail ++ (e :: v) →
        spec_l31Rd_kids_l0 (Json.mk j.Kind false [] [] []) [e] ((d + 1 : Nat) : Int) s (q : Int) true (if j.Kind = 6 then j.Names.take i else []) (j.Kids.take i) =
          some (.inr (Json.mk j.Kind false [] (if j.Kind = 6 then j.Names else []) j.Kids, rdr s (q + (its (item j d (wr d)) j.Kids.length i).tail.length + 1) true)) := by
      intro e he
      refine down (fun h => absurd h (by omega)) ?_
      intro i hi ihi _ q v hq hqd
      have hmem : j.Kids[i] ∈ j.Kids := List.getElem_mem _
      have hit : (its (item j d (wr d)) j.Kids.length i).tail = item j d (wr d) i ++ its (item j d (wr d)) j.Kids.length (i + 1) := by rw [its_lt hi]; rfl
      rw [hit] at hqd ⊢
      have hbody : ∀ (q2 : Nat) (o2 : List Str), q2 ≤ s.length → s.drop q2 = wr d j.Kids[i] ++ (its (item j d (wr d)) j.Kids.length (i + 1) ++ (e :: v)) → o2 = (if j.Kind = 6 then j.Names.take (i + 1) else []) →
          (spec_l31Rd_value (rdr s q2 true) (w64 (((d + 1 : Nat) : Int) - 1)) >>= fun r4 =>
              apd 80 (j.Kids.take i) [r4.1] >>= fun out6 =>
              spec_l31Rd_take r4.2 [e] >>= fun r5 =>
              (if r5.1 = true then
              some (.inr ((Json.mk j.Kind false [] o2 out6), r5.2))
              else
              spec_l31Rd_take r5.2 [44] >>= fun r6 =>
              spec_l31Rd_kids_l0 (Json.mk j.Kind false [] [] []) [e] ((d + 1 : Nat) : Int) r6.2.s r6.2.at_ r6.1 o2 out6)) =
            some (.inr (Json.mk j.Kind false [] (if j.Kind = 6 then j.Names else []) j.Kids, rdr s (q2 + (wr d j.Kids[i]).length + (its (item j d (wr d)) j.Kids.length (i + 1)).length + 1) true)) := by
        intro q2 o2 hq2 hdq ho2
        have hp3 := le_app hq2 hdq
        have hd3 := drop_app hdq
        rcases its_nil_or (f := item j d (wr d)) (n := j.Kids.length) (i := i + 1) (by omega) with ⟨e0, e1⟩ | ⟨e0, e1⟩
        · rw [e0, List.nil_append] at hd3 hdq
          rw [ed, ih (by omega) _ (hok _ hmem) (hk.2 _ hmem) q2 (e :: v) hq2 hdq (stop_cons (by rcases he with rfl | rfl <;> simp) _), sb, apd_ok (by simp; omega), sb, takeT hs hp3 (t := [e]) hd3, sb, ift, ho2, e0]
          rw [← take_succ' hi, e1, List.take_length]
          by_cases k6 : j.Kind = 6
          · rw [if_pos k6, if_pos k6, List.take_of_length_le (by have := (node6 hn k6).1; omega)]; rfl
          · rw [if_neg k6, if_neg k6]; rfl
        · rw [e1] at hd3 hdq
          have hd3' : s.drop (q2 + (wr d j.Kids[i]).length) = 44 :: (item j d (wr d) (i + 1) ++ its (item j d (wr d)) j.Kids.length (i + 1 + 1) ++ (e :: v)) := by rw [hd3]; simp
          have hd4 : s.drop (q2 + (wr d j.Kids[i]).length) = [44] ++ (item j d (wr d) (i + 1) ++ its (item j d (wr d)) j.Kids.length (i + 1 + 1) ++ (e :: v)) := hd3'
          rw [ed, ih (by omega) _ (hok _ hmem) (hk.2 _ hmem) q2 _ hq2 hdq (by rw [List.cons_append]; exact stop_cons (.inl rfl) _), sb, apd_ok (by simp; omega), sb, takeF hs hp3 hd3' (by rcases he with rfl | rfl <;> decide), sb, if_neg (by simp), takeT hs hp3 hd4, sb, ← take_succ' hi, ho2]
          have h5 := ihi e0 (q2 + (wr d j.Kids[i]).length + 1) v (le_app hp3 hd4) (by rw [e1, List.tail_cons]; exact drop_app hd4)
          rw [show ([44] : Str).length = 1 from rfl]
          refine h5.trans ?_
          rw [e1, List.tail_cons, List.length_cons]
          congr 3
          simp only [rdr]
          congr 1
          omega
      rw [spec_l31Rd_kids_l0, show (decide (((j.Kids.take i).length : Int) < 40)) = true by simp; omega, Bool.true_and, ift]
      by_cases k6 : j.Kind = 6
      · have h6 := node6 hn k6
        have hin : i < j.Names.length := by omega
        have ei : item j d (wr d) i = 34 :: (j.Names[i] ++ (34 :: 58 :: wr d j.Kids[i])) := by unfold item; rw [if_pos k6, getD_lt hi, getD_lt hin]
        rw [ei] at hqd ⊢
        have hq1 : s.drop q = 34 :: (j.Names[i] ++ 34 :: ([58] ++ (wr d j.Kids[i] ++ (its (item j d (wr d)) j.Kids.length (i + 1) ++ (e :: v))))) := by rw [hqd]; simp
        have hq1' : s.drop q = (34 :: (j.Names[i] ++ [34])) ++ ([58] ++ (wr d j.Kids[i] ++ (its (item j d (wr d)) j.Kids.length (i + 1) ++ (e :: v)))) := by rw [hq1]; simp
        have hq2 := le_app hq hq1'
        have hq2d := drop_app hq1'
        have el : (34 :: (j.Names[i] ++ [34]) : Str).length = j.Names[i].length + 2 := by simp
        rw [el, ← Nat.add_assoc] at hq2 hq2d
        rw [show ((Json.mk j.Kind false [] [] []).Kind == 6) = true by simpa using k6, ift, show L31Rd.mk s (q : Int) true = rdr s q true from rfl, quoteT hs hq hq1 (names34 h6.2 hin), sb, if_pos k6, apd_ok (by simp; omega), sb, takeT hs hq2 hq2d, sb, sb]
        refine (hbody (q + j.Names[i].length + 2 + 1) _ (le_app hq2 hq2d) (drop_app hq2d) (by rw [if_pos k6, take_succ' hin])).trans ?_
        congr 3
        simp only [rdr, List.length_append, List.length_cons]
        congr 1
        omega
      · have ei : item j d (wr d) i = wr d j.Kids[i] := by unfold item; rw [if_neg k6, getD_lt hi]
        rw [ei] at hqd ⊢
        rw [show ((Json.mk j.Kind false [] [] []).Kind == 6) = false by simpa using k6, iff_, sb, if_neg k6]
        refine (hbody q [] hq (by rw [hqd, List.append_assoc]) (by rw [if_neg k6])).trans ?_
        rw [List.length_append]
        congr 3
        simp only [rdr]
        congr 1
        omega
    have hkids : ∀ (e : UInt8), (e = 93 ∨ e = 125) → ∀ q v, q ≤ s.length → s.drop q = items (item j d (wr d)) j.Kids.length ++ (e :: v) →
        spec_l31Rd_kids (rdr s q true) (Json.mk j.Kind false [] [] []) [e] ((d + 1 : Nat) : Int) = some (Json.mk j.Kind false [] (if j.Kind = 6 then j.Names else []) j.Kids, rdr s (q + (items (item j d (wr d)) j.Kids.length).length + 1) true) := by
      intro e he q v hq hqd
      rw [spec_l31Rd_kids]
      by_cases h0 : 0 < j.Kids.length
      · obtain ⟨c1, r1, hw1, w93, w125, _⟩ : ∃ c1 r1, items (item j d (wr d)) j.Kids.length = c1 :: r1 ∧ c1 ≠ 93 ∧ c1 ≠ 125 ∧ True := by
          unfold items
          rw [its_lt h0, List.tail_cons]
          unfold item
          have hmem : j.Kids[0] ∈ j.Kids := List.getElem_mem _
          split
          · exact ⟨34, _, rfl, by decide, by decide, trivial⟩
          · rw [getD_lt h0]
            cases d with
            | zero => have := hok _ hmem; cases this
            | succ d =>
              obtain ⟨c, r, h1, h2, h3, _⟩ := wr_head (hok _ hmem)
              exact ⟨c, _, by rw [h1]; rfl, h2, h3, trivial⟩
        have hqd' := hqd
        rw [hw1, List.cons_append] at hqd'
        rw [takeF hs hq hqd' (by rcases he with rfl | rfl <;> first | exact fun h => w93 h.symm | exact fun h => w125 h.symm), sb, if_neg (by simp)]
        have := hkl e he 0 (Nat.zero_le _) h0 q v hq hqd
        rw [show (j.Kids.take 0) = [] from rfl, show (if j.Kind = 6 then j.Names.take 0 else []) = ([] : List Str) by split <;> rfl] at this
        rw [show spec_l31Rd_kids_l0 (Json.mk j.Kind false [] [] []) [e] ((d + 1 : Nat) : Int) (false, rdr s q true).2.s (false, rdr s q true).2.at_ (false, rdr s q true).2.ok ([] : List Str) ([] : List Json) = _ from this, sb]
        rfl
      · have hnil : j.Kids = [] := List.length_eq_zero_iff.1 (by omega)
        have hit : items (item j d (wr d)) j.Kids.length = [] := by rw [hnil]; unfold items; rw [List.length_nil, its_end]; rfl
        rw [hit, List.nil_append] at hqd
        rw [takeT hs hq (t := [e]) hqd, sb, ift, hit, hnil]
        have : (if j.Kind = 6 then j.Names else []) = ([] : List Str) := by
          split
          · rename_i k6; have := (node6 hn k6).1; rw [hnil] at this; exact List.length_eq_zero_iff.1 this
          · rfl
        rw [this]; rfl
    obtain ⟨b1, b2, b3, b4⟩ := bare_spec hb
    have hj : ∀ (k : Int) (f : Bool) (t : Str) (ns : List Str) (ks : List Json), j.Kind = k → j.Flag = f → j.Text = t → j.Names = ns → j.Kids = ks → Json.mk k f t ns ks = j := by
      rintro k f t ns ks rfl rfl rfl rfl rfl; exact jeta j
    rw [spec_l31Rd_value, show (decide (((d + 1 : Nat) : Int) < 1)) = false by simp; omega, iff_, sb]
    have hif : ((if (!(rdr s p true).ok) = true then some true else some (decide (((rdr s p true).s.length : Int) ≤ (rdr s p true).at_))) : Option Bool) = some false := by
      simp; omega
    rw [hif, sb, if_neg (by simp), show L31Rd.mk (rdr s p true).s (rdr s p true).at_ (rdr s p true).ok = rdr s p true from rfl]
    rcases kinds hkk with k | k | k | k | k | k
    · have hw' : wr (d + 1) j = [110, 117, 108, 108] := by unfold wr; rw [if_pos k]
      rw [hw'] at hdr ⊢
      rw [takeT hs hp hdr, sb, ift, hj _ _ _ _ _ k (b1 (by omega)) (b2 (by omega) (by omega)) (b4 (by omega)) (b3 (by omega))]
    · have hc := hd2 k
      rw [takeF hs hp hhead (by rcases hc with rfl | rfl <;> decide), sb, if_neg (by simp)]
      cases hf : j.Flag with
      | true =>
        have hw' : wr (d + 1) j = [116, 114, 117, 101] := by unfold wr; rw [if_neg (by omega), if_pos k, if_pos hf]
        rw [hw'] at hdr ⊢
        rw [takeT hs hp hdr, sb, ift, hj _ _ _ _ _ k hf (b2 (by omega) (by omega)) (b4 (by omega)) (b3 (by omega))]
      | false =>
        have hw' : wr (d + 1) j = [102, 97, 108, 115, 101] := by unfold wr; rw [if_neg (by omega), if_pos k, if_neg (by simp [hf])]
        have hc2 : c = 102 := by rw [hw'] at hw; exact (List.cons.inj hw).1.symm
        rw [takeF hs hp hhead (by rw [hc2]; decide), sb, if_neg (by simp)]
        rw [hw'] at hdr ⊢
        rw [takeT hs hp hdr, sb, ift, hj _ _ _ _ _ k hf (b2 (by omega) (by omega)) (b4 (by omega)) (b3 (by omega))]
    · have hc := hd3 k
      have hne : ∀ a : UInt8, nb_ a = false → a ≠ c := fun a ha h => by rw [h, hc] at ha; cases ha
      have hw' : wr (d + 1) j = j.Text := by unfold wr; rw [if_neg (by omega), if_neg (by omega), if_pos k]
      obtain ⟨hnb, _⟩ := numB_nb (node3 hn k)
      rw [hw'] at hdr ⊢
      rw [takeF hs hp hhead (hne _ rfl), sb, if_neg (by simp), takeF hs hp hhead (hne _ rfl), sb, if_neg (by simp), takeF hs hp hhead (hne _ rfl), sb, if_neg (by simp), show rd (false, rdr s p true).2.s (false, rdr s p true).2.at_ = some s[p] from rd_lt (l := s) hplt, sb, hsp]
      rw [show ((c.toNat : Int) == 34) = false by rw [show ((c.toNat : Int) == 34) = (c == 34) from u8i _ 34 (by omega)]; have := hne 34 rfl; simpa using fun h => this h.symm, iff_]
      rw [takeF hs hp hhead (hne _ rfl), sb, if_neg (by simp), takeF hs hp hhead (hne _ rfl), sb, if_neg (by simp), show (false, rdr s p true).2 = rdr s p true from rfl, number_eq hs hp, sb]
      have htw : (s.drop p).takeWhile nb_ = j.Text := by rw [hdr]; exact tw_app hnb (stop_nb hu)
      have hre : runEnd nb_ s p = p + j.Text.length := by unfold runEnd; rw [htw]
      rw [htw, hre, hj _ _ _ _ _ k (b1 (by omega)) rfl (b4 (by omega)) (b3 (by omega))]
    · have hc := hd4 k
      subst hc
      have hw' : wr (d + 1) j = 34 :: (j.Text ++ [34]) := by unfold wr; rw [if_neg (by omega), if_neg (by omega), if_neg (by omega), if_pos k]
      have h4 := node4 hn k
      rw [hw'] at hdr ⊢
      have hdr' : s.drop p = 34 :: (j.Text ++ 34 :: u) := by rw [hdr]; simp
      rw [takeF hs hp hhead (by decide), sb, if_neg (by simp), takeF hs hp hhead (by decide), sb, if_neg (by simp), takeF hs hp hhead (by decide), sb, if_neg (by simp), show rd (false, rdr s p true).2.s (false, rdr s p true).2.at_ = some s[p] from rd_lt (l := s) hplt, sb, hsp, if_pos (by decide)]
      rw [show (false, rdr s p true).2 = rdr s p true from rfl, quoteT hs hp hdr' (fun c hc => tb34 (List.all_eq_true.1 h4.2 c hc)), sb, hj _ _ _ _ _ k (b1 (by omega)) rfl (b4 (by omega)) (b3 (by omega))]
      congr 3
      simp only [rdr, List.length_cons, List.length_append, List.length_nil]
      congr 1
    · have hc := hd5 k
      subst hc
      have hw' : wr (d + 1) j = 91 :: (items (item j d (wr d)) j.Kids.length ++ [93]) := by unfold wr; rw [if_neg (by omega), if_neg (by omega), if_neg (by omega), if_neg (by omega), if_neg (by omega)]
      rw [hw'] at hdr ⊢
      have hdr' : s.drop p = [91] ++ (items (item j d (wr d)) j.Kids.length ++ (93 :: u)) := by rw [hdr]; simp
      rw [takeF hs hp hhead (by decide), sb, if_neg (by simp), takeF hs hp hhead (by decide), sb, if_neg (by simp), takeF hs hp hhead (by decide), sb, if_neg (by simp), show rd (false, rdr s p true).2.s (false, rdr s p true).2.at_ = some s[p] from rd_lt (l := s) hplt, sb, hsp, if_neg (by decide)]
      have := hkids 93 (.inl rfl) (p + 1) u (le_app hp hdr') (drop_app hdr')
      rw [k] at this
      rw [takeT hs hp hdr', sb, ift, show ([91] : Str).length = 1 from rfl, this, sb, if_neg (by decide), hj _ _ _ _ _ k (b1 (by omega)) (b2 (by omega) (by omega)) (b4 (by omega)) rfl]
      congr 3
      simp only [rdr, List.length_cons, List.length_append, List.length_nil]
      congr 1
      omega
    · have hc := hd6 k
      subst hc
      have hw' : wr (d + 1) j = 123 :: (items (item j d (wr d)) j.Kids.length ++ [125]) := by unfold wr; rw [if_neg (by omega), if_neg (by omega), if_neg (by omega), if_neg (by omega), if_pos k]
      rw [hw'] at hdr ⊢
      have hdr' : s.drop p = [123] ++ (items (item j d (wr d)) j.Kids.length ++ (125 :: u)) := by rw [hdr]; simp
      rw [takeF hs hp hhead (by decide), sb, if_neg (by simp), takeF hs hp hhead (by decide), sb, if_neg (by simp), takeF hs hp hhead (by decide), sb, if_neg (by simp), show rd (false, rdr s p true).2.s (false, rdr s p true).2.at_ = some s[p] from rd_lt (l := s) hplt, sb, hsp, if_neg (by decide), takeF hs hp hhead (by decide), sb, if_neg (by simp)]
      have := hkids 125 (.inr rfl) (p + 1) u (le_app hp hdr') (drop_app hdr')
      rw [k] at this
      rw [takeT hs hp hdr', sb, ift, show ([123] : Str).length = 1 from rfl, this, sb, if_pos rfl, hj _ _ _ _ _ k (b1 (by omega)) (b2 (by omega) (by omega)) rfl rfl]
      congr 3
      simp only [rdr, List.length_cons, List.length_append, List.length_nil]
      congr 1
      omega
end Fw
