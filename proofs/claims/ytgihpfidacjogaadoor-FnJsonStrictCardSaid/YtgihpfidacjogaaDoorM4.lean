/- A text of the proof of FnJsonStrict: M4. -/
import Derived.Test.YtgihpfidacjogaaDoorM3
set_option linter.unusedVariables false
set_option linter.unusedSimpArgs false
namespace Fw
open Go Go.SL
abbrev zj : Json := ⟨0, false, [], [], []⟩
theorem unm_len (s : Str) : s.length ≤ (unm s).length + 1 := by
  cases s with
  | nil => simp
  | cons c l =>
    by_cases h : c = 45
    · subst h; rw [unm_minus]; simp
    · rw [unm_other h]; simp
theorem numB_len {s : Str} (h : numB s = true) : s.length ≤ 8 := by
  unfold numB at h
  simp only [Bool.or_eq_true, Bool.and_eq_true, decide_eq_true_eq, beq_iff_eq] at h
  rcases h with h | h
  · rw [h]; simp
  · have := unm_len s; omega
theorem namesB_len {l : List Str} (h : namesB l = true) {i : Nat} (hi : i < l.length) : (l.getD i []).length ≤ 8 := by
  have := allF_iff.1 h i hi (Nat.zero_le _)
  unfold nameP nameB at this
  simp only [Bool.and_eq_true, decide_eq_true_eq] at this
  exact this.1.2.2
theorem okd_node {d : Nat} {j : Json} (h : okd (d + 1) j = true) : node j = true ∧ ∀ x ∈ j.Kids, okd d x = true := by
  unfold okd at h
  simpa only [Bool.and_eq_true, List.all_eq_true] using h
theorem node3 {j : Json} (h : node j = true) (k : j.Kind = 3) : numB j.Text = true := by
  have h2 : kindB j = true := (by simpa [node] using h : bareB j = true ∧ kindB j = true).2
  unfold kindB at h2; rw [k] at h2; simpa using h2
theorem node4 {j : Json} (h : node j = true) (k : j.Kind = 4) : j.Text.length ≤ 20 ∧ j.Text.all tb = true := by
  have h2 : kindB j = true := (by simpa [node] using h : bareB j = true ∧ kindB j = true).2
  unfold kindB at h2; rw [k] at h2; simpa using h2
theorem node6 {j : Json} (h : node j = true) (k : j.Kind = 6) : j.Names.length = j.Kids.length ∧ namesB j.Names = true := by
  have h2 : kindB j = true := (by simpa [node] using h : bareB j = true ∧ kindB j = true).2
  unfold kindB at h2; rw [k] at h2; simpa using h2
theorem item_len {d : Nat} {j : Json} (hn : node j = true) (hw : ∀ x ∈ j.Kids, (wr d x).length + 12 ≤ 40 * sz d x) {i : Nat} (hi : i < j.Kids.length) : (item j d (wr d) i).length + 1 ≤ 40 * sz d j.Kids[i] := by
  have h := hw _ (List.getElem_mem hi)
  unfold item
  rw [getD_lt hi]
  split
  · rename_i k
    have h6 := node6 hn k
    have := namesB_len h6.2 (i := i) (by omega)
    simp only [List.length_cons, List.length_append]
    omega
  · omega
theorem its_len {f : Nat → Str} {l : List Json} {d : Nat} (h : ∀ i (hi : i < l.length), (f i).length + 1 ≤ 40 * sz d l[i]) : ∀ i, i ≤ l.length → (its f l.length i).length ≤ 40 * ((l.drop i).map (sz d)).sum := by
  refine down ?_ ?_
  · rw [its_end]; simp
  · intro i hi ih
    rw [its_lt hi, sum_drop (sz d) l i hi]
    have := h i hi
    simp only [List.length_cons, List.length_append]
    omega
theorem wr_len : ∀ d j, okd d j = true → (wr d j).length + 12 ≤ 40 * sz d j
  | 0, _, h => by cases h
  | d + 1, j, h => by
    obtain ⟨hn, hk⟩ := okd_node h
    have hw : ∀ x ∈ j.Kids, (wr d x).length + 12 ≤ 40 * sz d x := fun x hx => wr_len d x (hk x hx)
    have hi := its_len (fun i hi => item_len hn hw hi) 0 (Nat.zero_le _)
    rw [List.drop_zero] at hi
    unfold wr sz
    split
    · simp; omega
    split
    · split <;> (simp; omega)
    split
    · rename_i k; have := numB_len (node3 hn k); omega
    split
    · rename_i k; have := (node4 hn k).1; simp; omega
    split
    · simp only [items, List.length_cons, List.length_append, List.length_tail, List.length_nil]; omega
    · simp only [items, List.length_cons, List.length_append, List.length_tail, List.length_nil]; omega
theorem l31Write_eq : ∀ d, d ≤ 5 → ∀ j, okd d j = true → k40 d j = true → spec_l31Write j = some (wr d j) := by
  intro d
  induction d with
  | zero => intro _ j h; cases h
  | succ d ih =>
    intro hd j ho hk
    obtain ⟨hn, hok⟩ := okd_node ho
    unfold k40 at hk
    simp only [Bool.and_eq_true, decide_eq_true_eq, List.all_eq_true] at hk
    have hs : ∀ i, i ≤ j.Kids.length → ((j.Kids.drop i).map (sz d)).sum ≤ 40 * 115856201 := fun i hi => sum_le d _ (by simp; omega) (fun x hx => hk.2 x (List.mem_of_mem_drop hx)) (by omega)
    have hw : ∀ x ∈ j.Kids, (wr d x).length + 12 ≤ 40 * sz d x := fun x hx => wr_len d x (hok x hx)
    have hil := its_len (fun i hi => item_len hn hw hi)
    have hloop : ∀ i, i ≤ j.Kids.length → ∀ out : Str, out.length + (its (item j d (wr d)) j.Kids.length i).length ≤ 1000000000000000 → spec_l31Write_l1 j out (i : Int) = some (out ++ (if 0 < i then its (item j d (wr d)) j.Kids.length i else items (item j d (wr d)) j.Kids.length)) := by
      refine down ?_ ?_
      · intro out _
        rw [spec_l31Write_l1, len_ge, iff_, its_end]
        split
        · simp
        · rename_i h0
          have : j.Kids.length = 0 := by omega
          rw [items, this, its_end]; simp
      · intro i hi ihi out hout
        have hmem : j.Kids[i] ∈ j.Kids := List.getElem_mem _
        have hstep : ∀ o1 : Str, o1.length + (item j d (wr d) i).length + (its (item j d (wr d)) j.Kids.length (i + 1)).length ≤ 1000000000000000 →
            ((if (j.Kind == 6) = true then
              cat o1 [34] >>= fun s3 =>
              rd j.Names (i : Int) >>= fun Name =>
              cat s3 Name >>= fun s4 =>
              cat s4 [34, 58] >>= fun s5 =>
              some s5
              else
              some o1) >>= fun o_1 =>
              rd j.Kids (i : Int) >>= fun Kid =>
              spec_l31Write Kid >>= fun r =>
              cat o_1 r >>= fun s6 =>
              some (w64 ((i : Int) + 1)) >>= fun i1 =>
              spec_l31Write_l1 j s6 i1) = some (o1 ++ (item j d (wr d) i ++ its (item j d (wr d)) j.Kids.length (i + 1))) := by
          intro o1 ho1
          have hil2 := ihi
          by_cases k : j.Kind = 6
          · have h6 := node6 hn k
            have hin : i < j.Names.length := by omega
            have e : item j d (wr d) i = 34 :: (j.Names[i] ++ (34 :: 58 :: wr d j.Kids[i])) := by unfold item; rw [if_pos k, getD_lt hi, getD_lt hin]
            rw [e] at ho1 ⊢
            simp only [List.length_cons, List.length_append] at ho1
            rw [show (j.Kind == 6) = true by simpa using k, ift, cat_ok (by simp; omega), sb, rd_lt hin, sb, cat_ok (by simp; omega), sb, cat_ok (by simp; omega), sb, sb, rd_lt hi, sb, ih (by omega) _ (hok _ hmem) (hk.2 _ hmem), sb, cat_ok (by simp; omega), sb, sb, w64n1 (by omega), ihi _ (by simp; omega), if_pos (by omega)]
            simp
          · have e : item j d (wr d) i = wr d j.Kids[i] := by unfold item; rw [if_neg k, getD_lt hi]
            rw [e] at ho1 ⊢
            rw [show (j.Kind == 6) = false by simpa using k, iff_, sb, rd_lt hi, sb, ih (by omega) _ (hok _ hmem) (hk.2 _ hmem), sb, cat_ok (by omega), sb, sb, w64n1 (by omega), ihi _ (by rw [List.length_append]; omega), if_pos (by omega)]
            simp
        rw [its_lt hi] at hout
        simp only [List.length_cons, List.length_append] at hout
        rw [spec_l31Write_l1, len_t hi, ift]
        by_cases h0 : 0 < i
        · rw [show (decide ((0 : Int) < (i : Int))) = true by simp; omega, ift, cat_ok (by simp; omega), sb, sb, if_pos h0]
          refine (hstep _ (by simp; omega)).trans ?_
          rw [its_lt hi]; simp
        · rw [show (decide ((0 : Int) < (i : Int))) = false by simp; omega, iff_, sb, if_neg h0]
          refine (hstep _ (by omega)).trans ?_
          have : i = 0 := by omega
          subst this
          rw [items, its_lt hi]; simp
    have hl0 := hloop 0 (Nat.zero_le _) [] (by have := hil 0 (Nat.zero_le _); have := hs 0 (Nat.zero_le _); simp; omega)
    rw [if_neg (by omega), List.nil_append, show ((0 : Nat) : Int) = 0 from rfl] at hl0
    have hit : (items (item j d (wr d)) j.Kids.length).length ≤ 1000000000000 := by
      have := hil 0 (Nat.zero_le _); have := hs 0 (Nat.zero_le _)
      rw [items, List.length_tail]; omega
    rw [spec_l31Write, wr]
    by_cases k1 : j.Kind = 1
    · simp [k1]
    by_cases k2 : j.Kind = 2
    · cases hf : j.Flag <;> simp [k2]
    by_cases k3 : j.Kind = 3
    · simp [k3]
    rw [show (j.Kind == 1) = false by simpa using k1, show (j.Kind == 2) = false by simpa using k2, show (j.Kind == 3) = false by simpa using k3, iff_, iff_, iff_, if_neg k1, if_neg k2, if_neg k3]
    by_cases k4 : j.Kind = 4
    · have h4 := node4 hn k4
      rw [show (j.Kind == 4) = true by simpa using k4, ift, if_pos k4, cat_ok (by simp; omega), sb, cat_ok (by simp; omega), sb]
      simp
    rw [show (j.Kind == 4) = false by simpa using k4, iff_, if_neg k4, hl0, sb]
    by_cases k6 : j.Kind = 6
    · rw [show (j.Kind == 6) = true by simpa using k6, ift, if_pos k6, cat_ok (by simp; omega), sb, cat_ok (by simp; omega), sb]
      simp
    · rw [show (j.Kind == 6) = false by simpa using k6, iff_, if_neg k6, cat_ok (by simp; omega), sb, cat_ok (by simp; omega), sb]
      simp
end Fw
