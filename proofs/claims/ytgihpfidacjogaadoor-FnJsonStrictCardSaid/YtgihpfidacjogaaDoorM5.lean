/- A text of the proof of FnJsonStrict: M5. -/
import Derived.Test.YtgihpfidacjogaaDoorM4
set_option linter.unusedVariables false
set_option linter.unusedSimpArgs false
namespace Fw
open Go Go.SL
def OKb (j : Json) : Bool := okd 5 j && (decide (sz 5 j ≤ 40) && decide ((wr 5 j).length ≤ 300))
theorem sum_ge_len (d : Nat) : ∀ l : List Json, l.length ≤ (l.map (sz d)).sum
  | [] => by simp
  | a :: l => by
    have := sum_ge_len d l; have := sz_pos d a
    rw [List.map_cons, List.sum_cons, List.length_cons]; omega
theorem mem_le (d : Nat) : ∀ {l : List Json} {x : Json}, x ∈ l → sz d x ≤ (l.map (sz d)).sum
  | a :: l, x, h => by
    rw [List.map_cons, List.sum_cons]
    rcases List.mem_cons.1 h with rfl | h
    · omega
    · have := mem_le d h; omega
theorem k40_of : ∀ d j, sz d j ≤ 41 → k40 d j = true
  | 0, _, _ => rfl
  | d + 1, j, h => by
    unfold sz at h
    unfold k40
    have := sum_ge_len d j.Kids
    simp only [Bool.and_eq_true, decide_eq_true_eq, List.all_eq_true]
    exact ⟨by omega, fun x hx => k40_of d x (by have := mem_le d hx; omega)⟩
theorem spec_JsonOk_eq (j : Json) : spec_JsonOk j = some (OKb j) := by
  unfold spec_JsonOk OKb
  have h := l31Deep_eq 5 (Nat.le_refl _) j
  rw [show ((5 : Nat) : Int) = 5 from rfl] at h
  rw [h, sb]
  cases ho : okd 5 j with
  | false => rfl
  | true =>
    cases hk : k40 5 j with
    | false =>
      have : ¬ sz 5 j ≤ 40 := fun h => by rw [k40_of 5 j (by omega)] at hk; cases hk
      rw [decide_eq_false this]; rfl
    | true =>
      rw [show (true && true) = true from rfl, ift, l31Size_eq 5 (Nat.le_refl _) j ho hk, sb, sb]
      by_cases h40 : sz 5 j ≤ 40
      · rw [show (decide ((sz 5 j : Int) ≤ 40)) = true by simp; omega, ift, l31Write_eq 5 (Nat.le_refl _) j ho hk, sb, sb, decide_eq_true h40]
        simp; omega
      · rw [show (decide ((sz 5 j : Int) ≤ 40)) = false by simp; omega, decide_eq_false h40]; rfl
theorem OKb_spec {j : Json} (h : OKb j = true) : okd 5 j = true ∧ sz 5 j ≤ 40 ∧ (wr 5 j).length ≤ 300 ∧ k40 5 j = true := by
  unfold OKb at h
  simp only [Bool.and_eq_true, decide_eq_true_eq] at h
  exact ⟨h.1, h.2.1, h.2.2, k40_of 5 j (by omega)⟩
theorem spec_JsonWrite_eq (j : Json) : spec_JsonWrite j = some (if OKb j = true then wr 5 j else []) := by
  unfold spec_JsonWrite
  rw [spec_JsonOk_eq, sb]
  cases h : OKb j with
  | false => rfl
  | true =>
    obtain ⟨h1, _, _, h4⟩ := OKb_spec h
    rw [if_neg (by simp), l31Write_eq 5 (Nat.le_refl _) j h1 h4]; rfl
/-! ### The program's half -/
/-- of a size that a machine holds -/
def sm : Nat → Json → Prop
  | 0, _ => True
  | d + 1, j => Big j.Text.length ∧ Big j.Names.length ∧ (∀ x ∈ j.Names, Big x.length) ∧ Big j.Kids.length ∧ ∀ x ∈ j.Kids, sm d x
theorem implok (t : Json) (h : Big t.Text.length ∧ Big t.Names.length ∧ (∀ x ∈ t.Names, Big x.length) ∧ Big t.Kids.length) : ((if (t.Kind == 1) = true then
  some (((!t.Flag) && (t.Text == [])) && (((t.Names.length : Int) == 0) && ((t.Kids.length : Int) == 0)))
  else
  (if (t.Kind == 2) = true then
  some ((t.Text == []) && (((t.Names.length : Int) == 0) && ((t.Kids.length : Int) == 0)))
  else
  (if (t.Kind == 3) = true then
  (if ((!t.Flag) && (((t.Names.length : Int) == 0) && ((t.Kids.length : Int) == 0))) = true then
  impl_numOk t.Text >>= fun r =>
  some r
  else
  some false) >>= fun b =>
  some b
  else
  (if (t.Kind == 4) = true then
  (if ((!t.Flag) && (((t.Names.length : Int) == 0) && ((t.Kids.length : Int) == 0))) = true then
  impl_textOk t.Text 20 >>= fun r1 =>
  some r1
  else
  some false) >>= fun b1 =>
  some b1
  else
  (if (t.Kind == 5) = true then
  some (((!t.Flag) && (t.Text == [])) && ((t.Names.length : Int) == 0))
  else
  (if (t.Kind == 6) = true then
  (if (((!t.Flag) && (t.Text == [])) && ((t.Names.length : Int) == (t.Kids.length : Int))) = true then
  impl_namesOk t.Names >>= fun r2 =>
  some r2
  else
  some false) >>= fun b2 =>
  some b2
  else
  some false)))))) : Option Bool) = some (node t) := by
  obtain ⟨k, f, x, ns, ks⟩ := t
  obtain ⟨h1, h2, h3, h4⟩ := h
  simp only at h1 h2 h3 h4 ⊢
  rw [numOk_eq _ h1, textOk_eq _ _ h1, namesOk_eq _ h2 h3]
  have e1 : ((ns.length : Int) == 0) = decide (ns = []) := by cases ns <;> first | (simp; done) | (simp; omega)
  have e2 : ((ks.length : Int) == 0) = decide (ks = []) := by cases ks <;> first | (simp; done) | (simp; omega)
  have e3 : (decide (0 < (ns.length : Int))) = !decide (ns = []) := by cases ns <;> first | (simp; done) | (simp; omega)
  have e4 : (decide (0 < (ks.length : Int))) = !decide (ks = []) := by cases ks <;> first | (simp; done) | (simp; omega)
  have e5 : (x == []) = decide (x = []) := by cases x <;> simp
  have e6 : ((ns.length : Int) == (ks.length : Int)) = decide (ns.length = ks.length) := by rw [Bool.eq_iff_iff]; simp; omega
  have e7 : (decide ((x.length : Int) ≤ 20)) = decide (x.length ≤ 20) := by rw [decide_eq_decide]; omega
  unfold node bareB kindB
  simp only [e1, e2, e3, e4, e5, e6, e7]
  by_cases k1 : k = 1
  · subst k1; cases f <;> by_cases hx : x = [] <;> by_cases hn : ns = [] <;> by_cases hk : ks = [] <;> simp [hx, hn, hk]
  by_cases k2 : k = 2
  · subst k2; cases f <;> by_cases hx : x = [] <;> by_cases hn : ns = [] <;> by_cases hk : ks = [] <;> simp [hx, hn, hk]
  by_cases k3 : k = 3
  · subst k3; cases f <;> by_cases hn : ns = [] <;> by_cases hk : ks = [] <;> simp [hn, hk]
  by_cases k4 : k = 4
  · subst k4; cases f <;> by_cases hn : ns = [] <;> by_cases hk : ks = [] <;> simp [hn, hk, Bool.and_comm]
  by_cases k5 : k = 5
  · subst k5; cases f <;> by_cases hx : x = [] <;> by_cases hn : ns = [] <;> simp [hx, hn]
  by_cases k6 : k = 6
  · subst k6; cases f <;> by_cases hx : x = [] <;> by_cases hl : ns.length = ks.length <;> simp [hx, hl]
  simp [k1, k2, k3, k4, k5, k6]
theorem sum0 (f : Json → Nat) (l : List Json) (i : Nat) (hi : i ≤ l.length) (h : l.length ≤ i) : ((l.drop i).map f).sum = 0 := by rw [List.drop_of_length_le h]; rfl
theorem formed_eq : ∀ d : Nat, d ≤ 5 → ∀ t, sm d t → ∀ A : Nat, A ≤ 40 → ∃ A' : Int, impl_Json_formed t (6 - (d : Int)) (A : Int) = some (okd d t && decide (sz d t ≤ A), A') ∧ (okd d t = true → sz d t ≤ A → A' = ((A - sz d t : Nat) : Int)) := by
  intro d
  induction d with
  | zero =>
    intro _ t _ A hA
    rw [impl_Json_formed, if_pos (by simp)]
    exact ⟨_, rfl, fun h => by cases h⟩
  | succ d ih =>
    intro hd t hs A hA
    obtain ⟨h1, h2, h3, h4, h5⟩ := hs
    rw [impl_Json_formed]
    by_cases hA0 : A = 0
    · subst hA0
      rw [if_pos (by rw [w64s (by omega) (by omega)]; simp)]
      have := sz_pos (d + 1) t
      refine ⟨w64 (((0 : Nat) : Int) - 1), ?_, fun _ h => by omega⟩
      rw [decide_eq_false (by omega : ¬ sz (d + 1) t ≤ 0), Bool.and_false]
    · have eA : w64 ((A : Int) - 1) = ((A - 1 : Nat) : Int) := by rw [w64s (by omega) (by omega)]; omega
      have eo : w64 (6 - ((d + 1 : Nat) : Int) + 1) = 6 - (d : Int) := by rw [w64s (by omega) (by omega)]; omega
      rw [eA, if_neg (by simp; omega), implok t ⟨h1, h2, h3, h4⟩, sb]
      have hloop : ∀ i, i ≤ t.Kids.length → ∀ B : Nat, B ≤ 40 → ∃ A' : Int, impl_Json_formed_l1 t (6 - ((d + 1 : Nat) : Int)) true (i : Int) (B : Int) = some ((t.Kids.drop i).all (okd d) && decide (((t.Kids.drop i).map (sz d)).sum ≤ B), A') ∧ ((t.Kids.drop i).all (okd d) = true → ((t.Kids.drop i).map (sz d)).sum ≤ B → A' = ((B - ((t.Kids.drop i).map (sz d)).sum : Nat) : Int)) := by
        refine down ?_ ?_
        · intro B hB
          rw [impl_Json_formed_l1, len_ge, Bool.false_and, iff_, List.drop_length]
          exact ⟨(B : Int), by simp, fun _ _ => by simp⟩
        · intro i hi ihi B hB
          have hmem : t.Kids[i] ∈ t.Kids := List.getElem_mem _
          obtain ⟨A1, e1, e2⟩ := ih (by omega) t.Kids[i] (h5 _ hmem) B hB
          rw [impl_Json_formed_l1, len_t hi, Bool.true_and, ift, rd_lt hi, sb, eo, e1, sb, sum_drop (sz d) _ i hi, drop_lt hi, List.all_cons]
          cases ho : okd d t.Kids[i] with
          | false =>
            rw [impl_Json_formed_l1]
            exact ⟨A1, by simp, fun h => by simp at h⟩
          | true =>
            by_cases hB2 : sz d t.Kids[i] ≤ B
            · obtain ⟨A2, e3, e4⟩ := ihi (B - sz d t.Kids[i]) (by omega)
              rw [decide_eq_true hB2, e2 ho hB2, w64n1 (by omega)]
              refine ⟨A2, ?_, fun h3 h4 => ?_⟩
              · rw [show (true && true) = true from rfl, e3]
                congr 3
                rw [decide_eq_decide]; omega
              · rw [e4 (by simpa using h3) (by omega)]; congr 1; omega
            · rw [decide_eq_false hB2, impl_Json_formed_l1]
              refine ⟨A1, ?_, fun _ h => by omega⟩
              rw [decide_eq_false (by omega : ¬ sz d t.Kids[i] + ((t.Kids.drop (i + 1)).map (sz d)).sum ≤ B)]
              simp
      cases hn : node t with
      | false =>
        rw [impl_Json_formed_l1, Bool.and_false, iff_, sb]
        refine ⟨((A - 1 : Nat) : Int), ?_, fun h => ?_⟩
        · unfold okd; rw [hn]; rfl
        · unfold okd at h; rw [hn] at h; cases h
      | true =>
        obtain ⟨A', e1, e2⟩ := hloop 0 (Nat.zero_le _) (A - 1) (by omega)
        rw [show ((0 : Nat) : Int) = 0 from rfl] at e1
        rw [e1, sb, List.drop_zero]
        refine ⟨A', ?_, fun h h' => ?_⟩
        · unfold okd sz; rw [hn, Bool.true_and]
          have e : decide ((t.Kids.map (sz d)).sum ≤ A - 1) = decide (1 + (t.Kids.map (sz d)).sum ≤ A) := by rw [decide_eq_decide]; omega
          rw [e]
        · unfold okd at h; rw [hn, Bool.true_and] at h
          unfold sz at h' ⊢
          rw [List.drop_zero] at e2
          rw [e2 h (by omega)]; congr 1; omega
/-! ### writing, the program's way -/
theorem join_its (f : Nat → Str) (n : Nat) : Lib.join ((List.range n).map f) [44] = items f n := by
  have h : ∀ m i, n = i + m → (((List.range' i m).map f).map ([44] ++ ·)).flatten = its f n i := by
    intro m
    induction m with
    | zero => intro i h; rw [h]; simp [its_end]
    | succ m ih =>
      intro i h
      rw [its_lt (by omega : i < n), ← ih (i + 1) (by omega), List.range'_succ]
      simp
  have h0 := h n 0 (by omega)
  rw [← List.range_eq_range'] at h0
  unfold items
  rw [← h0]
  unfold Lib.join
  cases hn : (List.range n).map f with
  | nil => rfl
  | cons a l =>
    rw [List.map_cons, List.flatten_cons]
    have : ∀ (l : List Str) (a : Str), List.intercalate [44] (a :: l) = a ++ (l.map ([44] ++ ·)).flatten := by
      intro l
      induction l with
      | nil => intro a; simp [List.intercalate, List.intersperse]
      | cons b l ih =>
        intro a
        have := ih b
        simp only [List.intercalate] at this ⊢
        rw [List.intersperse_cons_cons] 
        simp only [List.flatten_cons, List.map_cons] at this ⊢
        rw [this]; simp
    rw [this]; rfl
theorem impl_write_eq : ∀ d, d ≤ 5 → ∀ j, okd d j = true → k40 d j = true → impl_Json_write j = some (wr d j) := by
  intro d
  induction d with
  | zero => intro _ j h; cases h
  | succ d ih =>
    intro hd j ho hk
    obtain ⟨hn, hok⟩ := okd_node ho
    unfold k40 at hk
    simp only [Bool.and_eq_true, decide_eq_true_eq, List.all_eq_true] at hk
    have hs : ∀ i, i ≤ j.Kids.length → ((j.Kids.drop i).map (sz d)).sum ≤ 40 * 115856201 := fun i hi => sum_le d _ (by simp; omega) (fun x hx => hk.2 x (List.mem_of_mem_drop hx)) (by omega)
    have hw : ∀ x ∈ j.Kids, (wr d x).length + 12 ≤ 40 * sz d x := fun x hx => wr_len d x (hok x hx)
    have hil := its_len (fun i hi => item_len hn hw hi)
    have hloop : ∀ i, i ≤ j.Kids.length → ∀ out : List Str, out.length ≤ i → impl_Json_write_l0 j (i : Int) out = some (out ++ (List.range' i (j.Kids.length - i)).map (item j d (wr d))) := by
      refine down ?_ ?_
      · intro out _
        rw [impl_Json_write_l0, len_ge, iff_]; simp
      · intro i hi ihi out hout
        have hmem : j.Kids[i] ∈ j.Kids := List.getElem_mem _
        have hlen := item_len hn hw hi
        have hsz : sz d j.Kids[i] ≤ 40 * 115856201 := by
          have := hs i (by omega); rw [sum_drop (sz d) _ i hi] at this; omega
        rw [impl_Json_write_l0, len_t hi, ift, rd_lt hi, sb, ih (by omega) _ (hok _ hmem) (hk.2 _ hmem), sb]
        have hr : List.range' i (j.Kids.length - i) = i :: List.range' (i + 1) (j.Kids.length - (i + 1)) := by
          rw [show j.Kids.length - i = (j.Kids.length - (i + 1)) + 1 by omega, List.range'_succ]
        rw [hr, List.map_cons]
        by_cases k : j.Kind = 6
        · have h6 := node6 hn k
          have hin : i < j.Names.length := by omega
          have e : item j d (wr d) i = 34 :: (j.Names[i] ++ (34 :: 58 :: wr d j.Kids[i])) := by unfold item; rw [if_pos k, getD_lt hi, getD_lt hin]
          rw [e] at hlen ⊢
          simp only [List.length_cons, List.length_append] at hlen
          rw [show (j.Kind == 6) = true by simpa using k, ift, rd_lt hin, sb, cat_ok (by simp; omega), sb, cat_ok (by simp; omega), sb, cat_ok (by simp; omega), sb, sb, apd_ok (by simp; omega), sb, w64n1 (by omega), ihi _ (by simp; omega)]
          simp
        · have e : item j d (wr d) i = wr d j.Kids[i] := by unfold item; rw [if_neg k, getD_lt hi]
          rw [e]
          rw [show (j.Kind == 6) = false by simpa using k, iff_, sb, apd_ok (by simp; omega), sb, w64n1 (by omega), ihi _ (by simp; omega)]
          simp
    have hl0 := hloop 0 (Nat.zero_le _) [] (by simp)
    rw [List.nil_append, show ((0 : Nat) : Int) = 0 from rfl, Nat.sub_zero, ← List.range_eq_range'] at hl0
    have hit : (items (item j d (wr d)) j.Kids.length).length ≤ 1000000000000 := by
      have := hil 0 (Nat.zero_le _); have := hs 0 (Nat.zero_le _)
      rw [items, List.length_tail]; omega
    have hj : strings_Join ((List.range j.Kids.length).map (item j d (wr d))) [44] = some (items (item j d (wr d)) j.Kids.length) := by
      unfold strings_Join
      rw [join_its, if_pos ⟨by simp; omega, by omega⟩]
    rw [impl_Json_write, hl0, sb, wr]
    by_cases k1 : j.Kind = 1
    · simp [k1]
    by_cases k2 : j.Kind = 2
    · cases hf : j.Flag <;> simp [k2]
    by_cases k3 : j.Kind = 3
    · simp [k3]
    rw [show (j.Kind == 1) = false by simpa using k1, show (j.Kind == 2) = false by simpa using k2, show (j.Kind == 3) = false by simpa using k3, iff_, iff_, iff_, if_neg k1, if_neg k2, if_neg k3]
    by_cases k4 : j.Kind = 4
    · have h4 := node4 hn k4
      rw [show (j.Kind == 4) = true by simpa using k4, ift, if_pos k4, cat_ok (by simp; omega), sb, cat_ok (by simp; omega), sb]
      simp
    rw [show (j.Kind == 4) = false by simpa using k4, iff_, if_neg k4, hj]
    by_cases k5 : j.Kind = 5
    · rw [show (j.Kind == 5) = true by simpa using k5, ift, sb, if_neg (by omega : ¬ j.Kind = 6), cat_ok (by simp; omega), sb, cat_ok (by simp; omega), sb]
      simp
    have k6 : j.Kind = 6 := by
      have h2 : kindB j = true := (by simpa [node] using hn : bareB j = true ∧ kindB j = true).2
      unfold kindB at h2
      simp [k1, k2, k3, k4, k5] at h2
      exact h2.1
    rw [show (j.Kind == 5) = false by simpa using k5, iff_, sb, if_pos k6, cat_ok (by simp; omega), sb, cat_ok (by simp; omega), sb]
    simp
theorem impl_JsonOk_eq {j : Json} (h : sm 5 j) : impl_JsonOk j = some (OKb j) := by
  unfold impl_JsonOk OKb
  obtain ⟨A', e1, _⟩ := formed_eq 5 (Nat.le_refl _) j h 40 (Nat.le_refl _)
  rw [show (6 : Int) - ((5 : Nat) : Int) = 1 from rfl, show ((40 : Nat) : Int) = 40 from rfl] at e1
  rw [e1, sb]
  cases ho : okd 5 j with
  | false => rfl
  | true =>
    by_cases h40 : sz 5 j ≤ 40
    · rw [decide_eq_true h40, show (true && true) = true from rfl, ift, impl_write_eq 5 (Nat.le_refl _) j ho (k40_of 5 j (by omega)), sb, sb]
      simp; omega
    · rw [decide_eq_false h40]; rfl
theorem impl_JsonWrite_eq {j : Json} (h : sm 5 j) : impl_JsonWrite j = some (if OKb j = true then wr 5 j else []) := by
  unfold impl_JsonWrite
  rw [impl_JsonOk_eq h, sb]
  cases h : OKb j with
  | false => rfl
  | true =>
    obtain ⟨h1, _, _, h4⟩ := OKb_spec h
    rw [if_neg (by simp), impl_write_eq 5 (Nat.le_refl _) j h1 h4]; rfl
end Fw
