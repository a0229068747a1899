/- A text of the proof of FnJsonStrict: M7. -/
import Derived.Test.YtgihpfidacjogaaDoorM6
set_option linter.unusedVariables false
set_option linter.unusedSimpArgs false
namespace Fw
open Go Go.SL
def stop (u : Str) : Prop := ∀ c, u.head? = some c → (c = 44 ∨ c = 93 ∨ c = 125)
theorem stop_nil : stop [] := fun c h => by simp at h
theorem stop_cons {c : UInt8} (h : c = 44 ∨ c = 93 ∨ c = 125) (u : Str) : stop (c :: u) := fun d h' => by simp at h'; subst h'; exact h
theorem drop_app {s x u : Str} {p : Nat} (h : s.drop p = x ++ u) : s.drop (p + x.length) = u := by
  rw [← List.drop_drop, h, List.drop_left]
theorem le_app {s x u : Str} {p : Nat} (hp : p ≤ s.length) (h : s.drop p = x ++ u) : p + x.length ≤ s.length := by
  have := congrArg List.length h
  rw [List.length_drop, List.length_append] at this; omega
theorem takeT {s : Str} (hs : Big s.length) {p : Nat} (hp : p ≤ s.length) {t u : Str} (h : s.drop p = t ++ u) : spec_l31Rd_take (rdr s p true) t = some (true, rdr s (p + t.length) true) := by
  rw [take_eq hs hp, h, show t.isPrefixOf (t ++ u) = true from List.isPrefixOf_iff_prefix.2 ⟨u, rfl⟩]; rfl
theorem takeF {s : Str} (hs : Big s.length) {p : Nat} (hp : p ≤ s.length) {a c : UInt8} {t u : Str} (h : s.drop p = c :: u) (hac : a ≠ c) : spec_l31Rd_take (rdr s p true) (a :: t) = some (false, rdr s p true) := by
  rw [take_eq hs hp, h]
  have : (a :: t).isPrefixOf (c :: u) = false := by
    rw [List.isPrefixOf]
    have : (a == c) = false := by simpa using hac
    rw [this]; rfl
  rw [this]; rfl
theorem tw_app {f : UInt8 → Bool} {x u : Str} (hx : ∀ c ∈ x, f c = true) (hu : ∀ c, u.head? = some c → f c = false) : (x ++ u).takeWhile f = x := by
  induction x with
  | nil =>
    cases u with
    | nil => rfl
    | cons c u => rw [List.nil_append, List.takeWhile_cons, if_neg (by simp [hu c rfl])]
  | cons a x ih =>
    rw [List.cons_append, List.takeWhile_cons, if_pos (hx a (by simp)), ih (fun c hc => hx c (by simp [hc]))]
theorem quoteT {s : Str} (hs : Big s.length) {p : Nat} (hp : p ≤ s.length) {x u : Str} (h : s.drop p = 34 :: (x ++ 34 :: u)) (hx : ∀ c ∈ x, c ≠ 34) : spec_l31Rd_quote (rdr s p true) = some (x, rdr s (p + x.length + 2) true) := by
  unfold spec_l31Rd_quote
  have h1 : s.drop p = [34] ++ (x ++ 34 :: u) := h
  have hp1 := le_app hp h1
  have hd1 := drop_app h1
  rw [takeT hs hp h1, sb, if_neg (by simp)]
  rw [show ([34] : Str).length = 1 from rfl] at hp1 hd1 ⊢
  rw [quote_l0_eq (true, rdr s (p + 1) true) hs (p + 1) hp1, sb, cut_run hp1, sb]
  have htw : (s.drop (p + 1)).takeWhile (fun c => !(c == 34)) = x := by
    rw [hd1]
    exact tw_app (fun c hc => by simpa using hx c hc) (fun c hc => by simp at hc; subst hc; rfl)
  have hre : runEnd (fun c => !(c == 34)) s (p + 1) = p + 1 + x.length := by unfold runEnd; rw [htw]
  rw [htw, hre]
  have h2 : s.drop (p + 1) = x ++ ([34] ++ u) := hd1
  have hd2 := drop_app h2
  have hp2 := le_app hp1 h2
  rw [show (L31Rd.mk (true, rdr s (p + 1) true).2.s (((p + 1 + x.length : Nat)) : Int) (true, rdr s (p + 1) true).2.ok) = rdr s (p + 1 + x.length) true from rfl, takeT hs hp2 hd2, sb]
  show some (x, rdr s (p + 1 + x.length + 1) true) = _
  rw [show p + 1 + x.length + 1 = p + x.length + 2 by omega]
theorem node_bare {j : Json} (h : node j = true) : bareB j = true ∧ kindB j = true := by simpa [node] using h
theorem tb34 {c : UInt8} (h : tb c = true) : c ≠ 34 := by rintro rfl; revert h; decide
theorem nbt34 {c : UInt8} (h : nbt c = true) : c ≠ 34 := by rintro rfl; revert h; decide
theorem db_nb {c : UInt8} (h : db c = true) : nb_ c = true := by
  unfold db at h; unfold nb_; simp at h ⊢; omega
theorem numB_nb {t : Str} (h : numB t = true) : (∀ c ∈ t, nb_ c = true) ∧ t ≠ [] := by
  unfold numB at h
  simp only [Bool.or_eq_true, Bool.and_eq_true, decide_eq_true_eq, beq_iff_eq, List.all_eq_true] at h
  rcases h with rfl | ⟨⟨⟨h1, _⟩, _⟩, h2⟩
  · exact ⟨by decide, by simp⟩
  · cases t with
    | nil => simp [unm] at h1
    | cons c l =>
      refine ⟨?_, by simp⟩
      by_cases hc : c = 45
      · subst hc
        rw [unm_minus] at h2
        intro x hx
        rcases List.mem_cons.1 hx with rfl | hx
        · rfl
        · exact db_nb (h2 x hx)
      · rw [unm_other hc] at h2
        exact fun x hx => db_nb (h2 x hx)
theorem stop_nb {u : Str} (h : stop u) : ∀ c, u.head? = some c → nb_ c = false := fun c hc => by
  rcases h c hc with rfl | rfl | rfl <;> rfl
theorem kinds {j : Json} (h : kindB j = true) : j.Kind = 1 ∨ j.Kind = 2 ∨ j.Kind = 3 ∨ j.Kind = 4 ∨ j.Kind = 5 ∨ j.Kind = 6 := by
  unfold kindB at h
  simp only [Bool.or_eq_true, Bool.and_eq_true, beq_iff_eq] at h
  rcases h with ((((h | h) | h) | h) | h) | h
  · exact .inl h
  · exact .inr (.inl h)
  · exact .inr (.inr (.inr (.inr (.inl h))))
  · exact .inr (.inr (.inl h.1))
  · exact .inr (.inr (.inr (.inl h.1)))
  · exact .inr (.inr (.inr (.inr (.inr h.1))))
/-- how a written value begins -/
theorem wr_head {d : Nat} {j : Json} (h : okd (d + 1) j = true) : ∃ c r, wr (d + 1) j = c :: r ∧ c ≠ 93 ∧ c ≠ 125 ∧ (j.Kind = 1 → c = 110) ∧ (j.Kind = 2 → c = 116 ∨ c = 102) ∧ (j.Kind = 3 → nb_ c = true) ∧ (j.Kind = 4 → c = 34) ∧ (j.Kind = 5 → c = 91) ∧ (j.Kind = 6 → c = 123) := by
  obtain ⟨hn, _⟩ := okd_node h
  have hnb : ∀ c : UInt8, nb_ c = true → c ≠ 93 ∧ c ≠ 125 := fun c hc => ⟨by rintro rfl; revert hc; decide, by rintro rfl; revert hc; decide⟩
  unfold wr
  rcases kinds (node_bare hn).2 with k | k | k | k | k | k
  · rw [k]; exact ⟨110, _, rfl, by decide, by decide, by simp, by simp, by simp, by simp, by simp, by simp⟩
  · rw [k]; cases j.Flag
    · exact ⟨102, _, rfl, by decide, by decide, by simp, by simp, by simp, by simp, by simp, by simp⟩
    · exact ⟨116, _, rfl, by decide, by decide, by simp, by simp, by simp, by simp, by simp, by simp⟩
  · obtain ⟨h1, h2⟩ := numB_nb (node3 hn k)
    rw [k]
    cases ht : j.Text with
    | nil => exact absurd ht h2
    | cons c r =>
      have hc := h1 c (by rw [ht]; simp)
      exact ⟨c, r, rfl, (hnb c hc).1, (hnb c hc).2, by simp, by simp, fun _ => hc, by simp, by simp, by simp⟩
  · rw [k]; exact ⟨34, _, rfl, by decide, by decide, by simp, by simp, by simp, by simp, by simp, by simp⟩
  · rw [k]; exact ⟨91, _, rfl, by decide, by decide, by simp, by simp, by simp, by simp, by simp, by simp⟩
  · rw [k]; exact ⟨123, _, rfl, by decide, by decide, by simp, by simp, by simp, by simp, by simp, by simp⟩
theorem names34 {l : List Str} (h : namesB l = true) {i : Nat} (hi : i < l.length) : ∀ c ∈ l[i], c ≠ 34 := by
  have := allF_iff.1 h i hi (Nat.zero_le _)
  unfold nameP nameB at this
  simp only [Bool.and_eq_true, decide_eq_true_eq, List.all_eq_true] at this
  rw [getD_lt hi] at this
  exact fun c hc => nbt34 (this.1.1 c hc)
end Fw
