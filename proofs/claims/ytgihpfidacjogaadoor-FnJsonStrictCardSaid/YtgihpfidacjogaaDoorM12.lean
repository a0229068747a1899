/- A text of the proof of FnJsonStrict: M12. -/
import Derived.Test.YtgihpfidacjogaaDoorM11
set_option linter.unusedVariables false
set_option linter.unusedSimpArgs false
namespace Fw
open Go Go.SL
theorem impl_read (text : Str) : ∃ j b, impl_JsonRead text = some (j, b) ∧ (b = true → OKb j = true ∧ wr 5 j = text ∧ Sm j) ∧ (b = false → j = zj) ∧ (∀ j', OKb j' = true → wr 5 j' = text → b = true ∧ j = j') := by
  unfold impl_JsonRead
  by_cases hl : text ≠ [] ∧ text.length ≤ 300
  · rw [if_neg (by simp [hl.1]; omega)]
    have hs : Big text.length := by omega
    obtain ⟨j, p, e1, e2, e3, e4⟩ := implD hs 5 (Nat.le_refl _) 0 (Nat.zero_le _)
    have e1' : impl_jsonReader_value (JsonReader.mk text 0) 1 = some (j, jr text p) := e1
    rw [e1', sb]
    have hW : impl_JsonWrite (j, jr text p).1 = some (if OKb j = true then wr 5 j else []) := impl_JsonWrite_eq (e4 5)
    rw [hW, sb]
    have hRT : ∀ j', OKb j' = true → wr 5 j' = text → j = j' := by
      intro j' ho hw
      obtain ⟨h1, _, _, h4⟩ := OKb_spec ho
      have := IRT hs 5 (Nat.le_refl _) j' h1 h4 0 [] (Nat.zero_le _) (by rw [List.drop_zero, hw, List.append_nil]) stop_nil
      rw [e1, hw] at this
      exact congrArg Prod.fst (Option.some.inj this)
    by_cases hg : OKb j = true ∧ wr 5 j = text
    · refine ⟨j, true, ?_, fun _ => ⟨hg.1, hg.2, e4⟩, (fun h => by cases h), fun j' a b => ⟨rfl, hRT j' a b⟩⟩
      rw [if_pos hg.1, hg.2, if_neg (by simp)]
    · refine ⟨zj, false, ?_, (fun h => by cases h), fun _ => rfl, fun j' a b => ?_⟩
      · rw [if_pos ?_]
        have : ¬ (if OKb j = true then wr 5 j else []) = text := by
          split
          · rename_i g3; exact fun g4 => hg ⟨g3, g4⟩
          · exact fun h => hl.1 h.symm
        simp [this]
      · exfalso
        have h1 := hRT j' a b
        exact hg ⟨by rw [h1]; exact a, by rw [h1]; exact b⟩
  · rw [if_pos ?_]
    · refine ⟨zj, false, rfl, (fun h => by cases h), fun _ => rfl, fun j' a b => ?_⟩
      have h1 := (OKb_spec a).2.2.1
      have h2 := wr_ne (OKb_spec a).1
      rw [b] at h1 h2
      exact absurd ⟨h2, h1⟩ hl
    · by_cases hne : text = []
      · simp [hne]
      · simp only [Bool.or_eq_true, decide_eq_true_eq]
        right
        have : ¬ text.length ≤ 300 := fun h => hl ⟨hne, h⟩
        omega
theorem lfTexts_eq (a : List Str) (h : Big a.length) : laws_lfTexts a a = some true := by
  have h := down (n := a.length) (P := fun i => laws_lfTexts_l0 a a (i : Int) = some (.inl ())) (by rw [laws_lfTexts_l0, len_ge]; rfl) (fun i hi ih => by
    rw [laws_lfTexts_l0, len_t hi, ift, rd_lt hi, sb, sb, if_neg (by simp), sb, w64n1 (by omega), ih]) 0 (Nat.zero_le _)
  unfold laws_lfTexts
  rw [if_neg (by simp), show laws_lfTexts_l0 a a 0 = _ from h, sb]
theorem lf_node {j : Json} (h1 : Big j.Names.length) (h2 : Big j.Kids.length) (h : ∀ x ∈ j.Kids, laws_lfJson x x = some true) : laws_lfJson j j = some true := by
  have h3 := down (n := j.Kids.length) (P := fun i => laws_lfJson_l0 j j (i : Int) = some (.inl ())) (by rw [laws_lfJson_l0, len_ge]; rfl) (fun i hi ih => by
    rw [laws_lfJson_l0, len_t hi, ift, rd_lt hi, sb, sb, h _ (List.getElem_mem _), sb, if_neg (by simp), sb, w64n1 (by omega), ih]) 0 (Nat.zero_le _)
  rw [laws_lfJson, if_neg (by simp), lfTexts_eq _ h1, sb, sb, if_neg (by simp), show laws_lfJson_l0 j j 0 = _ from h3, sb]
theorem lf_eq : ∀ d j, okd d j = true → k40 d j = true → laws_lfJson j j = some true
  | 0, _, h, _ => by cases h
  | d + 1, j, ho, hk => by
    obtain ⟨hn, hok⟩ := okd_node ho
    unfold k40 at hk
    simp only [Bool.and_eq_true, decide_eq_true_eq, List.all_eq_true] at hk
    refine lf_node ?_ (by omega) (fun x hx => lf_eq d x (hok x hx) (hk.2 x hx))
    by_cases k6 : j.Kind = 6
    · have := (node6 hn k6).1; omega
    · rw [(bare_spec (node_bare hn).1).2.2.2 k6]; simp
theorem law {code : List UInt8} (hd : code.length ≤ 1048576 → ∃ s, spec_DrawJsonRead code = some s) : laws_FnJsonStrict code = some true := by
  unfold laws_FnJsonStrict
  by_cases hl : code.length ≤ 1048576
  · obtain ⟨s, hs⟩ := hd hl
    obtain ⟨j1, b1, e1, f1, g1, h1⟩ := spec_read s
    obtain ⟨j2, b2, e2, f2, g2, h2⟩ := impl_read s
    rw [if_neg (by simp; omega), hs, sb, e1, sb, e2, sb]
    cases b2 with
    | true =>
      obtain ⟨o, w, m⟩ := f2 rfl
      obtain ⟨hb, hj⟩ := h1 j2 o w
      subst hb; subst hj
      obtain ⟨ho, _, _, hk⟩ := OKb_spec o
      rw [if_neg (by simp), show laws_lfJson (j1, true).1 (j1, true).1 = some true from lf_eq 5 j1 ho hk, sb, sb, if_neg (by simp), if_neg (by simp), ift, show impl_JsonOk (j1, true).1 = some true from by rw [impl_JsonOk_eq (m 5), o], sb, sb, ift, show impl_JsonWrite (j1, true).1 = some s from by rw [impl_JsonWrite_eq (m 5), if_pos o, w], sb, sb, sb]
      simp
    | false =>
      have hj2 := g2 rfl
      have hb1 : b1 = false := by
        cases b1 with
        | false => rfl
        | true => obtain ⟨o, w⟩ := f1 rfl; exact absurd (h2 j1 o w).1 (by simp)
      subst hb1
      have hj1 := g1 rfl
      subst hj1; subst hj2
      rw [if_neg (by simp), show laws_lfJson (zj, false).1 (zj, false).1 = some true from lf_node (by simp) (by simp) (by simp), sb, sb, if_neg (by simp), if_pos (by simp)]
      rfl
  · rw [if_pos (by simp; omega)]
end Fw
