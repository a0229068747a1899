/- A text of the proof of FnJsonStrict: M9. -/
import Derived.Test.YtgihpfidacjogaaDoorM8
set_option linter.unusedVariables false
set_option linter.unusedSimpArgs false
namespace Fw
open Go Go.SL
theorem wr_ne {j : Json} (h : okd 5 j = true) : wr 5 j ≠ [] := by
  obtain ⟨c, r, h1, _⟩ := wr_head (d := 4) h
  rw [h1]; simp
theorem spec_read (text : Str) : ∃ j b, spec_JsonRead text = some (j, b) ∧ (b = true → OKb j = true ∧ wr 5 j = text) ∧ (b = false → j = zj) ∧ (∀ j', OKb j' = true → wr 5 j' = text → b = true ∧ j = j') := by
  unfold spec_JsonRead
  by_cases hl : text.length ≤ 300
  · rw [if_neg (by simp; omega)]
    have hs : Big text.length := by omega
    obtain ⟨j, p, ok, e1, e2, e3⟩ := valueD hs 5 (Nat.le_refl _) 0 (Nat.zero_le _) true
    have e1' : spec_l31Rd_value (L31Rd.mk text 0 true) 5 = some (j, rdr text p ok) := e1
    rw [e1', sb]
    have hW : spec_JsonWrite (j, rdr text p ok).1 = some (if OKb j = true then wr 5 j else []) := spec_JsonWrite_eq j
    rw [hW]
    have hRT : ∀ j', OKb j' = true → wr 5 j' = text → j = j' ∧ p = text.length ∧ ok = true := by
      intro j' ho hw
      obtain ⟨h1, _, _, h4⟩ := OKb_spec ho
      have := RT hs 5 (Nat.le_refl _) j' h1 h4 0 [] (Nat.zero_le _) (by rw [List.drop_zero, hw, List.append_nil]) stop_nil
      rw [e1, hw] at this
      have h5 := Option.some.inj this
      have h6 := congrArg Prod.fst h5
      have h7 := congrArg (fun x => x.2.at_) h5
      have h8 := congrArg (fun x => x.2.ok) h5
      simp only [rdr] at h6 h7 h8
      exact ⟨h6, by omega, h8⟩
    by_cases hg : ok = true ∧ p = text.length ∧ OKb j = true ∧ wr 5 j = text
    · obtain ⟨g1, g2, g3, g4⟩ := hg
      refine ⟨j, true, ?_, fun _ => ⟨g3, g4⟩, (fun h => by cases h), fun j' a b => ⟨rfl, (hRT j' a b).1⟩⟩
      rw [if_neg (by simp [rdr, g1, g2]), sb, sb, if_pos g3, g4]
      have hne : text ≠ [] := by rw [← g4]; exact wr_ne (OKb_spec g3).1
      rw [if_neg (by simp [hne])]
    · refine ⟨zj, false, ?_, (fun h => by cases h), fun _ => rfl, fun j' a b => ?_⟩
      · by_cases hne : text = []
        · subst hne
          split
          · rfl
          · rw [sb, sb, if_pos (by simp)]
        · by_cases g12 : ok = true ∧ p = text.length
          · rw [if_neg (by simp [rdr, g12.1, g12.2]), sb, sb, if_pos ?_]
            have : ¬ (if OKb j = true then wr 5 j else []) = text := by
              split
              · rename_i g3; exact fun g4 => hg ⟨g12.1, g12.2, g3, g4⟩
              · exact fun h => hne h.symm
            simp [this]
          · rw [if_pos ?_, sb, if_pos (by simp)]
            simp only [rdr, Bool.or_eq_true, Bool.not_eq_true', bne_iff_ne, ne_eq]
            by_cases h1 : ok = true
            · right; intro h; exact g12 ⟨h1, by omega⟩
            · left; simpa using h1
      · exfalso
        obtain ⟨h1, h2, h3⟩ := hRT j' a b
        exact hg ⟨h3, h2, by rw [h1]; exact a, by rw [h1]; exact b⟩
  · rw [if_pos (by simp; omega)]
    refine ⟨zj, false, rfl, (fun h => by cases h), fun _ => rfl, fun j' a b => ?_⟩
    have := (OKb_spec a).2.2.1
    rw [b] at this; omega
/-! ### The program's reader -/
abbrev jr (s : Str) (p : Nat) : JsonReader := ⟨s, (p : Int)⟩
theorem hasPrefix_eq (x t : Str) : strings_HasPrefix x t = some (t.isPrefixOf x) := by
  unfold strings_HasPrefix internal_stringslite_HasPrefix
  have := l1Fits_eq x t
  unfold spec_l1Fits at this
  rw [this, sb]
theorem skip_eq {s : Str} (hs : Big s.length) {p : Nat} (hp : p ≤ s.length) (t : Str) :
    impl_jsonReader_skip (jr s p) t = some (if (t.isPrefixOf (s.drop p)) = true then (true, jr s (p + t.length)) else (false, jr s p)) := by
  unfold impl_jsonReader_skip jr
  rw [cutE hp, sb, hasPrefix_eq, sb]
  cases hf : t.isPrefixOf (s.drop p) with
  | false => rfl
  | true =>
    have := (List.isPrefixOf_iff_prefix.1 hf).length_le
    rw [List.length_drop] at this
    rw [ift, w64s (by simp only; omega) (by simp only; omega)]
    rfl
theorem skip_cases {s : Str} (hs : Big s.length) {p : Nat} (hp : p ≤ s.length) (t : Str) : ∃ b p', impl_jsonReader_skip (jr s p) t = some (b, jr s p') ∧ p ≤ p' ∧ p' ≤ s.length := by
  rw [skip_eq hs hp]
  cases h : t.isPrefixOf (s.drop p) with
  | false => exact ⟨false, p, rfl, Nat.le_refl _, hp⟩
  | true => exact ⟨true, _, rfl, by omega, pre_le h hp⟩
theorem skipT {s : Str} (hs : Big s.length) {p : Nat} (hp : p ≤ s.length) {t u : Str} (h : s.drop p = t ++ u) : impl_jsonReader_skip (jr s p) t = some (true, jr s (p + t.length)) := by
  rw [skip_eq hs hp, h, show t.isPrefixOf (t ++ u) = true from List.isPrefixOf_iff_prefix.2 ⟨u, rfl⟩]; rfl
theorem skipF {s : Str} (hs : Big s.length) {p : Nat} (hp : p ≤ s.length) {a c : UInt8} {t u : Str} (h : s.drop p = c :: u) (hac : a ≠ c) : impl_jsonReader_skip (jr s p) (a :: t) = some (false, jr s p) := by
  rw [skip_eq hs hp, h]
  have : (a :: t).isPrefixOf (c :: u) = false := by
    rw [List.isPrefixOf]
    have : (a == c) = false := by simpa using hac
    rw [this]; rfl
  rw [this]; rfl
theorem ib_neg : ∀ (l : Str) (c : UInt8), (decide (Lib.indexByte l c < 0)) = !l.contains c ∧ -1 ≤ Lib.indexByte l c
  | [], c => by simp [Lib.indexByte]
  | b :: l, c => by
    obtain ⟨h, h'⟩ := ib_neg l c
    unfold Lib.indexByte
    rw [List.contains_cons]
    by_cases e : b = c
    · subst e; simp
    · have e1 : (b == c) = false := by simpa using e
      have e2 : (c == b) = false := by simpa using fun h => e h.symm
      rw [e1, e2, Bool.false_or, ← h]
      by_cases e3 : Lib.indexByte l c = -1
      · rw [e3]; simp
      · have e4 : (Lib.indexByte l c == -1) = false := by simpa using e3
        rw [e4]
        simp only [Bool.false_eq_true, if_false]
        refine ⟨?_, by omega⟩
        rw [decide_eq_decide]; omega
theorem upTo_eq {s : Str} (hs : Big s.length) {p : Nat} (hp : p ≤ s.length) (e : Str) : impl_jsonReader_upTo (jr s p) e = some ((s.drop p).takeWhile (fun c => !e.contains c), jr s (runEnd (fun c => !e.contains c) s p)) := by
  have h : ∀ p, p ≤ s.length → impl_jsonReader_upTo_l0 (jr s p) e (p : Int) = some ((runEnd (fun c => !e.contains c) s p : Nat) : Int) ∧ ∀ q : Nat, impl_jsonReader_upTo_l0 (jr s q) e (p : Int) = some ((runEnd (fun c => !e.contains c) s p : Nat) : Int) := by
    refine down ?_ ?_
    · refine ⟨?_, fun q => ?_⟩ <;> rw [impl_jsonReader_upTo_l0, len_ge, iff_, sb, iff_, runEnd_end]
    · intro p hp ih
      have : ∀ q : Nat, impl_jsonReader_upTo_l0 (jr s q) e (p : Int) = some ((runEnd (fun c => !e.contains c) s p : Nat) : Int) := by
        intro q
        rw [impl_jsonReader_upTo_l0, len_t hp, ift, rd_lt hp, sb]
        unfold strings_IndexByte
        rw [sb, (ib_neg e s[p]).1, sb]
        cases hc : (!e.contains s[p]) with
        | true => rw [ift, w64n1 (by omega), ih.2 q, runEnd_lt hp hc]
        | false => rw [iff_, runEnd_stop hp hc]
      exact ⟨this p, this⟩
  unfold impl_jsonReader_upTo
  rw [(h p hp).1, sb, cut_run hp, sb]
theorem text_cases {s : Str} (hs : Big s.length) {p : Nat} (hp : p ≤ s.length) : ∃ t p', impl_jsonReader_text (jr s p) = some (t, jr s p') ∧ p ≤ p' ∧ p' ≤ s.length ∧ t.length ≤ s.length := by
  unfold impl_jsonReader_text
  have h := runEnd_le (fun c => !([34] : Str).contains c) s p hp
  obtain ⟨b, p', h1, h2, h3⟩ := skip_cases hs h.2 [34]
  rw [upTo_eq hs hp, sb, h1, sb]
  refine ⟨(s.drop p).takeWhile (fun c => !([34] : Str).contains c), p', rfl, by omega, h3, ?_⟩
  unfold runEnd at h
  omega
end Fw
