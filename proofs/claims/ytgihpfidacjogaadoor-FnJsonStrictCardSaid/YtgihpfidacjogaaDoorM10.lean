/- A text of the proof of FnJsonStrict: M10. -/
import Derived.Test.YtgihpfidacjogaaDoorM9
set_option linter.unusedVariables false
set_option linter.unusedSimpArgs false
namespace Fw
open Go Go.SL
abbrev Sm (j : Json) : Prop := ∀ n, sm n j
theorem sm_mk {k : Int} {f : Bool} {t : Str} {ns : List Str} {ks : List Json} (h1 : Big t.length) (h2 : Big ns.length) (h3 : ∀ x ∈ ns, Big x.length) (h4 : Big ks.length) (h5 : ∀ x ∈ ks, Sm x) : Sm (Json.mk k f t ns ks) := by
  intro n
  cases n with
  | zero => trivial
  | succ n => exact ⟨h1, h2, h3, h4, fun x hx => h5 x hx n⟩
theorem sm_leaf {k : Int} {f : Bool} {t : Str} (h : Big t.length) : Sm (Json.mk k f t [] []) := sm_mk h (by simp) (by simp) (by simp) (by simp)
theorem implD {s : Str} (hs : Big s.length) : ∀ d : Nat, d ≤ 5 → ∀ p, p ≤ s.length → ∃ j p', impl_jsonReader_value (jr s p) (6 - (d : Int)) = some (j, jr s p') ∧ p ≤ p' ∧ p' ≤ s.length ∧ Sm j := by
  intro d
  induction d with
  | zero =>
    intro _ p hp
    rw [impl_jsonReader_value]
    exact ⟨zj, p, by simp, Nat.le_refl _, hp, sm_leaf (by simp)⟩
  | succ d ih =>
    intro hd p hp
    have ed : w64 (6 - ((d + 1 : Nat) : Int) + 1) = 6 - (d : Int) := by rw [w64s (by omega) (by omega)]; omega
    have hl1 : ∀ m, ∀ (p : Nat) (o : List Json), o.length + m = 41 → p ≤ s.length → (∀ x ∈ o, Sm x) → ∃ p' o', impl_jsonReader_value_l1 (6 - ((d + 1 : Nat) : Int)) s (p : Int) o = some (s, ((p' : Nat) : Int), o') ∧ p ≤ p' ∧ p' ≤ s.length ∧ o'.length ≤ 41 ∧ ∀ x ∈ o', Sm x := by
      intro m
      induction m with
      | zero =>
        intro p o ho hp hS
        rw [impl_jsonReader_value_l1, if_neg (by simp; omega)]
        exact ⟨p, o, rfl, Nat.le_refl _, hp, by omega, hS⟩
      | succ m ihm =>
        intro p o ho hp hS
        obtain ⟨j, p1, e1, e2, e3, e4⟩ := ih (by omega) p hp
        obtain ⟨b, p2, k1, k2, k3⟩ := skip_cases hs e3 [44]
        have hS' : ∀ x ∈ o ++ [j], Sm x := fun x hx => by
          rcases List.mem_append.1 hx with h | h
          · exact hS x h
          · rw [List.mem_singleton.1 h]; exact e4
        rw [impl_jsonReader_value_l1, if_pos (by simp; omega), ed, e1, sb, apd_ok (by simp; omega), sb, k1, sb]
        cases b with
        | false => exact ⟨p2, o ++ [j], rfl, by omega, k3, by simp; omega, hS'⟩
        | true =>
          obtain ⟨p3, o', q1, q2, q3, q4, q5⟩ := ihm p2 (o ++ [j]) (by simp; omega) k3 hS'
          exact ⟨p3, o', q1, by omega, q3, q4, q5⟩
    have hl3 : ∀ m, ∀ (p : Nat) (o : List Str) (o1 : List Json), o1.length + m = 41 → o.length = o1.length → p ≤ s.length → (∀ x ∈ o, Big x.length) → (∀ x ∈ o1, Sm x) → ∃ p' o' o1', impl_jsonReader_value_l3 (6 - ((d + 1 : Nat) : Int)) s (p : Int) o o1 = some (s, ((p' : Nat) : Int), o', o1') ∧ p ≤ p' ∧ p' ≤ s.length ∧ o'.length ≤ 41 ∧ o1'.length ≤ 41 ∧ (∀ x ∈ o', Big x.length) ∧ ∀ x ∈ o1', Sm x := by
      intro m
      induction m with
      | zero =>
        intro p o o1 ho ho' hp hB hS
        rw [impl_jsonReader_value_l3, if_neg (by simp; omega)]
        exact ⟨p, o, o1, rfl, Nat.le_refl _, hp, by omega, by omega, hB, hS⟩
      | succ m ihm =>
        intro p o o1 ho ho' hp hB hS
        obtain ⟨b1, p1, a1, a2, a3⟩ := skip_cases hs hp [34]
        obtain ⟨t, p2, c1, c2, c3, c4⟩ := text_cases hs a3
        obtain ⟨b3, p3, d1, d2, d3⟩ := skip_cases hs c3 [58]
        obtain ⟨j, p4, e1, e2, e3, e4⟩ := ih (by omega) p3 d3
        obtain ⟨b, p5, k1, k2, k3⟩ := skip_cases hs e3 [44]
        have hS' : ∀ x ∈ o1 ++ [j], Sm x := fun x hx => by
          rcases List.mem_append.1 hx with h | h
          · exact hS x h
          · rw [List.mem_singleton.1 h]; exact e4
        have hB' : ∀ x ∈ o ++ [t], Big x.length := fun x hx => by
          rcases List.mem_append.1 hx with h | h
          · exact hB x h
          · rw [List.mem_singleton.1 h]; omega
        rw [impl_jsonReader_value_l3, if_pos (by simp; omega), show JsonReader.mk s (p : Int) = jr s p from rfl, a1, sb, c1, sb, apd_ok (by simp; omega), sb, d1, sb, ed, e1, sb, apd_ok (by simp; omega), sb, k1, sb]
        cases b with
        | false => exact ⟨p5, o ++ [t], o1 ++ [j], rfl, by omega, k3, by simp; omega, by simp; omega, hB', hS'⟩
        | true =>
          obtain ⟨p6, o', o1', q1, q2, q3, q4, q5, q6, q7⟩ := ihm p5 (o ++ [t]) (o1 ++ [j]) (by simp; omega) (by simp; omega) k3 hB' hS'
          exact ⟨p6, o', o1', q1, by omega, q3, q4, q5, q6, q7⟩
    rw [impl_jsonReader_value, if_neg (by simp; omega)]
    obtain ⟨b1, p1, h1, a1, c1⟩ := skip_cases hs hp [110, 117, 108, 108]
    rw [h1, sb]
    cases b1 with
    | true => exact ⟨_, p1, rfl, a1, c1, sm_leaf (by simp)⟩
    | false =>
    obtain ⟨b2, p2, h2, a2, c2⟩ := skip_cases hs c1 [116, 114, 117, 101]
    rw [if_neg (by simp), h2, sb]
    cases b2 with
    | true => exact ⟨_, p2, rfl, by omega, c2, sm_leaf (by simp)⟩
    | false =>
    obtain ⟨b3, p3, h3, a3, c3⟩ := skip_cases hs c2 [102, 97, 108, 115, 101]
    rw [if_neg (by simp), h3, sb]
    cases b3 with
    | true => exact ⟨_, p3, rfl, by omega, c3, sm_leaf (by simp)⟩
    | false =>
    obtain ⟨b4, p4, h4, a4, c4⟩ := skip_cases hs c3 [34]
    rw [if_neg (by simp), h4, sb]
    cases b4 with
    | true =>
      obtain ⟨t, p5, h5, a5, c5, g5⟩ := text_cases hs c4
      rw [ift, h5, sb]
      exact ⟨_, p5, rfl, by omega, c5, sm_leaf (by simp only; omega)⟩
    | false =>
    obtain ⟨b5, p5, h5, a5, c5⟩ := skip_cases hs c4 [91]
    rw [if_neg (by simp), h5, sb]
    cases b5 with
    | true =>
      obtain ⟨b6, p6, h6, a6, c6⟩ := skip_cases hs c5 [93]
      rw [ift, h6, sb]
      cases b6 with
      | true => exact ⟨_, p6, rfl, by omega, c6, sm_leaf (by simp)⟩
      | false =>
        obtain ⟨p7, o', h7, a7, c7, g7, s7⟩ := hl1 41 p6 [] (by simp) c6 (by simp)
        obtain ⟨b8, p8, h8, a8, c8⟩ := skip_cases hs c7 [93]
        rw [if_neg (by simp), show impl_jsonReader_value_l1 (6 - ((d + 1 : Nat) : Int)) (false, jr s p6).2.s (false, jr s p6).2.at_ ([] : List Json) = _ from h7, sb, show JsonReader.mk (s, ((p7 : Nat) : Int), o').1 (s, ((p7 : Nat) : Int), o').2.1 = jr s p7 from rfl, h8, sb]
        exact ⟨_, p8, rfl, by omega, c8, sm_mk (by simp) (by simp) (by simp) (by simp only; omega) s7⟩
    | false =>
    obtain ⟨b6, p6, h6, a6, c6⟩ := skip_cases hs c5 [123]
    rw [if_neg (by simp), h6, sb]
    cases b6 with
    | true =>
      obtain ⟨b7, p7, h7, a7, c7⟩ := skip_cases hs c6 [125]
      rw [ift, h7, sb]
      cases b7 with
      | true => exact ⟨_, p7, rfl, by omega, c7, sm_leaf (by simp)⟩
      | false =>
        obtain ⟨p8, o', o1', h8, a8, c8, g8, g8', s8, s8'⟩ := hl3 41 p7 [] [] (by simp) rfl c7 (by simp) (by simp)
        obtain ⟨b9, p9, h9, a9, c9⟩ := skip_cases hs c8 [125]
        rw [if_neg (by simp), show impl_jsonReader_value_l3 (6 - ((d + 1 : Nat) : Int)) (false, jr s p7).2.s (false, jr s p7).2.at_ ([] : List Str) ([] : List Json) = _ from h8, sb, show JsonReader.mk (s, ((p8 : Nat) : Int), o', o1').1 (s, ((p8 : Nat) : Int), o', o1').2.1 = jr s p8 from rfl, h9, sb]
        exact ⟨_, p9, rfl, by omega, c9, sm_mk (by simp) (by simp only; omega) s8 (by simp only; omega) s8'⟩
    | false =>
      have hr := runEnd_le (fun c => !([44, 93, 125] : Str).contains c) s p6 c6
      rw [if_neg (by simp), show (false, jr s p6).2 = jr s p6 from rfl, upTo_eq hs c6, sb]
      refine ⟨_, _, rfl, by omega, hr.2, sm_leaf ?_⟩
      unfold runEnd at hr
      simp only; omega
end Fw
