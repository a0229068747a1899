/- A text of the proof of FnJsonStrict: M1. -/
import Derived.Test.YtgihpfidacjogaaDoorDF
import Derived.Test.YtgihpfidacjogaaDoorM0
set_option linter.unusedVariables false
set_option linter.unusedSimpArgs false
namespace Fw
open Go Go.SL
abbrev Big (n : Nat) : Prop := n < 4611686018427387904
/-- a byte of a text -/
def tb (c : UInt8) : Bool := !(((((decide ((c.toNat : Int) < 32)) || (decide (126 < (c.toNat : Int)))) || ((c.toNat : Int) == 34)) || ((c.toNat : Int) == 92)))
/-- a byte of a name -/
def nbt (c : UInt8) : Bool := !((decide ((c.toNat : Int) < 97)) || (decide (122 < (c.toNat : Int))))
/-- a byte of a number -/
def db (c : UInt8) : Bool := !((decide ((c.toNat : Int) < 48)) || (decide (57 < (c.toNat : Int))))
def sr (b : Bool) : Unit ⊕ Bool := if b = true then .inl () else .inr false

theorem l31Text_eq (s : Str) (hs : Big s.length) : spec_l31Text s = some (s.all tb) := by
  have h := scan s (spec_l31Text_l0 s) (fun l => sr (l.all tb)) (by rw [spec_l31Text_l0, len_ge]; rfl) (fun i hi ih => by
    rw [spec_l31Text_l0, len_t hi, ift, rd_lt hi, sb, List.all_cons]
    cases hb : tb s[i] with
    | false => rw [if_pos (nb hb)]; rfl
    | true => rw [if_neg (nbf hb), sb, w64n1 (by omega), ih]; rfl) 0 (Nat.zero_le _)
  unfold spec_l31Text
  rw [show ((0 : Nat) : Int) = 0 from rfl] at h
  rw [h, sb, List.drop_zero]
  cases s.all tb <;> rfl
theorem textOk_eq (s : Str) (n : Int) (hs : Big s.length) : impl_textOk s n = some (s.all tb && decide ((s.length : Int) ≤ n)) := by
  have h := scan s (impl_textOk_l0 s) (fun l => sr (l.all tb)) (by rw [impl_textOk_l0, len_ge]; rfl) (fun i hi ih => by
    rw [impl_textOk_l0, len_t hi, ift, rd_lt hi, sb, List.all_cons]
    cases hb : tb s[i] with
    | false => rw [if_pos (nb hb)]; rfl
    | true => rw [if_neg (nbf hb), w64n1 (by omega), ih]; rfl) 0 (Nat.zero_le _)
  unfold impl_textOk
  rw [show ((0 : Nat) : Int) = 0 from rfl] at h
  rw [h, sb, List.drop_zero]
  cases s.all tb <;> rfl
/-- a name -/
def nameB (s : Str) : Bool := s.all nbt && (decide (1 ≤ s.length) && decide (s.length ≤ 8))
theorem l2Name_eq (s : Str) : spec_l2Name s = some (nameB s) := by
  unfold spec_l2Name nameB
  by_cases h : 1 ≤ s.length ∧ s.length ≤ 8
  · rw [if_neg (by simp; omega)]
    have h := scan s (spec_l2Name_l0 s) (fun l => sr (l.all nbt)) (by rw [spec_l2Name_l0, len_ge]; rfl) (fun i hi ih => by
      rw [spec_l2Name_l0, len_t hi, ift, rd_lt hi, sb, List.all_cons]
      cases hb : nbt s[i] with
      | false => rw [if_pos (nb hb)]; rfl
      | true => rw [if_neg (nbf hb), sb, w64n1 (by omega), ih]; rfl) 0 (Nat.zero_le _)
    rw [show ((0 : Nat) : Int) = 0 from rfl] at h
    rw [h, sb, List.drop_zero]
    have e : (decide (1 ≤ s.length) && decide (s.length ≤ 8)) = true := by simp; omega
    rw [e]
    cases s.all nbt <;> rfl
  · rw [if_pos (by simp; omega)]
    have e : (decide (1 ≤ s.length) && decide (s.length ≤ 8)) = false := by simp; omega
    rw [e, Bool.and_false]
theorem within_eq (n a b : Int) : impl_within n a b = some (decide (a ≤ n) && decide (n ≤ b)) := rfl
theorem nameOk_eq (s : Str) (hs : Big s.length) : impl_nameOk s = some (nameB s) := by
  have h := scan s (impl_nameOk_l0 s) (fun l => sr (l.all nbt)) (by rw [impl_nameOk_l0, len_ge]; rfl) (fun i hi ih => by
    rw [impl_nameOk_l0, len_t hi, ift, rd_lt hi, sb, List.all_cons]
    cases hb : nbt s[i] with
    | false => rw [if_pos (nb hb)]; rfl
    | true => rw [if_neg (nbf hb), w64n1 (by omega), ih]; rfl) 0 (Nat.zero_le _)
  unfold impl_nameOk nameB
  rw [show ((0 : Nat) : Int) = 0 from rfl] at h
  rw [h, sb, List.drop_zero]
  cases s.all nbt
  · rfl
  · show (impl_within s.length 1 8 >>= fun r1 => some r1) = _
    rw [within_eq, sb, Bool.true_and]
    congr 2 <;> rw [decide_eq_decide] <;> omega
/-! ### names that differ -/
def nameP (list : List Str) (i : Nat) : Bool := nameB (list.getD i []) && allF (fun k => !(list.getD k [] == list.getD i [])) i 0
def namesB (list : List Str) : Bool := allF (nameP list) list.length 0
theorem l31Names_l2_eq (list : List Str) (i : Nat) (hi : i < list.length) (hb : Big list.length) : ∀ k, k ≤ i → spec_l31Names_l2 list (i : Int) (k : Int) = some (sr (allF (fun k => !(list.getD k [] == list.getD i [])) i k)) := by
  refine down ?_ ?_
  · rw [spec_l31Names_l2, if_neg (by simp), allF_end]; rfl
  · intro k hk ih
    rw [spec_l31Names_l2, if_pos (by simpa using hk), rd_lt (by omega : k < list.length), sb, rd_lt hi, sb, allF_step hk, getD_lt hi, getD_lt (by omega : k < list.length)]
    cases hb : list[k] == list[i] with
    | true => rfl
    | false => rw [if_neg (by simp), sb, w64n1 (by omega), ih, getD_lt hi]; rfl
theorem l31Names_eq (list : List Str) (hb : Big list.length) : spec_l31Names list = some (namesB list) := by
  have h := down (n := list.length) (P := fun i => spec_l31Names_l0 list (i : Int) = some (sr (allF (nameP list) list.length i))) (by rw [spec_l31Names_l0, len_ge, allF_end]; rfl) (fun i hi ih => by
    rw [spec_l31Names_l0, len_t hi, ift, rd_lt hi, sb, l2Name_eq, sb, allF_step hi]
    have e : nameP list i = (nameB list[i] && allF (fun k => !(list.getD k [] == list.getD i [])) i 0) := by unfold nameP; rw [getD_lt hi]
    rw [e]
    have h2 := l31Names_l2_eq list i hi hb 0 (Nat.zero_le _)
    rw [show ((0 : Nat) : Int) = 0 from rfl] at h2
    cases nameB list[i] with
    | false => rfl
    | true =>
      rw [if_neg (by simp), h2, sb]
      cases allF (fun k => !(list.getD k [] == list.getD i [])) i 0 with
      | false => rfl
      | true =>
        show (some (w64 ((i : Int) + 1)) >>= fun i1 => spec_l31Names_l0 list i1) = _
        rw [sb, w64n1 (by omega), ih]; rfl) 0 (Nat.zero_le _)
  unfold spec_l31Names
  rw [show ((0 : Nat) : Int) = 0 from rfl] at h
  rw [h, sb]
  unfold namesB
  cases allF (nameP list) list.length 0 <;> rfl
theorem contains_eq (l : List Str) (v : Str) (hb : Big l.length) : slices_Contains l v = some (!allF (fun k => !(l.getD k [] == v)) l.length 0) := by
  have h := down (n := l.length) (P := fun i => ∃ o, slices_Index_l0 l v (i : Int) = some o ∧ match o with
      | .inl _ => allF (fun k => !(l.getD k [] == v)) l.length i = true
      | .inr k => 0 ≤ k ∧ allF (fun k => !(l.getD k [] == v)) l.length i = false)
    ⟨.inl (), by rw [slices_Index_l0, len_ge]; rfl, allF_end⟩ (fun i hi ⟨o, ih, io⟩ => by
    rw [slices_Index_l0, len_t hi, ift, rd_lt hi, sb, allF_step hi, getD_lt hi]
    cases he : v == l[i] with
    | true =>
      refine ⟨.inr i, rfl, Int.natCast_nonneg _, ?_⟩
      have : l[i] == v := by rw [beq_iff_eq] at he ⊢; exact he.symm
      rw [this]; rfl
    | false =>
      have : (l[i] == v) = false := by
        cases h2 : l[i] == v with
        | false => rfl
        | true => rw [beq_iff_eq] at h2; rw [h2] at he; simp at he
      rw [this, if_neg (by simp), w64n1 (by omega)]
      exact ⟨o, ih, by cases o <;> simpa using io⟩) 0 (Nat.zero_le _)
  obtain ⟨o, h1, h2⟩ := h
  unfold slices_Contains slices_Index
  rw [show ((0 : Nat) : Int) = 0 from rfl] at h1
  rw [h1, sb]
  cases o with
  | inl u => show some (decide ((0 : Int) ≤ -1)) = _; rw [h2]; rfl
  | inr k => show some (decide (0 ≤ k)) = _; rw [h2.2, decide_eq_true h2.1]; rfl
theorem namesOk_eq (list : List Str) (hb : Big list.length) (hs : ∀ x ∈ list, Big x.length) : impl_namesOk list = some (namesB list) := by
  have h := down (n := list.length) (P := fun i => impl_namesOk_l0 list (i : Int) = some (sr (allF (nameP list) list.length i))) (by rw [impl_namesOk_l0, len_ge, allF_end]; rfl) (fun i hi ih => by
    rw [impl_namesOk_l0, len_t hi, ift, rd_lt hi, sb, nameOk_eq _ (hs _ (List.getElem_mem _)), sb, allF_step hi]
    have e : nameP list i = (nameB list[i] && allF (fun k => !(list.getD k [] == list.getD i [])) i 0) := by unfold nameP; rw [getD_lt hi]
    rw [e]
    cases nameB list[i] with
    | false => rfl
    | true =>
      rw [if_neg (by simp), cut0 (by omega), sb, contains_eq _ _ (by simp; omega), sb]
      have e2 : allF (fun k => !((list.take i).getD k [] == list[i])) (list.take i).length 0 = allF (fun k => !(list.getD k [] == list.getD i [])) i 0 := by
        rw [List.length_take, Nat.min_eq_left (by omega)]
        refine allF_congr fun k hk => ?_
        rw [getD_lt hi, getD_lt (by omega : k < list.length), getD_lt (by simp; omega), List.getElem_take]
      rw [e2]
      cases allF (fun k => !(list.getD k [] == list.getD i [])) i 0 with
      | false => rfl
      | true =>
        show (some (!true) >>= fun b => if b = true then some (.inr false) else impl_namesOk_l0 list (w64 ((i : Int) + 1))) = _
        rw [sb, if_neg (by simp), w64n1 (by omega), ih]; rfl) 0 (Nat.zero_le _)
  unfold impl_namesOk
  rw [show ((0 : Nat) : Int) = 0 from rfl] at h
  rw [h, sb]
  unfold namesB
  cases allF (nameP list) list.length 0 <;> rfl
end Fw
