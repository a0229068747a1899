/- A text of the proof of FnJsonStrict: M2. -/
import Derived.Test.YtgihpfidacjogaaDoorM1
set_option linter.unusedVariables false
set_option linter.unusedSimpArgs false
namespace Fw
open Go Go.SL
def unm : Str → Str
  | c :: l => if c = 45 then l else c :: l
  | [] => []
theorem unm_minus (l : Str) : unm (45 :: l) = l := by simp [unm]
theorem unm_other {c : UInt8} (h : c ≠ 45) (l : Str) : unm (c :: l) = c :: l := by simp [unm, h]
def numB (s : Str) : Bool := s == [48] || (((decide (1 ≤ (unm s).length) && decide ((unm s).length ≤ 7)) && !((unm s).head? == some 48)) && (unm s).all db)
theorem l31Num_l0_eq (v : Str) (hb : Big v.length) : spec_l31Num_l0 v 0 = some (sr (v.all db)) := by
  have h := scan v (spec_l31Num_l0 v) (fun l => sr (l.all db)) (by rw [spec_l31Num_l0, len_ge]; rfl) (fun i hi ih => by
    rw [spec_l31Num_l0, len_t hi, ift, rd_lt hi, sb, List.all_cons]
    cases hb : db v[i] with
    | false => rw [if_pos (nb hb)]; rfl
    | true => rw [if_neg (nbf hb), sb, w64n1 (by omega), ih]; rfl) 0 (Nat.zero_le _)
  simpa using h
theorem u8i (c : UInt8) (n : Nat) (hn : n < 256) : ((c.toNat : Int) == (n : Int)) = (c == UInt8.ofNat n) := by
  rw [Bool.eq_iff_iff, beq_iff_eq, beq_iff_eq]
  constructor
  · intro h
    apply UInt8.toNat_inj.1
    rw [UInt8.toNat_ofNat', Nat.mod_eq_of_lt hn]
    omega
  · rintro rfl
    rw [UInt8.toNat_ofNat', Nat.mod_eq_of_lt hn]
/-- the rest of l31Num, behind the sign -/
def numR (v : Str) : Bool := ((decide (1 ≤ v.length) && decide (v.length ≤ 7)) && !(decide (1 < v.length) && v.head? == some 48)) && v.all db
theorem num_tail (v : Str) (F : Option Bool) (hF : F = ((if ((decide ((v.length : Int) < 1)) || (decide (7 < (v.length : Int)))) = true then
  some true
  else
  (if (decide (1 < (v.length : Int))) = true then
  rd v 0 >>= fun c1 =>
  some ((c1.toNat : Int) == 48)
  else
  some false) >>= fun b2 =>
  some b2) >>= fun b1 =>
  (if b1 = true then
  some false
  else
  spec_l31Num_l0 v 0 >>= fun o_1 =>
  (match o_1 with
   | .inl v1 => some true
   | .inr r1 => some r1)))) : F = some (numR v) := by
  rw [hF]
  by_cases h : 1 ≤ v.length ∧ v.length ≤ 7
  · rw [if_neg (by simp; omega)]
    have e0 : (decide (1 ≤ v.length) && decide (v.length ≤ 7)) = true := by simp; omega
    unfold numR
    rw [e0, Bool.true_and, l31Num_l0_eq v (by omega)]
    by_cases h1 : 1 < v.length
    · rw [if_pos (by simp; omega), show (0 : Int) = ((0 : Nat) : Int) from rfl, rd_lt (by omega : 0 < v.length), sb, sb, sb]
      have e1 : v.head? = some v[0] := by rw [List.head?_eq_getElem?]; simp [h1]
      rw [e1, decide_eq_true h1, Bool.true_and, show ((v[0].toNat : Int) == 48) = (v[0] == 48) from u8i _ 48 (by omega)]
      have e2 : (some v[0] == some (48 : UInt8)) = (v[0] == 48) := rfl
      rw [e2]
      cases v[0] == 48 with
      | true => rfl
      | false => rw [if_neg (by simp), sb]; cases v.all db <;> rfl
    · rw [if_neg (by simp; omega), sb, sb, if_neg (by simp), sb, decide_eq_false h1]
      cases v.all db <;> rfl
  · rw [if_pos (by simp; omega), sb, if_pos rfl]
    have e0 : (decide (1 ≤ v.length) && decide (v.length ≤ 7)) = false := by simp; omega
    unfold numR
    rw [e0]; rfl
theorem l31Num_eq (s : Str) : spec_l31Num s = some (numB s) := by
  unfold spec_l31Num
  cases s with
  | nil => rw [if_neg (by simp), sb, if_neg (by simp), sb]; exact (num_tail [] _ rfl).trans rfl
  | cons c l =>
    rw [if_pos (by simp), show (0 : Int) = ((0 : Nat) : Int) from rfl, rd_lt (by simp : 0 < (c :: l).length), sb, sb]
    rw [show (((c :: l)[0].toNat : Int) == 45) = (c == 45) from u8i c 45 (by omega)]
    by_cases hc : c = 45
    · subst hc
      rw [if_pos (by decide), show (1 : Int) = ((1 : Nat) : Int) from rfl, cutE (by simp), sb, List.drop_one, List.tail_cons]
      by_cases h0 : l = [48]
      · subst h0; rfl
      · rw [if_neg (by simpa using h0), sb]
        refine (num_tail l _ rfl).trans ?_
        unfold numB numR
        rw [unm_minus]
        have e : ((45 : UInt8) :: l == [48]) = false := by simp
        rw [e, Bool.false_or]
        have e2 : l.all db = true → (decide (1 < l.length) && l.head? == some 48) = (decide (1 ≤ l.length) && l.head? == some 48) := by
          intro _
          match l, h0 with
          | [], _ => rfl
          | [a], h0 =>
            have : a ≠ 48 := fun h => h0 (by rw [h])
            simp [this]
          | a :: b :: r, _ => simp
        cases h1 : l.all db with
        | false => simp
        | true =>
          rw [e2 h1]
          cases l with
          | nil => rfl
          | cons a r => simp
    · rw [if_neg (by simpa using hc), sb]
      refine (num_tail (c :: l) _ rfl).trans ?_
      unfold numB numR
      rw [unm_other hc]
      cases l with
      | nil =>
        by_cases h48 : c = 48
        · subst h48; rfl
        · have e1 : ([c] == [48]) = false := by simpa using h48
          have e2 : ([c].head? == some 48) = false := by simpa using h48
          rw [e1, e2]; simp
      | cons a r =>
        have e1 : (c :: a :: r == [48]) = false := by simp
        rw [e1]; simp
theorem tw_mem {p : UInt8 → Bool} : ∀ {l : List UInt8} {x : UInt8}, x ∈ l.takeWhile p → p x = true
  | [], x, h => by simp at h
  | a :: l, x, h => by
    rw [List.takeWhile_cons] at h
    cases ha : p a with
    | true =>
      rw [if_pos ha, List.mem_cons] at h
      rcases h with rfl | h
      · exact ha
      · exact tw_mem h
    | false => rw [if_neg (by simp [ha])] at h; simp at h
theorem dw_nil {p : UInt8 → Bool} : ∀ {l : List UInt8}, l.dropWhile p = [] ↔ ∀ x ∈ l, p x = true
  | [] => by simp
  | a :: l => by
    rw [List.dropWhile_cons]
    cases h : p a with
    | true => rw [if_pos rfl, dw_nil]; simp [h]
    | false => rw [if_neg (by simp)]; simp [h]
theorem trimS_nil (l cs : List UInt8) : (Lib.trimS l cs == []) = l.all (fun c => cs.contains c) := by
  rw [Bool.eq_iff_iff, beq_iff_eq, List.all_eq_true]
  unfold Lib.trimS Lib.trimLeftS Lib.trimRightS
  rw [dw_nil]
  constructor
  · intro h x hx
    have e : l = (l.reverse.dropWhile (cs.contains ·)).reverse ++ (l.reverse.takeWhile (cs.contains ·)).reverse := by
      rw [← List.reverse_append, List.takeWhile_append_dropWhile, List.reverse_reverse]
    rw [e, List.mem_append] at hx
    rcases hx with hx | hx
    · exact h x hx
    · exact tw_mem (List.mem_reverse.1 hx)
  · intro h x hx
    have : x ∈ l.reverse := (List.dropWhile_sublist _).subset (List.mem_reverse.1 hx)
    exact h x (List.mem_reverse.1 this)
theorem db_contains (c : UInt8) : ([48, 49, 50, 51, 52, 53, 54, 55, 56, 57] : List UInt8).contains c = db c := by
  rw [Bool.eq_iff_iff]
  simp only [db, List.contains_iff_mem, List.mem_cons, List.not_mem_nil, or_false, ← UInt8.toNat_inj]
  simp
  omega
theorem numOk_eq (s : Str) (hs : Big s.length) : impl_numOk s = some (numB s) := by
  unfold impl_numOk numB
  by_cases h0 : s = [48]
  · subst h0; rfl
  · have e0 : (s == [48]) = false := by simpa using h0
    rw [e0, if_neg (by simp), Bool.false_or]
    have ht : strings_TrimPrefix s [45] = some (unm s) := by
      unfold strings_TrimPrefix internal_stringslite_TrimPrefix internal_stringslite_HasPrefix
      cases s with
      | nil => rfl
      | cons c l =>
        rw [if_pos (by simp; omega), show ((([45] : Str).length : Int)) = ((1 : Nat) : Int) from rfl, cut0 (by simp), sb, sb, sb]
        by_cases hc : c = 45
        · subst hc
          rw [if_pos (by simp), cutE (by simp), unm_minus]; rfl
        · rw [if_neg (by simpa using hc), unm_other hc]; rfl
    rw [ht, sb, within_eq, sb]
    generalize hv : unm s = v
    have hvb : v.length ≤ s.length := by
      rw [← hv]; unfold unm
      cases s with
      | nil => simp
      | cons c l => simp only; split <;> simp
    have ew : (decide ((1 : Int) ≤ (v.length : Int)) && decide ((v.length : Int) ≤ 7)) = (decide (1 ≤ v.length) && decide (v.length ≤ 7)) := by
      congr 1 <;> rw [decide_eq_decide] <;> omega
    rw [ew]
    cases hw : (decide (1 ≤ v.length) && decide (v.length ≤ 7)) with
    | false => rfl
    | true =>
      simp only [Bool.and_eq_true, decide_eq_true_eq] at hw
      rw [if_pos rfl, show (0 : Int) = ((0 : Nat) : Int) from rfl, rd_lt (by omega : 0 < v.length), sb, sb]
      have e1 : v.head? = some v[0] := by rw [List.head?_eq_getElem?, List.getElem?_eq_getElem (by omega)]
      have e3 : ((v[0].toNat : Int) != 48) = !(v.head? == some 48) := by
        rw [e1, show ((v[0].toNat : Int) != 48) = !((v[0].toNat : Int) == 48) from rfl, show ((v[0].toNat : Int) == 48) = (v[0] == 48) from u8i _ 48 (by omega)]
        rfl
      rw [e3, Bool.true_and]
      cases (!(v.head? == some 48)) with
      | false => rfl
      | true =>
        rw [if_pos rfl, Bool.true_and]
        unfold strings_Trim
        rw [if_pos ⟨by omega, by decide, by decide⟩, sb, sb, trimS_nil]
        congr 2
        funext c
        exact db_contains c
end Fw
