/- A text of the proof of FnJsonStrict: M11. -/
import Derived.Test.YtgihpfidacjogaaDoorM10
set_option linter.unusedVariables false
set_option linter.unusedSimpArgs false
namespace Fw
open Go Go.SL
theorem upToT {s : Str} (hs : Big s.length) {p : Nat} (hp : p ≤ s.length) {e x u : Str} (h : s.drop p = x ++ u) (hx : ∀ c ∈ x, e.contains c = false) (hu : ∀ c, u.head? = some c → e.contains c = true) : impl_jsonReader_upTo (jr s p) e = some (x, jr s (p + x.length)) := by
  have htw : (s.drop p).takeWhile (fun c => !e.contains c) = x := by
    rw [h]
    exact tw_app (fun c hc => by rw [hx c hc]; rfl) (fun c hc => by rw [hu c hc]; rfl)
  have hre : runEnd (fun c => !e.contains c) s p = p + x.length := by unfold runEnd; rw [htw]
  rw [upTo_eq hs hp, htw, hre]
theorem textT {s : Str} (hs : Big s.length) {p : Nat} (hp : p ≤ s.length) {x u : Str} (h : s.drop p = x ++ 34 :: u) (hx : ∀ c ∈ x, c ≠ 34) : impl_jsonReader_text (jr s p) = some (x, jr s (p + x.length + 1)) := by
  unfold impl_jsonReader_text
  have h2 : s.drop (p + x.length) = [34] ++ u := drop_app h
  rw [upToT hs hp h (fun c hc => by simpa using hx c hc) (fun c hc => by simp at hc; subst hc; rfl), sb, skipT hs (le_app hp h) h2, sb]
  rfl
theorem IRT {s : Str} (hs : Big s.length) : ∀ d : Nat, d ≤ 5 → ∀ j, okd d j = true → k40 d j = true → ∀ p u, p ≤ s.length → s.drop p = wr d j ++ u → stop u →
    impl_jsonReader_value (jr s p) (6 - (d : Int)) = some (j, jr s (p + (wr d j).length)) := by
  intro d
  induction d with
  | zero => intro _ j h; cases h
  | succ d ih =>
    intro hd j ho hk p u hp hdr hu
    have ed : w64 (6 - ((d + 1 : Nat) : Int) + 1) = 6 - (d : Int) := by rw [w64s (by omega) (by omega)]; omega
    obtain ⟨hn, hok⟩ := okd_node ho
    obtain ⟨hb, hkk⟩ := node_bare hn
    have hk0 := hk
    unfold k40 at hk
    simp only [Bool.and_eq_true, decide_eq_true_eq, List.all_eq_true] at hk
    obtain ⟨c, r, hw, hc93, hc125, hd1, hd2, hd3, hd4, hd5, hd6⟩ := wr_head ho
    have hhead : s.drop p = c :: (r ++ u) := by rw [hdr, hw]; rfl
    -- lists
    have hl1 : j.Kind ≠ 6 → ∀ i, i ≤ j.Kids.length → i < j.Kids.length → ∀ q v, q ≤ s.length → s.drop q = (its (item j d (wr d)) j.Kids.length i).tail ++ (93 :: v) →
        impl_jsonReader_value_l1 (6 - ((d + 1 : Nat) : Int)) s (q : Int) (j.Kids.take i) = some (s, ((q + (its (item j d (wr d)) j.Kids.length i).tail.length : Nat) : Int), j.Kids) := by
      intro k6
      refine down (fun h => absurd h (by omega)) ?_
      intro i hi ihi _ q v hq hqd
      have hmem : j.Kids[i] ∈ j.Kids := List.getElem_mem _
      have ei : item j d (wr d) i = wr d j.Kids[i] := by unfold item; rw [if_neg k6, getD_lt hi]
      have hit : (its (item j d (wr d)) j.Kids.length i).tail = wr d j.Kids[i] ++ its (item j d (wr d)) j.Kids.length (i + 1) := by rw [its_lt hi, ei]; rfl
      rw [hit] at hqd ⊢
      rw [List.append_assoc] at hqd
      have hp3 := le_app hq hqd
      have hd3 := drop_app hqd
      rw [impl_jsonReader_value_l1, if_pos (by simp; omega), ed]
      rcases its_nil_or (f := item j d (wr d)) (n := j.Kids.length) (i := i + 1) (by omega) with ⟨e0, e1⟩ | ⟨e0, e1⟩
      · rw [e0, List.nil_append] at hd3 hqd
        rw [ih (by omega) _ (hok _ hmem) (hk.2 _ hmem) q _ hq hqd (stop_cons (by simp) _), sb, apd_ok (by simp; omega), sb, skipF hs hp3 hd3 (by decide), sb, if_pos (by simp), ← take_succ' hi, e1, List.take_length, its_end, List.append_nil]
      · rw [e1] at hd3 hqd
        have hd3' : s.drop (q + (wr d j.Kids[i]).length) = [44] ++ (item j d (wr d) (i + 1) ++ its (item j d (wr d)) j.Kids.length (i + 1 + 1) ++ (93 :: v)) := by rw [hd3]; simp
        rw [ih (by omega) _ (hok _ hmem) (hk.2 _ hmem) q _ hq hqd (by rw [List.cons_append]; exact stop_cons (.inl rfl) _), sb, apd_ok (by simp; omega), sb, skipT hs hp3 hd3', sb, if_neg (by simp), ← take_succ' hi]
        have h5 := ihi e0 (q + (wr d j.Kids[i]).length + 1) v (le_app hp3 hd3') (by rw [e1, List.tail_cons]; exact drop_app hd3')
        rw [show ([44] : Str).length = 1 from rfl]
        refine h5.trans ?_
        rw [e1, List.tail_cons]
        congr 3
        simp only [List.length_cons, List.length_append]
        omega
    have hl3 : j.Kind = 6 → ∀ i, i ≤ j.Kids.length → i < j.Kids.length → ∀ q v, q ≤ s.length → s.drop q = (its (item j d (wr d)) j.Kids.length i).tail ++ (125 :: v) →
        impl_jsonReader_value_l3 (6 - ((d + 1 : Nat) : Int)) s (q : Int) (j.Names.take i) (j.Kids.take i) = some (s, ((q + (its (item j d (wr d)) j.Kids.length i).tail.length : Nat) : Int), j.Names, j.Kids) := by
      intro k6
      have h6 := node6 hn k6
      refine down (fun h => absurd h (by omega)) ?_
      intro i hi ihi _ q v hq hqd
      have hmem : j.Kids[i] ∈ j.Kids := List.getElem_mem _
      have hin : i < j.Names.length := by omega
      have ei : item j d (wr d) i = 34 :: (j.Names[i] ++ (34 :: 58 :: wr d j.Kids[i])) := by unfold item; rw [if_pos k6, getD_lt hi, getD_lt hin]
      have hit : (its (item j d (wr d)) j.Kids.length i).tail = 34 :: (j.Names[i] ++ (34 :: 58 :: wr d j.Kids[i])) ++ its (item j d (wr d)) j.Kids.length (i + 1) := by rw [its_lt hi, ei]; rfl
      rw [hit] at hqd ⊢
      have g1 : s.drop q = [34] ++ (j.Names[i] ++ 34 :: ([58] ++ (wr d j.Kids[i] ++ (its (item j d (wr d)) j.Kids.length (i + 1) ++ (125 :: v))))) := by rw [hqd]; simp
      have q1 := le_app hq g1
      have g2 := drop_app g1
      rw [show ([34] : Str).length = 1 from rfl] at q1 g2
      have g2' : s.drop (q + 1) = (j.Names[i] ++ [34]) ++ ([58] ++ (wr d j.Kids[i] ++ (its (item j d (wr d)) j.Kids.length (i + 1) ++ (125 :: v)))) := by rw [g2]; simp
      have q2 := le_app q1 g2'
      have g3 := drop_app g2'
      rw [show (j.Names[i] ++ [34] : Str).length = j.Names[i].length + 1 by simp, ← Nat.add_assoc] at q2 g3
      have q3 := le_app q2 g3
      have hqd := drop_app g3
      rw [show ([58] : Str).length = 1 from rfl] at q3 hqd
      have hp3 := le_app q3 hqd
      have hd3 := drop_app hqd
      rw [impl_jsonReader_value_l3, if_pos (by simp; omega), show JsonReader.mk s (q : Int) = jr s q from rfl, skipT hs hq g1, sb, show ([34] : Str).length = 1 from rfl, textT hs q1 g2 (names34 h6.2 hin), sb, apd_ok (by simp; omega), sb, skipT hs q2 g3, sb, ed, show ([58] : Str).length = 1 from rfl]
      rcases its_nil_or (f := item j d (wr d)) (n := j.Kids.length) (i := i + 1) (by omega) with ⟨e0, e1⟩ | ⟨e0, e1⟩
      · rw [e0, List.nil_append] at hd3 hqd
        rw [ih (by omega) _ (hok _ hmem) (hk.2 _ hmem) _ _ q3 hqd (stop_cons (by simp) _), sb, apd_ok (by simp; omega), sb, skipF hs hp3 hd3 (by decide), sb, if_pos (by simp), ← take_succ' hi, ← take_succ' hin, e1, List.take_length, ← h6.1, List.take_length, h6.1, its_end, List.append_nil]
        congr 3
        simp only [List.length_cons, List.length_append]
        omega
      · rw [e1] at hd3 hqd
        have hd3' : s.drop (q + 1 + j.Names[i].length + 1 + 1 + (wr d j.Kids[i]).length) = [44] ++ (item j d (wr d) (i + 1) ++ its (item j d (wr d)) j.Kids.length (i + 1 + 1) ++ (125 :: v)) := by rw [hd3]; simp
        rw [ih (by omega) _ (hok _ hmem) (hk.2 _ hmem) _ _ q3 hqd (by rw [List.cons_append]; exact stop_cons (.inl rfl) _), sb, apd_ok (by simp; omega), sb, skipT hs hp3 hd3', sb, if_neg (by simp), ← take_succ' hi, ← take_succ' hin]
        have h5 := ihi e0 (q + 1 + j.Names[i].length + 1 + 1 + (wr d j.Kids[i]).length + 1) v (le_app hp3 hd3') (by rw [e1, List.tail_cons]; exact drop_app hd3')
        rw [show ([44] : Str).length = 1 from rfl]
        refine h5.trans ?_
        rw [e1, List.tail_cons]
        congr 3
        simp only [List.length_cons, List.length_append]
        omega
    obtain ⟨b1, b2, b3, b4⟩ := bare_spec hb
    have hj : ∀ (k : Int) (f : Bool) (t : Str) (ns : List Str) (ks : List Json), j.Kind = k → j.Flag = f → j.Text = t → j.Names = ns → j.Kids = ks → Json.mk k f t ns ks = j := by
      rintro k f t ns ks rfl rfl rfl rfl rfl; exact jeta j
    have hitne : 0 < j.Kids.length → ∃ c1 r1, items (item j d (wr d)) j.Kids.length = c1 :: r1 ∧ c1 ≠ 93 ∧ c1 ≠ 125 := by
      intro h0
      unfold items
      rw [its_lt h0, List.tail_cons]
      unfold item
      have hmem : j.Kids[0] ∈ j.Kids := List.getElem_mem _
      split
      · exact ⟨34, _, rfl, by decide, by decide⟩
      · rw [getD_lt h0]
        cases d with
        | zero => have := hok _ hmem; cases this
        | succ d =>
          obtain ⟨c, r, h1, h2, h3, _⟩ := wr_head (hok _ hmem)
          exact ⟨c, _, by rw [h1]; rfl, h2, h3⟩
    rw [impl_jsonReader_value, if_neg (by simp; omega)]
    rcases kinds hkk with k | k | k | k | k | k
    · have hw' : wr (d + 1) j = [110, 117, 108, 108] := by unfold wr; rw [if_pos k]
      rw [hw'] at hdr ⊢
      rw [skipT hs hp hdr, sb, ift, hj _ _ _ _ _ k (b1 (by omega)) (b2 (by omega) (by omega)) (b4 (by omega)) (b3 (by omega))]
    · have hc := hd2 k
      rw [skipF hs hp hhead (by rcases hc with rfl | rfl <;> decide), sb, if_neg (by simp)]
      cases hf : j.Flag with
      | true =>
        have hw' : wr (d + 1) j = [116, 114, 117, 101] := by unfold wr; rw [if_neg (by omega), if_pos k, if_pos hf]
        rw [hw'] at hdr ⊢
        rw [skipT hs hp hdr, sb, ift, hj _ _ _ _ _ k hf (b2 (by omega) (by omega)) (b4 (by omega)) (b3 (by omega))]
      | false =>
        have hw' : wr (d + 1) j = [102, 97, 108, 115, 101] := by unfold wr; rw [if_neg (by omega), if_pos k, if_neg (by simp [hf])]
        have hc2 : c = 102 := by rw [hw'] at hw; exact (List.cons.inj hw).1.symm
        rw [skipF hs hp hhead (by rw [hc2]; decide), sb, if_neg (by simp)]
        rw [hw'] at hdr ⊢
        rw [skipT hs hp hdr, sb, ift, hj _ _ _ _ _ k hf (b2 (by omega) (by omega)) (b4 (by omega)) (b3 (by omega))]
    · have hc := hd3 k
      have hne : ∀ a : UInt8, nb_ a = false → a ≠ c := fun a ha h => by rw [h, hc] at ha; cases ha
      have hw' : wr (d + 1) j = j.Text := by unfold wr; rw [if_neg (by omega), if_neg (by omega), if_pos k]
      obtain ⟨hnb, _⟩ := numB_nb (node3 hn k)
      rw [hw'] at hdr ⊢
      rw [skipF hs hp hhead (hne _ rfl), sb, if_neg (by simp), skipF hs hp hhead (hne _ rfl), sb, if_neg (by simp), skipF hs hp hhead (hne _ rfl), sb, if_neg (by simp), skipF hs hp hhead (hne _ rfl), sb, if_neg (by simp), skipF hs hp hhead (hne _ rfl), sb, if_neg (by simp), skipF hs hp hhead (hne _ rfl), sb, if_neg (by simp), show (false, jr s p).2 = jr s p from rfl]
      have hcon : ∀ x : UInt8, nb_ x = true → ([44, 93, 125] : Str).contains x = false := fun x hx => by
        cases h : ([44, 93, 125] : Str).contains x with
        | false => rfl
        | true =>
          simp only [List.contains_iff_mem, List.mem_cons, List.not_mem_nil, or_false] at h
          rcases h with rfl | rfl | rfl <;> cases hx
      rw [upToT hs hp hdr (fun x hx => hcon x (hnb x hx)) (fun x hx => by rcases hu x hx with rfl | rfl | rfl <;> rfl), sb, hj _ _ _ _ _ k (b1 (by omega)) rfl (b4 (by omega)) (b3 (by omega))]
    · have hc := hd4 k
      subst hc
      have hw' : wr (d + 1) j = 34 :: (j.Text ++ [34]) := by unfold wr; rw [if_neg (by omega), if_neg (by omega), if_neg (by omega), if_pos k]
      have h4 := node4 hn k
      rw [hw'] at hdr ⊢
      have hdr' : s.drop p = [34] ++ (j.Text ++ 34 :: u) := by rw [hdr]; simp
      have q1 := le_app hp hdr'
      have g1 := drop_app hdr'
      rw [show ([34] : Str).length = 1 from rfl] at q1 g1
      rw [skipF hs hp hhead (by decide), sb, if_neg (by simp), skipF hs hp hhead (by decide), sb, if_neg (by simp), skipF hs hp hhead (by decide), sb, if_neg (by simp), skipT hs hp hdr', sb, ift, show (true, jr s (p + ([34] : Str).length)).2 = jr s (p + 1) from rfl, textT hs q1 g1 (fun c hc => tb34 (List.all_eq_true.1 h4.2 c hc)), sb, hj _ _ _ _ _ k (b1 (by omega)) rfl (b4 (by omega)) (b3 (by omega))]
      congr 3
      simp only [jr, List.length_cons, List.length_append, List.length_nil]
      congr 1
      omega
    · have hc := hd5 k
      subst hc
      have hw' : wr (d + 1) j = 91 :: (items (item j d (wr d)) j.Kids.length ++ [93]) := by unfold wr; rw [if_neg (by omega), if_neg (by omega), if_neg (by omega), if_neg (by omega), if_neg (by omega)]
      rw [hw'] at hdr ⊢
      have hdr' : s.drop p = [91] ++ (items (item j d (wr d)) j.Kids.length ++ (93 :: u)) := by rw [hdr]; simp
      have q1 := le_app hp hdr'
      have g1 := drop_app hdr'
      rw [show ([91] : Str).length = 1 from rfl] at q1 g1
      rw [skipF hs hp hhead (by decide), sb, if_neg (by simp), skipF hs hp hhead (by decide), sb, if_neg (by simp), skipF hs hp hhead (by decide), sb, if_neg (by simp), skipF hs hp hhead (by decide), sb, if_neg (by simp), skipT hs hp hdr', sb, ift, show ([91] : Str).length = 1 from rfl]
      by_cases h0 : 0 < j.Kids.length
      · obtain ⟨c1, r1, hw1, w93, w125⟩ := hitne h0
        have g1' := g1
        rw [hw1, List.cons_append] at g1'
        have q2 := le_app q1 g1
        have g2 : s.drop (p + 1 + (items (item j d (wr d)) j.Kids.length).length) = [93] ++ u := drop_app g1
        have := hl1 (by omega) 0 (Nat.zero_le _) h0 (p + 1) u q1 g1
        rw [show j.Kids.take 0 = [] from rfl] at this
        rw [skipF hs q1 g1' (fun h => w93 h.symm), sb, if_neg (by simp), show impl_jsonReader_value_l1 (6 - ((d + 1 : Nat) : Int)) (false, jr s (p + 1)).2.s (false, jr s (p + 1)).2.at_ ([] : List Json) = _ from this, sb]
        rw [show JsonReader.mk (s, ((p + 1 + (its (item j d (wr d)) j.Kids.length 0).tail.length : Nat) : Int), j.Kids).1 (s, ((p + 1 + (its (item j d (wr d)) j.Kids.length 0).tail.length : Nat) : Int), j.Kids).2.1 = jr s (p + 1 + (items (item j d (wr d)) j.Kids.length).length) from rfl, skipT hs q2 g2, sb, hj _ _ _ _ _ k (b1 (by omega)) (b2 (by omega) (by omega)) (b4 (by omega)) rfl]
        congr 3
        simp only [jr, List.length_cons, List.length_append, List.length_nil]
        congr 1
        omega
      · have hnil : j.Kids = [] := List.length_eq_zero_iff.1 (by omega)
        have hit : items (item j d (wr d)) j.Kids.length = [] := by rw [hnil]; unfold items; rw [List.length_nil, its_end]; rfl
        rw [hit, List.nil_append] at g1
        rw [skipT hs q1 (t := [93]) g1, sb, ift, hit, hj _ _ _ _ _ k (b1 (by omega)) (b2 (by omega) (by omega)) (b4 (by omega)) hnil]
        rfl
    · have hc := hd6 k
      subst hc
      have hw' : wr (d + 1) j = 123 :: (items (item j d (wr d)) j.Kids.length ++ [125]) := by unfold wr; rw [if_neg (by omega), if_neg (by omega), if_neg (by omega), if_neg (by omega), if_pos k]
      rw [hw'] at hdr ⊢
      have hdr' : s.drop p = [123] ++ (items (item j d (wr d)) j.Kids.length ++ (125 :: u)) := by rw [hdr]; simp
      have q1 := le_app hp hdr'
      have g1 := drop_app hdr'
      rw [show ([123] : Str).length = 1 from rfl] at q1 g1
      rw [skipF hs hp hhead (by decide), sb, if_neg (by simp), skipF hs hp hhead (by decide), sb, if_neg (by simp), skipF hs hp hhead (by decide), sb, if_neg (by simp), skipF hs hp hhead (by decide), sb, if_neg (by simp), skipF hs hp hhead (by decide), sb, if_neg (by simp), skipT hs hp hdr', sb, ift, show ([123] : Str).length = 1 from rfl]
      by_cases h0 : 0 < j.Kids.length
      · obtain ⟨c1, r1, hw1, w93, w125⟩ := hitne h0
        have g1' := g1
        rw [hw1, List.cons_append] at g1'
        have q2 := le_app q1 g1
        have g2 : s.drop (p + 1 + (items (item j d (wr d)) j.Kids.length).length) = [125] ++ u := drop_app g1
        have := hl3 k 0 (Nat.zero_le _) h0 (p + 1) u q1 g1
        rw [show j.Kids.take 0 = [] from rfl, show j.Names.take 0 = [] from rfl] at this
        rw [skipF hs q1 g1' (fun h => w125 h.symm), sb, if_neg (by simp), show impl_jsonReader_value_l3 (6 - ((d + 1 : Nat) : Int)) (false, jr s (p + 1)).2.s (false, jr s (p + 1)).2.at_ ([] : List Str) ([] : List Json) = _ from this, sb]
        rw [show JsonReader.mk (s, ((p + 1 + (its (item j d (wr d)) j.Kids.length 0).tail.length : Nat) : Int), j.Names, j.Kids).1 (s, ((p + 1 + (its (item j d (wr d)) j.Kids.length 0).tail.length : Nat) : Int), j.Names, j.Kids).2.1 = jr s (p + 1 + (items (item j d (wr d)) j.Kids.length).length) from rfl, skipT hs q2 g2, sb, hj _ _ _ _ _ k (b1 (by omega)) (b2 (by omega) (by omega)) rfl rfl]
        congr 3
        simp only [jr, List.length_cons, List.length_append, List.length_nil]
        congr 1
        omega
      · have hnil : j.Kids = [] := List.length_eq_zero_iff.1 (by omega)
        have hnn : j.Names = [] := by have := (node6 hn k).1; rw [hnil] at this; exact List.length_eq_zero_iff.1 this
        have hit : items (item j d (wr d)) j.Kids.length = [] := by rw [hnil]; unfold items; rw [List.length_nil, its_end]; rfl
        rw [hit, List.nil_append] at g1
        rw [skipT hs q1 (t := [125]) g1, sb, ift, hit, hj _ _ _ _ _ k (b1 (by omega)) (b2 (by omega) (by omega)) hnn hnil]
        rfl
end Fw
