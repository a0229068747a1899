/- S-logic, part 13: stores into rows; structs made and taken apart. -/
import Derived.Test.YtgihpfidacjogaaDoorSlK
set_option linter.unusedVariables false
set_option linter.unusedSimpArgs false
namespace Go.SL
open Go.RowKit

theorem mul_lt_of {a b sz j : Nat} (h : a < b) (hj : j < sz) : a * sz + j < b * sz := by
  have : (a + 1) * sz ≤ b * sz := Nat.mul_le_mul_right _ h
  rw [Nat.add_mul] at this
  omega

theorem wr_take {α : Type} (cs : List α) (off m : Nat) (ys : List α) (h : off + ys.length ≤ m) (hm : m ≤ cs.length) : (wr cs off ys).take m = wr (cs.take m) off ys := by
  apply List.ext_getElem?
  intro i
  rw [wr_get _ _ _ (by rw [List.length_take]; omega)]
  by_cases hi : i < m
  · rw [List.getElem?_take_of_lt hi, wr_get _ _ _ (by omega), List.getElem?_take_of_lt hi]
  · rw [List.getElem?_eq_none (by rw [List.length_take]; omega), if_neg (by omega), if_neg (by omega), List.getElem?_eq_none (by rw [List.length_take]; omega)]

/-- Cells of an element of a row of one's own are written. -/
theorem Does.store_row {P : Program} {C : Ctx P} {o : Oper} {s : Sto} {ρA : Operand → AV} (t n : Nat) (b : Bool) (p q : Operand) (ho : o.op = .store t p q) (hd : o.dst = none) (ht : tf P t = some (n, b))
    (k u off e sz : Nat) (es : List (List FV)) (hp : ρA p = .pt k u off) (hk : s k = ⟨u, .row e sz es⟩) (i j : Nat) (hoff : off = i * sz + j) (hi : i < es.length) (ys : List FV) (hq : ElemA (ρA q) ys) (hn : ys.length = n) (hj : j + n ≤ sz) (x : AV) :
    Does C o s ρA x (s.set k ⟨u, .row e sz (es.set i (wr (es.getD i []) j ys))⟩) :=
  Does.turn fun ρ w h bk H hr => by
    have r := hr p (by simp [ho, Op.operands])
    have rq := hr q (by simp [ho, Op.operands])
    rw [hp] at r
    obtain ⟨g, hg, hv⟩ := r.pt_inv (by rw [hk])
    obtain ⟨xs, ⟨hl, hown⟩, hsz, hbk, hlen, hxs⟩ := H.row (k := k) (e := e) (sz := sz) (es := es) (by rw [hk])
    rcases hown with ⟨hn1, hn2⟩ | ⟨g', cap, cur, hh, hB, hw, hnc, hcm, hcs, htake⟩
    · omega
    have hgg : g' = g := by rw [hbk, hh] at hg; simpa [Value.ownBlock] using hg
    subst hgg
    obtain ⟨q1, q2⟩ := ElemA.spec rq hq
    have hend : off + n ≤ es.length * sz := by
      have : (i + 1) * sz ≤ es.length * sz := Nat.mul_le_mul_right _ hi
      rw [Nat.add_mul] at this
      omega
    have hcap : es.length * sz ≤ cap * sz := Nat.mul_le_mul_right _ hnc
    have hone : ∀ v ∈ (ρ q).cells.toList, v.oneCell' = true := by
      intro v hv
      obtain ⟨m, hm, rfl⟩ := List.getElem_of_mem hv
      have hm' : m < (ρ q).cells.size := by simpa using hm
      obtain ⟨v', a1, a2, _⟩ := q2 m (ys[m]'(by omega)) (by simp)
      have : (ρ q).cells[m] = v' := by simpa [hm'] using a1
      simpa [this] using a2
    have hst := run_storeCells_at (P := P) g' off e (ρ q).cells.toList 0 cur w hw (by simp; omega) hone
    have hrun : (Instr.storeAt t (ρ p) (ρ q)).run P w = .ok () (w.setRow g' (wr cur.toList off (ρ q).cells.toList).toArray) := by
      rw [hv]
      simp only [Instr.storeAt, Instr.sureAddr, storeVar, Sem.run_bind, Sem.run_pure, Result.andThen_ok, run_sizeT ht]
      rw [if_neg (by omega)]
      simp only [Nat.add_zero, Array.length_toList] at hst
      simpa [wr] using hst
    have hvl : (ρ q).cells.toList.length = n := by simp; omega
    have hei : es.getD i [] = es[i] := by simp [hi]
    have heil : (es[i]).length = sz := hlen _ (List.getElem_mem hi)
    have hlen' : ∀ c ∈ es.set i (wr (es.getD i []) j ys), c.length = sz := by
      intro c hc
      rcases List.mem_or_eq_of_mem_set hc with h1 | h1
      · exact hlen c h1
      · rw [h1, hei, wr_length _ _ _ (by omega), heil]
    have hnew : ∀ i' j' x, (es.set i (wr (es.getD i []) j ys))[i']?.bind (·[j']?) = some x → ∃ v, (wr xs off (ρ q).cells.toList)[i' * sz + j']? = some v ∧ v.oneCell' = true ∧ RelF w (C.Mut bk) v x := by
      intro i' j' x hx
      rw [wr_get _ _ _ (by rw [hvl, hl]; exact hend), hvl]
      by_cases e1 : i' = i
      · subst e1
        rw [List.getElem?_set_self hi, hei, Option.bind_some, wr_get _ _ _ (by omega)] at hx
        rw [hn] at hx
        by_cases a : j' < j
        · rw [if_pos a] at hx
          rw [if_pos (by omega)]
          exact hxs i' j' x (by rw [List.getElem?_eq_getElem hi]; exact hx)
        · rw [if_neg a] at hx
          rw [if_neg (by omega)]
          by_cases b : j' < j + n
          · rw [if_pos b] at hx
            rw [if_pos (by omega)]
            obtain ⟨v, a1, a2, a3⟩ := q2 _ x hx
            refine ⟨v, ?_, a2, a3⟩
            rw [show i' * sz + j' - off = j' - j by omega]
            simpa using a1
          · rw [if_neg b] at hx
            rw [if_neg (by omega)]
            exact hxs i' j' x (by rw [List.getElem?_eq_getElem hi]; exact hx)
      · rw [List.getElem?_set_ne (Ne.symm e1)] at hx
        have hj' : j' < sz := by
          obtain ⟨y, hy, hyj⟩ := Option.bind_eq_some_iff.1 hx
          have h1 := (List.getElem?_eq_some_iff.1 hyj).1
          rw [hlen y (List.mem_of_getElem? hy)] at h1
          exact h1
        rcases Nat.lt_or_gt_of_ne e1 with h1 | h1
        · have := mul_lt_of h1 hj'
          rw [if_pos (by omega)]
          exact hxs i' j' x hx
        · have : (i + 1) * sz ≤ i' * sz := Nat.mul_le_mul_right _ h1
          rw [Nat.add_mul] at this
          rw [if_neg (by omega), if_neg (by omega)]
          exact hxs i' j' x hx
    have hnb : bk k = some g' := hg
    have ht := H.turn (w' := w.setRow g' (wr cur.toList off (ρ q).cells.toList).toArray) k ⟨u, .row e sz (es.set i (wr (es.getD i []) j ys))⟩ (h k) (bk k) (setRow_below _ (Nat.zero_le _))
      (fun b2 _ hne => setRow_heap_ne w g' b2 _ (fun e1 => hne (by rw [hnb, e1])))
      (.inr ⟨by rw [hk], rfl, rfl⟩) (fun b2 hb2 => .inl hb2)
      (fun _ hrelF => by
        unfold ObjOk
        rw [Sto.set_same, upd_same, upd_same]
        refine ⟨wr xs off (ρ q).cells.toList, ⟨by rw [wr_length _ _ _ (by rw [hvl, hl]; exact hend), List.length_set]; exact hl, .inr ⟨g', cap, (wr cur.toList off (ρ q).cells.toList).toArray, by rw [List.length_set]; exact hh, hB, setRow_heap w g' cur _ e (0, 0) hw, by rw [List.length_set]; exact hnc, hcm, by
          rw [List.size_toArray, wr_length _ _ _ (by rw [hvl]; simp; omega)]; simpa using hcs, ?_⟩⟩, hsz, hbk, hlen', fun i' j' x hx => ?_⟩
        · rw [List.length_set]
          show (wr cur.toList off (ρ q).cells.toList).take (es.length * sz) = _
          rw [wr_take _ _ _ _ (by rw [hvl]; exact hend) (by simp; omega), htake]
        · obtain ⟨v, a1, a2, a3⟩ := hnew i' j' x hx
          exact ⟨v, a1, a2, hrelF v x a3⟩)
    exact ⟨undef, _, _, _, .inr ⟨hd, by simp [execOp, ho, hrun]⟩, ht.1, ht.2, fun h => absurd hd h⟩

end Go.SL
