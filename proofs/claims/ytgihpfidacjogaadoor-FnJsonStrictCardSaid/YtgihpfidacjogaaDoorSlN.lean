/- S-logic, part 14: structs made and taken apart. -/
import Derived.Test.YtgihpfidacjogaaDoorSlM
set_option linter.unusedVariables false
set_option linter.unusedSimpArgs false
namespace Go.SL
open Go.RowKit

/-- A field of a struct, one cell. -/
theorem Does.field1 {P : Program} {C : Ctx P} {o : Oper} {s : Sto} {ρA : Operand → AV} (t f off n : Nat) (p : Operand) (ho : o.op = .field t p f) (ht : fo P t f = some (off, n, false)) (cs : List AV) (hp : ρA p = .ag cs) (x : AV) (hx : cs[off]? = some x) : Does C o s ρA x s :=
  Does.same fun ρ w h bk H hr => by
    have r := hr p (by simp [ho, Op.operands])
    rw [hp] at r
    obtain ⟨arr, hv, hs, hr'⟩ := r.ag_inv
    obtain ⟨fs, g, hu, hf, rfl, htf⟩ := fo_spec ht
    have hi : g.offset < arr.size := by have := (List.getElem?_eq_some_iff.1 hx).1; omega
    have r1 := hr' _ x hx
    refine ⟨arr[g.offset], ?_, by simpa [hi] using r1⟩
    simp [execOp, ho, hv, Instr.field, run_underlying hu, hf, asAgg, part, run_isAgg htf, hi]

/-- A field of a struct, itself a struct. -/
theorem Does.fieldN {P : Program} {C : Ctx P} {o : Oper} {s : Sto} {ρA : Operand → AV} (t f off n : Nat) (p : Operand) (ho : o.op = .field t p f) (ht : fo P t f = some (off, n, true)) (cs : List AV) (hp : ρA p = .ag cs) (hl : off + n ≤ cs.length) : Does C o s ρA (.ag ((cs.drop off).take n)) s :=
  Does.same fun ρ w h bk H hr => by
    have r := hr p (by simp [ho, Op.operands])
    rw [hp] at r
    obtain ⟨arr, hv, hs, hr'⟩ := r.ag_inv
    obtain ⟨fs, g, hu, hf, rfl, htf⟩ := fo_spec ht
    refine ⟨.agg (arr.extract g.offset (g.offset + n)), ?_, .ag _ _ (by simp; omega) (fun i x hx => ?_)⟩
    · simp [execOp, ho, hv, Instr.field, run_underlying hu, hf, asAgg, part, run_isAgg htf, run_sizeT htf]
    · have hin : i < n := by have := (List.getElem?_eq_some_iff.1 hx).1; simp at this; omega
      rw [List.getElem?_take_of_lt hin, List.getElem?_drop] at hx
      have r1 := hr' _ x hx
      have hi : g.offset + i < arr.size := by have := (List.getElem?_eq_some_iff.1 hx).1; omega
      have e1 : (arr.extract g.offset (g.offset + n)).getD i undef = arr.getD (g.offset + i) undef := by
        simp only [Array.getD_eq_getD_getElem?, Array.getElem?_extract]
        rw [if_pos (by omega)]
      rw [e1]
      exact r1

/-- A struct of a row of one's own, read. -/
theorem Does.load_rowN {P : Program} {C : Ctx P} {o : Oper} {s : Sto} {ρA : Operand → AV} (t n : Nat) (p : Operand) (ho : o.op = .load t p) (ht : tf P t = some (n, true))
    (k u off e sz : Nat) (es : List (List FV)) (hp : ρA p = .pt k u off) (hk : s k = ⟨u, .row e sz es⟩) (i j : Nat) (hoff : off = i * sz + j) (c : List FV) (hc : es[i]? = some c) (hj : j + n ≤ sz) : Does C o s ρA (.ag (((c.drop j).take n).map .fz)) s :=
  Does.same fun ρ w h bk H hr => by
    have r := hr p (by simp [ho, Op.operands])
    rw [hp] at r
    obtain ⟨b, hb, hv⟩ := r.pt_inv (by rw [hk])
    obtain ⟨xs, ⟨hl, hown⟩, hsz, hbk, hlen, hxs⟩ := H.row (k := k) (e := e) (sz := sz) (es := es) (by rw [hk])
    have hi : i < es.length := (List.getElem?_eq_some_iff.1 hc).1
    have hcl : c.length = sz := hlen c (List.mem_of_getElem? hc)
    rcases hown with ⟨hn1, hn2⟩ | ⟨g, cap, cur, hh, _, hg, hnc, _, hcs, htake⟩
    · omega
    · have hbg : b = g := by rw [hbk, hh] at hb; simpa [Value.ownBlock] using hb.symm
      subst hbg
      have hpos : ∀ m, m < n → off + m < es.length * sz := by
        intro m hm
        have := mul_lt_of hi (show j + m < sz by omega)
        omega
      have hcur : ∀ m, m < n → cur[off + m]? = xs[off + m]? := by
        intro m hm
        have h1 : (cur.toList.take (es.length * sz))[off + m]? = xs[off + m]? := by rw [htake]
        rw [List.getElem?_take_of_lt (hpos m hm)] at h1
        simpa using h1
      have hlen2 : ((xs.drop off).take n).length = n := by
        rw [List.length_take, List.length_drop]
        by_cases h0 : n = 0
        · omega
        · have := hpos (n - 1) (by omega); omega
      have h1 := run_loadN (P := P) ht (w := w) (b := b) (o := off) (vs := (xs.drop off).take n) hlen2 (fun m v hm => by
        have hmn : m < n := by rw [← hlen2]; exact (List.getElem?_eq_some_iff.1 hm).1
        rw [cell_mid hg, hcur m hmn]
        rw [List.getElem?_take_of_lt hmn, List.getElem?_drop] at hm
        exact hm)
      refine ⟨.agg ((xs.drop off).take n).toArray, by simp only [execOp, ho, hv, Sem.run_bind, h1, Result.andThen_ok, Sem.run_pure], .ag _ _ (by rw [List.size_toArray, hlen2]; simp; omega) (fun m x hm => ?_)⟩
      rw [List.getElem?_map] at hm
      obtain ⟨y, hy, rfl⟩ := Option.map_eq_some_iff.1 hm
      have hmn : m < n := by have := (List.getElem?_eq_some_iff.1 hy).1; simp at this; omega
      rw [List.getElem?_take_of_lt hmn, List.getElem?_drop] at hy
      obtain ⟨v, a1, _, a3⟩ := hxs i (j + m) y (by rw [hc]; exact hy)
      have e1 : ((xs.drop off).take n).toArray.getD m undef = v := by
        simp only [Array.getD_eq_getD_getElem?, List.getElem?_toArray]
        rw [List.getElem?_take_of_lt hmn, List.getElem?_drop, hoff, show i * sz + j + m = i * sz + (j + m) by omega, a1]
        rfl
      rw [e1]
      exact .fz a3

/-! ### Structs out of parts -/
/-- Where the fields of a struct lie. -/
def fs (P : Program) (t : TypeId) : Option (List (Nat × Nat)) :=
  match P.underlying t with
  | some (.struct fields) => fields.toList.mapM fun f => (tf P f.type).map fun z => (f.offset, z.1)
  | _ => none

def fillA (places : List (Nat × Nat)) : List AV → List (Nat × List AV) → Option (List AV)
  | cells, [] => some cells
  | cells, (i, ys) :: rest => match places[i]? with
    | none => none
    | some (off, n) => if ys.length = n ∧ off + n ≤ cells.length then fillA places (wr cells off ys) rest else none

theorem foldl_set_wr (off : Nat) (vs : Array Value) (cells : Array Value) (h : off + vs.size ≤ cells.size) :
    vs.zipIdx.foldl (fun (cs : Array Value) (x : Value × Nat) => cs.setIfInBounds (off + x.2) x.1) cells = (wr cells.toList off vs.toList).toArray := by
  have key : ∀ (l : List Value) (k : Nat) (cells : Array Value), off + k + l.length ≤ cells.size →
      (l.zipIdx k).foldl (fun (cs : Array Value) (x : Value × Nat) => cs.setIfInBounds (off + x.2) x.1) cells = (wr cells.toList (off + k) l).toArray := by
    intro l
    induction l with
    | nil =>
      intro k cells _
      simp [wr]
    | cons v l ih =>
      intro k cells hk
      simp only [List.length_cons] at hk
      simp only [List.zipIdx_cons, List.foldl_cons]
      rw [ih (k + 1) _ (by simp; omega)]
      congr 1
      apply List.ext_getElem?
      intro m
      rw [wr_get _ _ _ (by simp; omega), wr_get _ _ _ (by simp; omega)]
      simp only [List.length_cons, Array.toList_setIfInBounds]
      by_cases h1 : m < off + k
      · rw [if_pos (by omega), if_pos h1, List.getElem?_set_ne (by omega)]
      · by_cases h2 : m = off + k
        · subst h2
          rw [if_pos (by omega), if_neg (by omega), if_pos (by omega), List.getElem?_set_self (by simp; omega)]
          simp
        · rw [if_neg (by omega), if_neg h1]
          by_cases h3 : m < off + k + (l.length + 1)
          · rw [if_pos (by omega), if_pos h3, show m - (off + k) = (m - (off + (k + 1))) + 1 by omega]
            simp
          · rw [if_neg (by omega), if_neg h3, List.getElem?_set_ne (by omega)]
  have := key vs.toList 0 cells (by simpa using h)
  rw [← Array.foldl_toList, Array.toList_zipIdx]
  simpa using this

theorem fill_spec {R : Value → AV → Prop} (places : List (Nat × Nat)) (place : Nat → Option (Nat × Nat)) (hpl : ∀ i, place i = places[i]?) :
    ∀ (vs : List (Nat × Value)) (as : List (Nat × List AV)) (cells : Array Value) (cs cs' : List AV), vs.length = as.length →
      (∀ (m : Nat) (v : Nat × Value) (a : Nat × List AV), vs[m]? = some v → as[m]? = some a → v.1 = a.1 ∧ v.2.cells.size = a.2.length ∧ ∀ (i : Nat) (y : AV), a.2[i]? = some y → R (v.2.cells.getD i undef) y) →
      cells.size = cs.length → (∀ (i : Nat) (y : AV), cs[i]? = some y → R (cells.getD i undef) y) → fillA places cs as = some cs' →
      ∃ arr, Instr.fill place cells vs = some arr ∧ arr.size = cs'.length ∧ ∀ (i : Nat) (y : AV), cs'[i]? = some y → R (arr.getD i undef) y
  | [], [], cells, cs, cs', _, _, hs, hr, hf => by
    simp only [fillA, Option.some.injEq] at hf
    subst hf
    exact ⟨cells, rfl, hs, hr⟩
  | [], _ :: _, _, _, _, h, _, _, _, _ => by simp at h
  | _ :: _, [], _, _, _, h, _, _, _, _ => by simp at h
  | (k, v) :: vs, (i, ys) :: as, cells, cs, cs', hl, hv, hs, hr, hf => by
    obtain ⟨h1, h2, h3⟩ := hv 0 (k, v) (i, ys) rfl rfl
    simp only at h1 h2 h3
    subst h1
    unfold fillA at hf
    unfold Instr.fill
    rw [hpl k]
    cases hp : places[k]? with
    | none => rw [hp] at hf; simp at hf
    | some on =>
      obtain ⟨off, n⟩ := on
      rw [hp] at hf
      simp only at hf ⊢
      split at hf
      · rename_i hc
        obtain ⟨hc1, hc2⟩ := hc
        rw [if_neg (by simp; omega)]
        rw [foldl_set_wr off v.cells cells (by omega)]
        refine fill_spec places place hpl vs as _ (wr cs off ys) cs' (by simpa using hl) (fun m => hv (m + 1)) ?_ (fun m y hy => ?_) hf
        · rw [List.size_toArray, wr_length _ _ _ (by simp; omega), wr_length _ _ _ (by omega)]
          simpa using hs
        · rw [wr_get _ _ _ (by omega)] at hy
          have e1 : ((wr cells.toList off v.cells.toList).toArray).getD m undef = if m < off then cells.getD m undef else if m < off + ys.length then v.cells.getD (m - off) undef else cells.getD m undef := by
            rw [Array.getD_eq_getD_getElem?, List.getElem?_toArray, wr_get _ _ _ (by simp; omega)]
            simp only [Array.length_toList, h2]
            split
            · simp
            · split <;> simp
          rw [e1]
          by_cases a : m < off
          · rw [if_pos a] at hy ⊢; exact hr m y hy
          · rw [if_neg a] at hy ⊢
            by_cases b : m < off + ys.length
            · rw [if_pos b] at hy ⊢; exact h3 _ y hy
            · rw [if_neg b] at hy ⊢; exact hr m y hy
      · cases hf

theorem run_places {P : Program} {w : World} : ∀ (l : List Field) (ps : List (Nat × Nat)), (l.mapM fun f => (tf P f.type).map fun z => (f.offset, z.1)) = some ps →
    (l.mapM fun f => (do pure (f.offset, ← sizeOf f.type) : Sem (Nat × Nat))).run P w = .ok ps w
  | [], ps, h => by simp at h; subst h; rfl
  | f :: l, ps, h => by
    rw [List.mapM_cons] at h
    cases ht : tf P f.type with
    | none => simp [ht] at h
    | some z =>
      obtain ⟨n, b⟩ := z
      rw [ht] at h
      simp only [Option.map_some, Option.bind_eq_bind, Option.bind_some, Option.pure_def] at h
      cases hl : (l.mapM fun f => (tf P f.type).map fun z => (f.offset, z.1)) with
      | none => rw [hl] at h; simp at h
      | some qs =>
        rw [hl] at h
        simp only [Option.bind_some, Option.some.injEq] at h
        subst h
        have ih := run_places (w := w) l qs hl
        simp only [List.mapM_cons, Sem.run_bind, run_sizeT ht, Result.andThen_ok, Sem.run_pure, ih]

/-- A struct out of parts; the rest is zero. -/
theorem Does.build {P : Program} {C : Ctx P} {o : Oper} {s : Sto} {ρA : Operand → AV} (t : Nat) (parts : Array (Nat × Operand)) (ho : o.op = .build t parts) (places : List (Nat × Nat)) (hf : fs P t = some places) (zs : List Value) (hz : zf P t = some zs) (hone : ∀ v ∈ zs, v.oneCell' = true)
    (as : List (Nat × List AV)) (hl : parts.toList.length = as.length) (ha : ∀ (m : Nat) (p : Nat × Operand) (a : Nat × List AV), parts.toList[m]? = some p → as[m]? = some a → p.1 = a.1 ∧ cellsOf (ρA p.2) = some a.2)
    (cs : List AV) (hc : fillA places (zs.map fun v => .fz (.sc v)) as = some cs) : Does C o s ρA (.ag cs) s :=
  Does.same fun ρ w h bk H hr => by
    obtain ⟨z, hz1, hz2⟩ := run_zeroV hz w
    unfold fs at hf
    cases hu : P.underlying t with
    | none => rw [hu] at hf; cases hf
    | some d =>
      rw [hu] at hf
      cases d <;> simp only at hf <;> first | (cases hf; done) | skip
      rename_i fields
      have hpl := run_places (P := P) (w := w) fields.toList places hf
      obtain ⟨arr, h1, h2, h3⟩ := fill_spec (R := fun v y => Rel C s w h bk v y) places (fun i => places.toArray[i]?) (fun i => by simp)
        (parts.toList.map fun x => (x.1, ρ x.2)) as z.cells (zs.map fun v => .fz (.sc v)) cs (by simpa using hl) (fun m v a hv ha' => by
          rw [List.getElem?_map] at hv
          obtain ⟨p, hp, rfl⟩ := Option.map_eq_some_iff.1 hv
          obtain ⟨e1, e2⟩ := ha m p a hp ha'
          have hmem : p.2 ∈ o.op.operands := by
            rw [ho]
            simp only [Op.operands, List.mem_toArray, List.mem_map]
            exact ⟨p, List.mem_of_getElem? hp, rfl⟩
          obtain ⟨q1, q2⟩ := cellsOf_spec (hr _ hmem) e2
          exact ⟨e1, q1, fun i y hy => (q2 i y hy).2⟩) (by rw [← hz2]; simp) (fun i y hy => by
          rw [List.getElem?_map] at hy
          obtain ⟨v, hv, rfl⟩ := Option.map_eq_some_iff.1 hy
          rw [← hz2] at hv
          have : z.cells[i]? = some v := by simpa using hv
          have e1 : z.cells.getD i undef = v := by simp [Array.getD_eq_getD_getElem?, this]
          rw [e1]
          exact .fz (.sc v (hone v (by rw [← hz2]; exact List.mem_of_getElem? hv)))) hc
      refine ⟨.agg arr, ?_, .ag arr cs h2 h3⟩
      have hpl' : (fields.mapM fun f => (do pure (f.offset, ← sizeOf f.type) : Sem (Nat × Nat))).run P w = .ok places.toArray w := by
        rw [Array.mapM_eq_mapM_toList, Sem.run_map, hpl]
        rfl
      have hparts : (parts.map fun (x : Nat × Operand) => (x.1, ρ x.2)).toList = parts.toList.map fun x => (x.1, ρ x.2) := by simp
      simp only [execOp, ho, Instr.build, Sem.run_bind, hz1, Result.andThen_ok, run_underlying hu, hpl', hparts, h1, Sem.run_pure]

end Go.SL
