/- S-logic, part 11: rows made of parts; a row is given away; weaker states. -/
import Derived.Test.YtgihpfidacjogaaDoorSlJ
import Derived.Great.FillDense
import Derived.Great.BuildSlice
set_option linter.unusedVariables false
set_option linter.unusedSimpArgs false
namespace Go.SL
open Go.RowKit

/-- One cell that nobody will write. -/
inductive CellF : AV → FV → Prop
  | fz {c : FV} : CellF (.fz c) c
  | nil {sz : Nat} : CellF (.fz (.sc (.slice none 0 0))) (.ls sz [])
  | fc {sz : Nat} {es : List (List FV)} : CellF (.fc sz es) (.ls sz es)
inductive CellsF : List AV → List FV → Prop
  | nil : CellsF [] []
  | cons {x : AV} {c : FV} {xs : List AV} {cs : List FV} (h : CellF x c) (t : CellsF xs cs) : CellsF (x :: xs) (c :: cs)
theorem CellsF.map : ∀ {cs : List FV}, CellsF (cs.map .fz) cs
  | [] => .nil
  | _ :: _ => .cons .fz CellsF.map
theorem CellsF.at {xs : List AV} {cs : List FV} (h : CellsF xs cs) : xs.length = cs.length ∧ ∀ (i : Nat) (x : AV) (c : FV), xs[i]? = some x → cs[i]? = some c → CellF x c := by
  induction h with
  | nil => exact ⟨rfl, fun i x y h => by simp at h⟩
  | cons h t ih =>
    refine ⟨by simp [ih.1], fun i x' y' hx hy => ?_⟩
    cases i with
    | zero => simp at hx hy; subst hx; subst hy; exact h
    | succ i => exact ih.2 i x' y' (by simpa using hx) (by simpa using hy)
inductive ElemA : AV → List FV → Prop
  | one {x : AV} {c : FV} (h : CellF x c) : ElemA x [c]
  | ag {xs : List AV} {cs : List FV} (h : CellsF xs cs) : ElemA (.ag xs) cs
inductive ElemsA (ρA : Operand → AV) : List Operand → List (List FV) → Prop
  | nil : ElemsA ρA [] []
  | cons {p : Operand} {c : List FV} {ps : List Operand} {es : List (List FV)} (h : ElemA (ρA p) c) (t : ElemsA ρA ps es) : ElemsA ρA (p :: ps) (c :: es)
theorem ElemsA.at {ρA : Operand → AV} {ps : List Operand} {es : List (List FV)} (h : ElemsA ρA ps es) : ps.length = es.length ∧ ∀ (i : Nat) (p : Operand) (c : List FV), ps[i]? = some p → es[i]? = some c → ElemA (ρA p) c := by
  induction h with
  | nil => exact ⟨rfl, fun i x y h => by simp at h⟩
  | cons h t ih =>
    refine ⟨by simp [ih.1], fun i x' y' hx hy => ?_⟩
    cases i with
    | zero => simp at hx hy; subst hx; subst hy; exact h
    | succ i => exact ih.2 i x' y' (by simpa using hx) (by simpa using hy)

theorem RelF.one {w : World} {M : Nat → Prop} {v : Value} {c : FV} (r : RelF w M v c) : v.oneCell' = true := by
  cases r with
  | sc v h1 => exact h1
  | emp => rfl
  | ls => rfl
theorem CellF.spec {P : Program} {C : Ctx P} {s : Sto} {w : World} {h : Nat → Value} {bk : Nat → Option Nat} {v : Value} {x : AV} {c : FV} (r : Rel C s w h bk v x) (hc : CellF x c) : v.oneCell' = true ∧ RelF w (C.Mut bk) v c := by
  cases hc with
  | fz => cases r with | fz hx => exact ⟨hx.one, hx⟩
  | nil => rw [r.sc]; exact ⟨rfl, .emp none 0 _ (fun _ => rfl)⟩
  | fc => cases r with | fc A n sz es hx => exact ⟨rfl, hx⟩
theorem ElemA.spec {P : Program} {C : Ctx P} {s : Sto} {w : World} {h : Nat → Value} {bk : Nat → Option Nat} {v : Value} {x : AV} {cs : List FV} (r : Rel C s w h bk v x) (he : ElemA x cs) :
    v.cells.size = cs.length ∧ ∀ (j : Nat) (c : FV), cs[j]? = some c → ∃ u, v.cells[j]? = some u ∧ u.oneCell' = true ∧ RelF w (C.Mut bk) u c := by
  cases he with
  | one hc =>
    obtain ⟨h1, h2⟩ := CellF.spec r hc
    rw [cells_one h1]
    refine ⟨rfl, fun j c hj => ?_⟩
    cases j with
    | zero => simp at hj; subst hj; exact ⟨v, rfl, h1, h2⟩
    | succ j => simp at hj
  | ag hcc =>
    rename_i xs
    obtain ⟨hl, hc⟩ := hcc.at
    obtain ⟨arr, rfl, hs, hr⟩ := r.ag_inv
    refine ⟨by show arr.size = _; omega, fun j c hj => ?_⟩
    have hlt := (List.getElem?_eq_some_iff.1 hj).1
    have hx : xs[j]? = some (xs[j]'(by omega)) := List.getElem?_eq_getElem _
    have r1 := hr j _ hx
    have hja : j < arr.size := by omega
    have e1 : arr.getD j undef = arr[j] := by simp [hja]
    rw [e1] at r1
    obtain ⟨h1, h2⟩ := CellF.spec r1 (hc j _ c hx hj)
    exact ⟨arr[j], by show arr[j]? = _; simp [hja], h1, h2⟩

theorem run_buildSlice0 {P : Program} (w : World) (t e sz by_ : Nat) (zs : List Value) (hu : P.underlying t = some (.slice e)) (hz : zb P e = some (zs, sz, by_)) :
    (Instr.buildSlice t 0 #[]).run P w = .ok (.slice (some ⟨w.heap.size, 0, none⟩) 0 0) (w.alloc (.cells #[] e)) := by
  obtain ⟨i, z, hi, _⟩ := zb_spec hz
  simp [Instr.buildSlice, run_underlying hu, sizeOf, typeInfo, hi, newRow, Instr.fill, show Array.range 0 = #[] from rfl]

theorem flat_at {cells : List (List Value)} {sz : Nat} (hl : ∀ c ∈ cells, c.length = sz) : ∀ (i j : Nat), j < sz → (cells.flatten)[i * sz + j]? = cells[i]?.bind (·[j]?) := by
  induction cells with
  | nil => intro i j _; simp
  | cons c cells ih =>
    intro i j hj
    have hc : c.length = sz := hl c (by simp)
    rw [List.flatten_cons]
    cases i with
    | zero =>
      rw [List.getElem?_append_left (by omega)]
      simp
    | succ i =>
      rw [List.getElem?_append_right (by rw [hc, Nat.add_mul]; omega), hc]
      have : (i + 1) * sz + j - sz = i * sz + j := by rw [Nat.add_mul]; omega
      rw [this, ih (fun c' h' => hl c' (List.mem_cons_of_mem _ h')) i j hj]
      simp

theorem zip_swap (ps : List Operand) (ρ : Operand → Value) : ((ps.zipIdx 0).map fun x => (x.2, x.1)).map (fun x : Nat × Operand => (x.1, ρ x.2)) = (((ps.map ρ).zipIdx 0).map fun x => (x.2, x.1)) := by
  rw [List.zipIdx_map]
  simp [List.map_map, Function.comp_def]

/-- The row that an operation has just made: its header, its cells. -/
def Born {P : Program} (C : Ctx P) (w : World) (bk : Nat → Option Nat) (e sz : Nat) (es : List (List FV)) (h1 : Value) (w' : World) : Prop :=
  Below w.heap.size w w' ∧ (∀ b, h1.ownBlock = some b → w.heap.size ≤ b) ∧ 0 < sz ∧ (∀ c ∈ es, c.length = sz) ∧ ∃ xs, w'.ownsRow w.heap.size e sz h1 es.length xs ∧
    ∀ i j x, es[i]?.bind (·[j]?) = some x → ∃ v, xs[i * sz + j]? = some v ∧ v.oneCell' = true ∧ RelF w (C.Mut bk) v x

theorem ownsRow_le {w : World} {B B' : Nat} {e : TypeId} {sz : Nat} {v : Value} {n : Nat} {xs : List Value} (hB : B' ≤ B) (h : w.ownsRow B e sz v n xs) : w.ownsRow B' e sz v n xs := by
  obtain ⟨h1, h2⟩ := h
  refine ⟨h1, h2.imp id ?_⟩
  rintro ⟨g, cap, cur, a1, a2, r⟩
  exact ⟨g, cap, cur, a1, Nat.le_trans hB a2, r⟩

/-- It is the call's own, to be written. -/
theorem Born.own {P : Program} {C : Ctx P} {s : Sto} {w w' : World} {h : Nat → Value} {bk : Nat → Option Nat} (H : HeapOk C s w h bk) {e sz : Nat} {es : List (List FV)} {h1 : Value} (b : Born C w bk e sz es h1 w') (d : Nat) :
    ∃ h' bk', HeapOk C (s.set d ⟨(s d).v + 1, .row e sz es⟩) w' h' bk' ∧ (∀ u y, Rel C s w h bk u y → Rel C (s.set d ⟨(s d).v + 1, .row e sz es⟩) w' h' bk' u y) ∧
      Rel C (s.set d ⟨(s d).v + 1, .row e sz es⟩) w' h' bk' h1 (.ow d ((s d).v + 1)) := by
  obtain ⟨hbel, hnew, hsz, hes, xs, hrow, hx⟩ := b
  have hB := H.below.size
  exact H.toRow (w' := w') d e sz es h1 xs ⟨hbel.os, hbel.tape, hbel.output, hbel.size, fun i hi => absurd hi (Nat.not_lt_zero i)⟩ (fun b hb _ => hbel.block b hb) (fun b hb => .inr (hnew b hb)) (ownsRow_le (Nat.zero_le _) hrow) hsz hes hx

/-- Nobody will write it: frozen at birth. -/
theorem Born.fz {P : Program} {C : Ctx P} {s : Sto} {w w' : World} {h : Nat → Value} {bk : Nat → Option Nat} (H : HeapOk C s w h bk) {e sz : Nat} {es : List (List FV)} {h1 : Value} (b : Born C w bk e sz es h1 w') :
    HeapOk C s w' h bk ∧ (∀ u y, Rel C s w h bk u y → Rel C s w' h bk u y) ∧ Rel C s w' h bk h1 (.fz (.ls sz es)) := by
  obtain ⟨hbel, hnew, hsz, hes, xs, hrow, hx⟩ := b
  obtain ⟨H', hm⟩ := H.grown hbel
  refine ⟨H', hm, .fz (relF_of_row hrow hsz hes (fun b hb hmut => ?_) (fun i j x hx' => ?_))⟩
  · have h2 := hnew b hb
    rcases hmut with h3 | ⟨k, h3⟩
    · have := C.hM b h3; have := H.below.size; omega
    · have := (H.lt k b h3).2; omega
  · obtain ⟨v, a1, a2, a3⟩ := hx i j x hx'
    exact ⟨v, a1, a2, a3.keep (fun b hb _ => hbel.block b hb) (fun _ _ h => h)⟩

/-- A literal of a slice: all its parts, in order. -/
theorem buildSlice_born {P : Program} {C : Ctx P} {o : Oper} {s : Sto} {ρA : Operand → AV} {t e sz by_ : Nat} {zs : List Value} {n : Nat} {parts : Array (Nat × Operand)} (ho : o.op = .buildSlice t n parts)
    (ht : P.underlying t = some (.slice e)) (hz : zb P e = some (zs, sz, by_)) (hsz : 0 < sz) (hsm : n * sz ≤ 16777216) (ps : List Operand) (hps : parts.toList = (ps.zipIdx 0).map fun x => (x.2, x.1)) (hn : ps.length = n)
    {es : List (List FV)} (hl : es.length = n) (hes : ∀ c ∈ es, c.length = sz) (hx : ∀ (i : Nat) (p : Operand) (c : List FV), ps[i]? = some p → es[i]? = some c → ElemA (ρA p) c)
    {ρ : Operand → Value} {w : World} {h : Nat → Value} {bk : Nat → Option Nat} (H : HeapOk C s w h bk) (hr : ∀ p, p ∈ o.op.operands → Rel C s w h bk (ρ p) (ρA p)) :
    ∃ h1 w', (execOp ρ o).run P w = .ok (.value h1) w' ∧ Born C w bk e sz es h1 w' := by
  obtain ⟨i, z, hi, hz0, hzc, his, hib⟩ := zb_spec hz
  have hB := H.below.size
  have hmem : ∀ p, p ∈ ps → p ∈ o.op.operands := by
    intro p hp
    rw [ho]
    simp only [Op.operands, List.mem_toArray, List.mem_map]
    obtain ⟨m, hm⟩ := List.getElem?_of_mem hp
    refine ⟨(m, p), ?_, rfl⟩
    rw [hps]
    refine List.mem_map.2 ⟨(p, m), ?_, rfl⟩
    exact List.mem_zipIdx_iff_getElem?.2 (by simpa using hm)
  have helem : ∀ (i : Nat) (p : Operand), ps[i]? = some p → ∃ c, es[i]? = some c ∧ (ρ p).cells.size = c.length ∧ ∀ (j : Nat) (f : FV), c[j]? = some f → ∃ u, (ρ p).cells[j]? = some u ∧ u.oneCell' = true ∧ RelF w (C.Mut bk) u f := by
    intro i p hp
    have hi : i < es.length := by have := (List.getElem?_eq_some_iff.1 hp).1; omega
    exact ⟨es[i], List.getElem?_eq_getElem hi, ElemA.spec (hr p (hmem p (List.mem_of_getElem? hp))) (hx i p _ hp (List.getElem?_eq_getElem hi))⟩
  let vs := ps.map ρ
  have hvs : ∀ v ∈ vs, v.cells.size = sz := by
    intro v hv
    obtain ⟨p, hp, rfl⟩ := List.mem_map.1 hv
    obtain ⟨m, hm⟩ := List.getElem?_of_mem hp
    obtain ⟨c, hc, h1, _⟩ := helem m p hm
    rw [h1, hes c (List.mem_of_getElem? hc)]
  let xs : List Value := vs.flatMap fun v => v.cells.toList
  have hxl : xs.length = n * sz := by
    have : ∀ l : List Value, (∀ v ∈ l, v.cells.size = sz) → (l.flatMap fun v => v.cells.toList).length = l.length * sz := by
      intro l
      induction l with
      | nil => intro _; simp
      | cons v l ih =>
        intro hv
        simp only [List.flatMap_cons, List.length_append, List.length_cons, ih (fun u hu => hv u (List.mem_cons_of_mem _ hu)), Array.length_toList, hv v (by simp), Nat.add_mul]
        omega
    rw [this vs hvs]
    simp [vs, hn]
  have hparts : (parts.map fun (x : Nat × Operand) => (x.1, ρ x.2)).toList = ((vs.zipIdx 0).map fun x => (x.2, x.1)) := by
    rw [Array.toList_map, hps]
    exact zip_swap ps ρ
  have hrun : (Instr.buildSlice t n (parts.map fun (x : Nat × Operand) => (x.1, ρ x.2))).run P w = .ok (.slice (some ⟨w.heap.size, 0, none⟩) n n) (w.alloc (.cells xs.toArray e)) := by
    by_cases h0 : n = 0
    · subst h0
      have hp0 : ps = [] := List.eq_nil_of_length_eq_zero hn
      have hpa : parts = #[] := by
        rw [hp0] at hps
        have : parts.toList = [] := by simpa using hps
        simpa using this
      rw [hpa]
      have hx0 : xs = [] := List.eq_nil_of_length_eq_zero (by rw [hxl]; simp)
      rw [hx0]
      rw [show Array.map (fun x : Nat × Operand => (x.1, ρ x.2)) #[] = #[] from by simp]
      exact run_buildSlice0 w t e sz by_ zs ht hz
    · have hpos : 0 < n * sz := Nat.mul_pos (Nat.pos_of_ne_zero h0) hsz
      refine run_buildSlice w t e n _ xs.toArray i z ht hi hz0 (by rw [his]; omega) (by rw [his]; omega) ?_
      rw [his, hparts]
      refine Great.fill_whole hsz vs _ hvs ?_
      simp [vs, hn]
  refine ⟨.slice (some ⟨w.heap.size, 0, none⟩) n n, w.alloc (.cells xs.toArray e), by simp only [execOp, ho, Sem.run_bind, hrun, Result.andThen_ok, Sem.run_pure], alloc_below _ (Nat.le_refl _), fun b hb => (by cases hb; exact Nat.le_refl _), hsz, hes, xs,
    ⟨by rw [hl]; exact hxl, .inr ⟨w.heap.size, n, xs.toArray, by rw [hl], Nat.le_refl _, heap_alloc_new w _, by omega, by
        have : n ≤ n * sz := Nat.le_mul_of_pos_right _ hsz
        simp only [maxLen]; omega, by simp [hxl], by
        rw [hl, ← hxl]; simp⟩⟩, fun i j x hx' => ?_⟩
  obtain ⟨c, hc, hcj⟩ := Option.bind_eq_some_iff.1 hx'
  have hi : i < ps.length := by have := (List.getElem?_eq_some_iff.1 hc).1; omega
  obtain ⟨c', hc', h1, h2⟩ := helem i ps[i] (List.getElem?_eq_getElem hi)
  rw [hc] at hc'
  cases hc'
  obtain ⟨u, hu, ho1, hrel⟩ := h2 j x hcj
  have hj : j < sz := by
    have := (List.getElem?_eq_some_iff.1 hcj).1
    rw [hes c (List.mem_of_getElem? hc)] at this
    exact this
  refine ⟨u, ?_, ho1, hrel⟩
  have hf : xs = (vs.map fun v => v.cells.toList).flatten := by simp [xs, List.flatMap]
  rw [hf, flat_at (sz := sz) (fun c hc => by
    obtain ⟨v, hv, rfl⟩ := List.mem_map.1 hc
    rw [Array.length_toList]
    exact hvs v hv) i j hj]
  simp only [vs, List.getElem?_map, List.getElem?_eq_getElem hi, Option.map_some, Option.bind_some]
  simpa using hu

section
variable {P : Program} {C : Ctx P} {dst : Option Nat} {ty : Nat} {pos : String} {af : Array Edge} {gd : Option (Nat × Bool)} {s : Sto} {ρA : Operand → AV} {t e sz by_ : Nat} {zs : List Value} {n : Nat} {parts : Array (Nat × Operand)}
    (ht : P.underlying t = some (.slice e)) (hz : zb P e = some (zs, sz, by_)) (hsz : Nat.blt 0 sz = true) (hsm : Nat.ble (n * sz) 16777216 = true) (ps : List Operand) (hps : parts.toList = (ps.zipIdx 0).map fun x => (x.2, x.1)) (hn : ps.length = n)
    {es : List (List FV)} (hes : ∀ c ∈ es, c.length = sz) (hx : ElemsA ρA ps es)
include ht hz hsz hsm hps hn hes hx
theorem D.lit (d : Nat) {u : Nat} (hd : (s d).v = u) : Dz C ⟨dst, .buildSlice t n parts, ty, pos, af, gd⟩ s ρA (.ow d (u + 1)) [(d, ⟨u + 1, .row e sz es⟩)] [d] := fun s1 hs => by
  have e1 : (s1 d).v = u := by rw [hs d (by simp)]; exact hd
  subst e1
  exact Does.turn fun ρ w h bk H hr => by
    obtain ⟨h1, w', hrun, b⟩ := buildSlice_born rfl ht hz (Nat.le_of_ble_eq_true hsz) (Nat.le_of_ble_eq_true hsm) ps hps hn (by rw [← hx.at.1]; exact hn) hes hx.at.2 H hr
    obtain ⟨h', bk', a1, a2, a3⟩ := b.own H d
    exact ⟨h1, w', h', bk', .inl hrun, a1, a2, fun _ => a3⟩
theorem D.litF : Dz C ⟨dst, .buildSlice t n parts, ty, pos, af, gd⟩ s ρA (.fz (.ls sz es)) [] [] := fun s1 hs =>
  Does.turn fun ρ w h bk H hr => by
    obtain ⟨h1, w', hrun, b⟩ := buildSlice_born rfl ht hz (Nat.le_of_ble_eq_true hsz) (Nat.le_of_ble_eq_true hsm) ps hps hn (by rw [← hx.at.1]; exact hn) hes hx.at.2 H hr
    obtain ⟨a1, a2, a3⟩ := b.fz H
    exact ⟨h1, w', h, bk, .inl hrun, a1, a2, fun _ => a3⟩
end

end Go.SL
