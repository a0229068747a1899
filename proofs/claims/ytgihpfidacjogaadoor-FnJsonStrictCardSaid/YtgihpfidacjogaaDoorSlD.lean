/- S-logic, part 4: boxes: made, stored into; addresses; builds. -/
import Derived.Test.YtgihpfidacjogaaDoorSlC
import Derived.Laws.Rows
set_option linter.unusedVariables false
set_option linter.unusedSimpArgs false
namespace Go.SL
open Go.RowKit

/-- One cell, and no more. -/
def isOne : AV → Bool
  | .ag _ => false
  | .tu _ => false
  | .xx => false
  | .ud => false
  | _ => true
theorem cells_one {v : Value} (h : v.oneCell' = true) : v.cells = #[v] := by cases v <;> first | rfl | (simp [Value.oneCell'] at h)
theorem isOne_spec {P : Program} {C : Ctx P} {s : Sto} {w : World} {h : Nat → Value} {bk : Nat → Option Nat} {v : Value} {x : AV} (r : Rel C s w h bk v x) (ho : isOne x = true) : v.oneCell' = true := by
  cases r with
  | fz hx => cases hx with
    | sc v h1 => exact h1
    | emp => rfl
    | ls => rfl
  | brn => rfl
  | br => rfl
  | ow k u h1 hu hv => exact h1
  | op k u n h1 hu hv => exact h1
  | mp k u h1 hu hv => exact h1
  | er => rfl
  | pt k u off h1 hu hv => exact h1
  | fc => rfl
  | pe => rfl
  | fn => rfl
  | ag => cases ho
  | tu => cases ho
  | xx => cases ho
  | ud => cases ho

/-- The cells of a value. -/
def cellsOf : AV → Option (List AV)
  | .ag cs => bif cs.all isOne then some cs else none
  | .tu _ => none
  | .xx => none
  | .ud => none
  | x => some [x]
theorem cellsOf_spec {P : Program} {C : Ctx P} {s : Sto} {w : World} {h : Nat → Value} {bk : Nat → Option Nat} {v : Value} {x : AV} {cs : List AV} (r : Rel C s w h bk v x) (hc : cellsOf x = some cs) :
    v.cells.size = cs.length ∧ ∀ i y, cs[i]? = some y → (v.cells.getD i undef).oneCell' = true ∧ Rel C s w h bk (v.cells.getD i undef) y := by
  have one : isOne x = true → some [x] = some cs → v.cells.size = cs.length ∧ ∀ i y, cs[i]? = some y → (v.cells.getD i undef).oneCell' = true ∧ Rel C s w h bk (v.cells.getD i undef) y := by
    intro ho he
    cases he
    have h1 := isOne_spec r ho
    rw [cells_one h1]
    refine ⟨rfl, fun i y hy => ?_⟩
    cases i with
    | zero => simp at hy; subst hy; exact ⟨h1, r⟩
    | succ i => simp at hy
  cases x with
  | ag xs =>
    change (bif xs.all isOne then some xs else none) = some cs at hc
    cases ha : xs.all isOne with
    | false => rw [ha] at hc; cases hc
    | true =>
      rw [ha] at hc
      cases hc
      cases r with
      | ag arr cs hs hr =>
        refine ⟨hs, fun i y hy => ?_⟩
        have r2 := hr i y hy
        exact ⟨isOne_spec r2 (List.all_eq_true.1 ha y (List.mem_of_getElem? hy)), r2⟩
  | tu => cases hc
  | xx => cases hc
  | ud => cases hc
  | fz => exact one rfl hc
  | br => exact one rfl hc
  | ow => exact one rfl hc
  | op => exact one rfl hc
  | pt => exact one rfl hc
  | mp => exact one rfl hc
  | er => exact one rfl hc
  | pe => exact one rfl hc
  | fc => exact one rfl hc
  | fn => exact one rfl hc

theorem alloc_below {B : Nat} {w : World} (o : Go.Obj) (h : B ≤ w.heap.size) : Below B w (w.alloc o) :=
  ⟨rfl, rfl, rfl, by show _ ≤ (w.heap.push o).size; simp, fun k hk => heap_alloc_old w o k (by omega)⟩

/-- A new box at key k: its cells are those of a value. -/
theorem HeapOk.newBox {P : Program} {C : Ctx P} {s : Sto} {w : World} {h : Nat → Value} {bk : Nat → Option Nat} (H : HeapOk C s w h bk) (k e : Nat) (c : Array Value) (cs : List AV)
    (hs : c.size = cs.length) (hc : ∀ i y, cs[i]? = some y → (c.getD i undef).oneCell' = true ∧ Rel C s w h bk (c.getD i undef) y) :
    ∃ h' bk', HeapOk C (s.set k ⟨(s k).v + 1, .box e cs⟩) (w.alloc (.cells c e)) h' bk' ∧ (∀ u y, Rel C s w h bk u y → Rel C (s.set k ⟨(s k).v + 1, .box e cs⟩) (w.alloc (.cells c e)) h' bk' u y) ∧
      Rel C (s.set k ⟨(s k).v + 1, .box e cs⟩) (w.alloc (.cells c e)) h' bk' (.pointer (some ⟨w.heap.size, 0, none⟩)) (.pt k ((s k).v + 1) 0) := by
  have ht := H.turn (w' := w.alloc (.cells c e)) k ⟨(s k).v + 1, .box e cs⟩ (.pointer none) (some w.heap.size) (alloc_below _ (Nat.zero_le _)) (fun b hb _ => heap_alloc_old w _ b hb)
    (.inl (by simp)) (fun b hb => .inr (by cases hb; refine ⟨Nat.le_refl _, ?_⟩; show _ < (w.heap.push _).size; simp))
    (fun hrel _ => by
      unfold ObjOk
      rw [Sto.set_same, upd_same]
      exact ⟨w.heap.size, c, rfl, Nat.zero_le _, heap_alloc_new w _, hs, fun i y hy => ⟨(hc i y hy).1, hrel _ _ (hc i y hy).2⟩⟩)
  refine ⟨_, _, ht.1, ht.2, .pt k _ 0 rfl (by rw [Sto.set_same]; exact Nat.le_refl _) (fun _ => ⟨w.heap.size, by rw [upd_same], rfl⟩)⟩

theorem Does.box {P : Program} {C : Ctx P} {o : Oper} {s : Sto} {ρA : Operand → AV} (t d : Nat) (p : Operand) (ho : o.op = .box t p) (cs : List AV) (hc : cellsOf (ρA p) = some cs) :
    Does C o s ρA (.pt d ((s d).v + 1) 0) (s.set d ⟨(s d).v + 1, .box t cs⟩) :=
  Does.turn fun ρ w h bk H hr => by
    have r := hr p (by simp [ho, Op.operands])
    obtain ⟨h1, h2⟩ := cellsOf_spec r hc
    obtain ⟨h', bk', a1, a2, a3⟩ := H.newBox d t (ρ p).cells cs h1 h2
    exact ⟨_, _, h', bk', .inl (by simp [execOp, ho, Instr.box, newVar, newRow]), a1, a2, fun _ => a3⟩

def zf (P : Program) (t : TypeId) : Option (List Value) := ((P.info? t).bind (·.zero)).map (·.cells.toList)
theorem run_zeroV {P : Program} {t : TypeId} {zs : List Value} (h : zf P t = some zs) (w : World) : ∃ z, (zeroValue t).run P w = .ok z w ∧ z.cells.toList = zs := by
  unfold zf at h
  cases hi : P.info? t with
  | none => simp [hi] at h
  | some i =>
    cases hz : i.zero with
    | none => simp [hi, hz] at h
    | some z =>
      simp [hi, hz] at h
      exact ⟨z, by simp [zeroValue, typeInfo, hi, hz], by simpa using h⟩

theorem Does.alloc {P : Program} {C : Ctx P} {o : Oper} {s : Sto} {ρA : Operand → AV} (t d : Nat) (ho : o.op = .alloc t) (zs : List Value) (hz : zf P t = some zs) (h1 : zs.all (·.oneCell') = true) :
    Does C o s ρA (.pt d ((s d).v + 1) 0) (s.set d ⟨(s d).v + 1, .box t (zs.map fun v => .fz (.sc v))⟩) :=
  Does.turn fun ρ w h bk H hr => by
    obtain ⟨z, hz1, hz2⟩ := run_zeroV hz w
    have hsz : z.cells.size = (zs.map fun v => AV.fz (.sc v)).length := by rw [← hz2]; simp
    obtain ⟨h', bk', a1, a2, a3⟩ := H.newBox d t z.cells (zs.map fun v => .fz (.sc v)) hsz (fun i y hy => by
      rw [List.getElem?_map] at hy
      obtain ⟨v, hv, rfl⟩ := Option.map_eq_some_iff.1 hy
      have e1 : z.cells.getD i undef = v := by
        rw [← hz2] at hv
        have : z.cells[i]? = some v := by simpa using hv
        simp [Array.getD_eq_getD_getElem?, this]
      rw [e1]
      exact ⟨List.all_eq_true.1 h1 v (List.mem_of_getElem? hv), .fz (.sc v (List.all_eq_true.1 h1 v (List.mem_of_getElem? hv)))⟩)
    exact ⟨_, _, h', bk', .inl (by simp [execOp, ho, Instr.alloc, hz1, newVar, newRow]), a1, a2, fun _ => a3⟩

theorem setRow_heap_ne (w : World) (g b : Nat) (cs : Array Value) (h : b ≠ g) : (w.setRow g cs).heap[b]? = w.heap[b]? := by
  simp [World.setRow, Array.getElem?_modify, Ne.symm h]
theorem setRow_size (w : World) (g : Nat) (cs : Array Value) : (w.setRow g cs).heap.size = w.heap.size := by simp [World.setRow]
theorem setRow_below {B : Nat} {w : World} {g : Nat} (cs : Array Value) (h : B ≤ g) : Below B w (w.setRow g cs) :=
  ⟨rfl, rfl, rfl, by rw [setRow_size]; exact Nat.le_refl _, fun k hk => setRow_heap_ne w g k cs (by omega)⟩

/-- The cells of a box from off on are written. -/
theorem HeapOk.setBox {P : Program} {C : Ctx P} {s : Sto} {w : World} {h : Nat → Value} {bk : Nat → Option Nat} (H : HeapOk C s w h bk) (k u e b : Nat) (cs : List AV) (hk : s k = ⟨u, .box e cs⟩) (hb : bk k = some b)
    (c' : Array Value) (cs' : List AV) (hs : c'.size = cs'.length) (hc : ∀ i y, cs'[i]? = some y → (c'.getD i undef).oneCell' = true ∧ Rel C s w h bk (c'.getD i undef) y) :
    ∃ h' bk', HeapOk C (s.set k ⟨u, .box e cs'⟩) (w.setRow b c') h' bk' ∧ (∀ v y, Rel C s w h bk v y → Rel C (s.set k ⟨u, .box e cs'⟩) (w.setRow b c') h' bk' v y) := by
  obtain ⟨b', c, hb', hB, hw, _, _⟩ := H.box (k := k) (e := e) (cs := cs) (by rw [hk])
  rw [hb] at hb'
  cases hb'
  have ht := H.turn (w' := w.setRow b c') k ⟨u, .box e cs'⟩ (h k) (bk k) (setRow_below c' hB)
    (fun b2 hb2 hne => setRow_heap_ne w b b2 c' (fun e1 => hne (by rw [hb, e1])))
    (.inr ⟨by rw [hk], rfl, rfl⟩) (fun b2 hb2 => .inl hb2)
    (fun hrel _ => by
      unfold ObjOk
      rw [Sto.set_same, upd_same]
      exact ⟨b, c', hb, hB, setRow_heap w b c c' e (0, 0) hw, hs, fun i y hy => ⟨(hc i y hy).1, hrel _ _ (hc i y hy).2⟩⟩)
  exact ⟨_, _, ht⟩

/-- list of cells, a part written -/
def wr {α : Type} (cs : List α) (off : Nat) (ys : List α) : List α := cs.take off ++ ys ++ cs.drop (off + ys.length)
theorem wr_get {α : Type} (cs : List α) (off : Nat) (ys : List α) (h : off + ys.length ≤ cs.length) (i : Nat) :
    (wr cs off ys)[i]? = if i < off then cs[i]? else if i < off + ys.length then ys[i - off]? else cs[i]? := by
  unfold wr
  have h1 : (cs.take off).length = off := by simp; omega
  by_cases a : i < off
  · rw [if_pos a, List.append_assoc, List.getElem?_append_left (by omega), List.getElem?_take_of_lt a]
  · rw [if_neg a]
    by_cases b : i < off + ys.length
    · rw [if_pos b, List.getElem?_append_left (by simp; omega), List.getElem?_append_right (by omega), h1]
    · rw [if_neg b, List.getElem?_append_right (by simp; omega)]
      simp only [List.length_append, h1, List.getElem?_drop]
      congr 1
      omega
theorem wr_length {α : Type} (cs : List α) (off : Nat) (ys : List α) (h : off + ys.length ≤ cs.length) : (wr cs off ys).length = cs.length := by
  unfold wr; simp; omega

theorem Does.store_box {P : Program} {C : Ctx P} {o : Oper} {s : Sto} {ρA : Operand → AV} (t n : Nat) (b : Bool) (p q : Operand) (ho : o.op = .store t p q) (hd : o.dst = none) (ht : tf P t = some (n, b))
    (k u off e : Nat) (cs ys : List AV) (hp : ρA p = .pt k u off) (hk : s k = ⟨u, .box e cs⟩) (hq : cellsOf (ρA q) = some ys) (hn : ys.length = n) (hl : off + n ≤ cs.length) (x : AV) :
    Does C o s ρA x (s.set k ⟨u, .box e (wr cs off ys)⟩) :=
  Does.turn fun ρ w h bk H hr => by
    have r := hr p (by simp [ho, Op.operands])
    have rq := hr q (by simp [ho, Op.operands])
    rw [hp] at r
    obtain ⟨g, hg, hv⟩ := r.pt_inv (by rw [hk])
    obtain ⟨g', c, hg', _, hw, hs, hc⟩ := H.box (k := k) (by rw [hk])
    rw [hg] at hg'
    cases hg'
    obtain ⟨q1, q2⟩ := cellsOf_spec rq hq
    have hone : ∀ v ∈ (ρ q).cells.toList, v.oneCell' = true := by
      intro v hv
      obtain ⟨i, hi, rfl⟩ := List.getElem_of_mem hv
      have hi' : i < (ρ q).cells.size := by simpa using hi
      have := (q2 i (ys[i]'(by omega)) (by simp)).1
      simpa [Array.getD_eq_getD_getElem?, hi'] using this
    have hst := run_storeCells_at (P := P) g off e (ρ q).cells.toList 0 c w hw (by simp; omega) hone
    have hrun : (Instr.storeAt t (ρ p) (ρ q)).run P w = .ok () (w.setRow g (wr c.toList off (ρ q).cells.toList).toArray) := by
      rw [hv]
      simp only [Instr.storeAt, Instr.sureAddr, storeVar, Sem.run_bind, Sem.run_pure, Result.andThen_ok, run_sizeT ht]
      rw [if_neg (by omega)]
      simp only [Nat.add_zero, Array.length_toList] at hst
      simpa [wr] using hst
    obtain ⟨h', bk', a1, a2⟩ := H.setBox k u e g cs hk hg (wr c.toList off (ρ q).cells.toList).toArray (wr cs off ys)
      (by rw [List.size_toArray, wr_length _ _ _ (by simp; omega), wr_length _ _ _ (by omega)]; simpa using hs) (fun i y hy => by
        rw [wr_get _ _ _ (by omega)] at hy
        have e1 : ((wr c.toList off (ρ q).cells.toList).toArray).getD i undef = if i < off then c.getD i undef else if i < off + n then (ρ q).cells.getD (i - off) undef else c.getD i undef := by
          rw [Array.getD_eq_getD_getElem?, List.getElem?_toArray, wr_get _ _ _ (by simp; omega)]
          simp only [Array.length_toList, q1, hn]
          split
          · simp
          · split <;> simp
        rw [e1]
        rw [hn] at hy
        by_cases a : i < off
        · rw [if_pos a] at hy ⊢; exact hc i y hy
        · rw [if_neg a] at hy ⊢
          by_cases b : i < off + n
          · rw [if_pos b] at hy ⊢; exact q2 _ y hy
          · rw [if_neg b] at hy ⊢; exact hc i y hy)
    exact ⟨undef, _, h', bk', .inr ⟨hd, by simp [execOp, ho, hrun]⟩, a1, a2, fun h => absurd hd h⟩

end Go.SL
