/- S-logic, part 3: what one operation does; the operations without calls. -/
import Derived.Test.YtgihpfidacjogaaDoorSlB
import Derived.Deep.MidRow
import Derived.Laws.CopyRow
import Derived.Laws.IdiomCopy
import Derived.ChangeKeysEq
set_option linter.unusedVariables false
set_option linter.unusedSimpArgs false
namespace Go.SL
open Go.RowKit

def Does {P : Program} (C : Ctx P) (o : Oper) (s : Sto) (ρA : Operand → AV) (x : AV) (s' : Sto) : Prop :=
  ∀ (ρ : Operand → Value) (w : World) (h : Nat → Value) (bk : Nat → Option Nat), HeapOk C s w h bk → (∀ p, p ∈ o.op.operands → Rel C s w h bk (ρ p) (ρA p)) →
    ∀ (a : Act) (next : Act → World → Prop) (Q : Exit → Act → World → Prop),
      (∀ v w' h' bk', HeapOk C s' w' h' bk' → (∀ u y, Rel C s w h bk u y → Rel C s' w' h' bk' u y) → (o.dst ≠ none → Rel C s' w' h' bk' v x) → next (a.put o.dst v) w') →
      o.upon P a next Q ((execOp ρ o).run P w)

/-- The operation leaves the world alone. -/
theorem Does.same {P : Program} {C : Ctx P} {o : Oper} {s : Sto} {ρA : Operand → AV} {x : AV}
    (hh : ∀ (ρ : Operand → Value) (w : World) (h : Nat → Value) (bk : Nat → Option Nat), HeapOk C s w h bk → (∀ p, p ∈ o.op.operands → Rel C s w h bk (ρ p) (ρA p)) →
      ∃ v, (execOp ρ o).run P w = .ok (.value v) w ∧ Rel C s w h bk v x) : Does C o s ρA x s := by
  intro ρ w h bk H hr a next Q k
  obtain ⟨v, e, hv⟩ := hh ρ w h bk H hr
  rw [e]
  exact k v w h bk H (fun _ _ r => r) (fun _ => hv)

/-- It makes, or turns, one object. -/
theorem Does.turn {P : Program} {C : Ctx P} {o : Oper} {s s' : Sto} {ρA : Operand → AV} {x : AV}
    (hh : ∀ (ρ : Operand → Value) (w : World) (h : Nat → Value) (bk : Nat → Option Nat), HeapOk C s w h bk → (∀ p, p ∈ o.op.operands → Rel C s w h bk (ρ p) (ρA p)) →
      ∃ v w' h' bk', ((execOp ρ o).run P w = .ok (.value v) w' ∨ o.dst = none ∧ (execOp ρ o).run P w = .ok .skip w') ∧ HeapOk C s' w' h' bk' ∧ (∀ u y, Rel C s w h bk u y → Rel C s' w' h' bk' u y) ∧ (o.dst ≠ none → Rel C s' w' h' bk' v x)) : Does C o s ρA x s' := by
  intro ρ w h bk H hr a next Q k
  obtain ⟨v, w', h', bk', e, H', hm, hv⟩ := hh ρ w h bk H hr
  rcases e with e | ⟨hd, e⟩
  · rw [e]; exact k v w' h' bk' H' hm hv
  · rw [e]; exact k undef w' h' bk' H' hm (fun h => absurd hd h)

def tf (P : Program) (t : TypeId) : Option (Nat × Bool) := (P.info? t).bind fun i => (P.underlying t).map fun d => (i.size, d.isRow)
theorem tf_spec {P : Program} {t n : Nat} {b : Bool} (h : tf P t = some (n, b)) : ∃ i d, P.info? t = some i ∧ i.size = n ∧ P.underlying t = some d ∧ d.isRow = b := by
  unfold tf at h
  cases hi : P.info? t with
  | none => rw [hi] at h; cases h
  | some i =>
    rw [hi] at h
    cases hu : P.underlying t with
    | none => rw [hu] at h; cases h
    | some d =>
      rw [hu] at h
      simp at h
      exact ⟨i, d, rfl, h.1, rfl, h.2⟩
theorem run_isAgg {P : Program} {t n : Nat} {b : Bool} (h : tf P t = some (n, b)) (w : World) : (isAgg t).run P w = .ok b w := by
  obtain ⟨i, d, _, _, hu, hd⟩ := tf_spec h
  unfold isAgg
  rw [Sem.run_bind, run_underlying hu w]
  subst hd
  cases d <;> rfl
theorem run_sizeT {P : Program} {t n : Nat} {b : Bool} (h : tf P t = some (n, b)) (w : World) : (sizeOf t).run P w = .ok n w := by
  obtain ⟨i, d, hi, hn, _, _⟩ := tf_spec h
  simp [sizeOf, typeInfo, hi, hn]

theorem Does.move {P : Program} {C : Ctx P} {o : Oper} {s : Sto} {ρA : Operand → AV} (p : Operand) (ho : o.op = .move p ∨ o.op = .assign p) : Does C o s ρA (ρA p) s :=
  Does.same fun ρ w h bk H hr => by
    rcases ho with ho | ho <;> exact ⟨ρ p, by simp [execOp, ho], hr p (by simp [ho, Op.operands])⟩

/-! ### Reading the relation -/
theorem Rel.sc {P : Program} {C : Ctx P} {s : Sto} {w : World} {h : Nat → Value} {bk : Nat → Option Nat} {v u : Value} (r : Rel C s w h bk v (.fz (.sc u))) : v = u := by
  cases r with
  | fz hx => cases hx; rfl
theorem Rel.mk_sc {P : Program} {C : Ctx P} {s : Sto} {w : World} {h : Nat → Value} {bk : Nat → Option Nat} (u : Value) (h1 : u.oneCell' = true) : Rel C s w h bk u (.fz (.sc u)) := .fz (.sc u h1)
theorem Rel.pt_inv {P : Program} {C : Ctx P} {s : Sto} {w : World} {h : Nat → Value} {bk : Nat → Option Nat} {v : Value} {k u off : Nat} (r : Rel C s w h bk v (.pt k u off)) (hs : (s k).v = u) :
    ∃ b, bk k = some b ∧ v = .pointer (some ⟨b, off, none⟩) := by
  cases r with
  | pt k u off _ hu hv => exact hv hs
theorem Rel.ow_inv {P : Program} {C : Ctx P} {s : Sto} {w : World} {h : Nat → Value} {bk : Nat → Option Nat} {v : Value} {k u : Nat} (r : Rel C s w h bk v (.ow k u)) (hs : (s k).v = u) : v = h k := by
  cases r with
  | ow k u _ hu hv => exact hv hs

theorem HeapOk.box {P : Program} {C : Ctx P} {s : Sto} {w : World} {h : Nat → Value} {bk : Nat → Option Nat} (H : HeapOk C s w h bk) {k e : Nat} {cs : List AV} (ho : (s k).o = .box e cs) :
    ∃ b c, bk k = some b ∧ 0 ≤ b ∧ w.heap[b]? = some (.cells c e (0, 0)) ∧ c.size = cs.length ∧ ∀ i x, cs[i]? = some x → (c.getD i undef).oneCell' = true ∧ Rel C s w h bk (c.getD i undef) x := by
  have := H.obj k
  unfold ObjOk at this
  rw [ho] at this
  exact this
theorem HeapOk.row {P : Program} {C : Ctx P} {s : Sto} {w : World} {h : Nat → Value} {bk : Nat → Option Nat} (H : HeapOk C s w h bk) {k e sz : Nat} {es : List (List FV)} (ho : (s k).o = .row e sz es) :
    ∃ xs, w.ownsRow 0 e sz (h k) es.length xs ∧ 0 < sz ∧ bk k = (h k).ownBlock ∧ (∀ x ∈ es, x.length = sz) ∧
      ∀ i j x, es[i]?.bind (·[j]?) = some x → ∃ v, xs[i * sz + j]? = some v ∧ v.oneCell' = true ∧ RelF w (C.Mut bk) v x := by
  have := H.obj k
  unfold ObjOk at this
  rw [ho] at this
  exact this

/-! ### Loads -/
theorem cell_mid {w : World} {b j : Nat} {c : Array Value} {e : TypeId} {fr : Nat × Nat} (h : w.heap[b]? = some (.cells c e fr)) : w.cell? ⟨b, j, none⟩ = c[j]? := by simp [World.cell?, h]
theorem add_mid (b o j : Nat) : (⟨b, o, none⟩ : Addr).add j = ⟨b, o + j, none⟩ := by unfold Addr.add; split <;> simp_all

theorem run_load1 {P : Program} {t n : Nat} (ht : tf P t = some (n, false)) {w : World} {b o : Nat} {v : Value} (hc : w.cell? ⟨b, o, none⟩ = some v) :
    (Instr.loadAt t (.pointer (some ⟨b, o, none⟩))).run P w = .ok v w := by
  simp [Instr.loadAt, Instr.sureAddr, loadVar, run_isAgg ht, hc]
theorem run_loadN {P : Program} {t n : Nat} (ht : tf P t = some (n, true)) {w : World} {b o : Nat} {vs : List Value} (hn : vs.length = n) (hc : ∀ j v, vs[j]? = some v → w.cell? ⟨b, o + j, none⟩ = some v) :
    (Instr.loadAt t (.pointer (some ⟨b, o, none⟩))).run P w = .ok (.agg vs.toArray) w := by
  obtain ⟨i, d, hi, hs, hu, hd⟩ := tf_spec ht
  exact run_loadAt_mid w b o t vs d (fun j v hv => hc j v hv) hu hd (by rw [hi, hn]; simp [hs])

/-- A variable of one cell, in a box. -/
theorem Does.load_box1 {P : Program} {C : Ctx P} {o : Oper} {s : Sto} {ρA : Operand → AV} (t n : Nat) (p : Operand) (ho : o.op = .load t p) (ht : tf P t = some (n, false))
    (k u off e : Nat) (cs : List AV) (hp : ρA p = .pt k u off) (hk : s k = ⟨u, .box e cs⟩) (x : AV) (hx : cs[off]? = some x) : Does C o s ρA x s :=
  Does.same fun ρ w h bk H hr => by
    have r := hr p (by simp [ho, Op.operands])
    rw [hp] at r
    obtain ⟨b, hb, hv⟩ := r.pt_inv (by rw [hk])
    obtain ⟨b', c, hb', _, hw, hs, hc⟩ := H.box (k := k) (by rw [hk])
    rw [hb] at hb'
    cases hb'
    have hlt : off < c.size := by rw [hs]; exact (List.getElem?_eq_some_iff.1 hx).1
    have h1 := run_load1 (P := P) ht (w := w) (b := b) (o := off) (v := c[off]) (by rw [cell_mid hw]; simp [hlt])
    have h2 := hc off x hx
    refine ⟨c[off], by simp [execOp, ho, hv, h1], ?_⟩
    simpa [hlt] using h2.2

/-- A struct (or an array), in a box. -/
theorem Does.load_boxN {P : Program} {C : Ctx P} {o : Oper} {s : Sto} {ρA : Operand → AV} (t n : Nat) (p : Operand) (ho : o.op = .load t p) (ht : tf P t = some (n, true))
    (k u off e : Nat) (cs : List AV) (hp : ρA p = .pt k u off) (hk : s k = ⟨u, .box e cs⟩) (hl : off + n ≤ cs.length) : Does C o s ρA (.ag ((cs.drop off).take n)) s :=
  Does.same fun ρ w h bk H hr => by
    have r := hr p (by simp [ho, Op.operands])
    rw [hp] at r
    obtain ⟨b, hb, hv⟩ := r.pt_inv (by rw [hk])
    obtain ⟨b', c, hb', _, hw, hs, hc⟩ := H.box (k := k) (by rw [hk])
    rw [hb] at hb'
    cases hb'
    have hlen : ((c.toList.drop off).take n).length = n := by simp; omega
    have h1 := run_loadN (P := P) ht (w := w) (b := b) (o := off) (vs := (c.toList.drop off).take n) hlen (fun j v hj => by
      rw [cell_mid hw]
      have hjn : j < n := by rw [← hlen]; exact (List.getElem?_eq_some_iff.1 hj).1
      rw [List.getElem?_take_of_lt hjn, List.getElem?_drop] at hj
      simpa using hj)
    refine ⟨.agg ((c.toList.drop off).take n).toArray, by simp only [execOp, ho, hv, Sem.run_bind, h1, Result.andThen_ok, Sem.run_pure], ?_⟩
    refine .ag _ _ (by simp; omega) (fun i x hx => ?_)
    have hin : i < n := by have := (List.getElem?_eq_some_iff.1 hx).1; simp at this; omega
    rw [List.getElem?_take_of_lt hin, List.getElem?_drop] at hx
    have h2 := (hc (off + i) x hx).2
    have e1 : ((c.toList.drop off).take n).toArray.getD i undef = c.getD (off + i) undef := by
      simp only [Array.getD_eq_getD_getElem?, List.getElem?_toArray]
      rw [List.getElem?_take_of_lt hin, List.getElem?_drop]
      simp
    rw [e1]
    exact h2

theorem Rel.pe_inv {P : Program} {C : Ctx P} {s : Sto} {w : World} {h : Nat → Value} {bk : Nat → Option Nat} {v : Value} {cs : List FV} (r : Rel C s w h bk v (.pe cs)) :
    ∃ (b o : Nat) (f : Nat → Value), v = .pointer (some ⟨b, o, none⟩) ∧ (cs ≠ [] → ¬ Own bk b) ∧ (∀ j, j < cs.length → w.cell? ⟨b, o + j, none⟩ = some (f j) ∧ (f j).oneCell' = true) ∧ ∀ j x, cs[j]? = some x → RelF w (C.Mut bk) (f j) x := by
  cases r with
  | pe b o cs f hL hcell hrel => exact ⟨b, o, f, rfl, hL, hcell, hrel⟩

theorem Does.load_pe1 {P : Program} {C : Ctx P} {o : Oper} {s : Sto} {ρA : Operand → AV} (t n : Nat) (p : Operand) (ho : o.op = .load t p) (ht : tf P t = some (n, false))
    (cs : List FV) (hp : ρA p = .pe cs) (x : FV) (hx : cs[0]? = some x) : Does C o s ρA (.fz x) s :=
  Does.same fun ρ w h bk H hr => by
    have r := hr p (by simp [ho, Op.operands])
    rw [hp] at r
    obtain ⟨b, off, f, hv, _, hc, hrel⟩ := r.pe_inv
    have h1 := run_load1 (P := P) ht (w := w) (b := b) (o := off) (v := f 0) (hc 0 (List.getElem?_eq_some_iff.1 hx).1).1
    exact ⟨f 0, by simp [execOp, ho, hv, h1], .fz (hrel 0 x hx)⟩

theorem Does.load_peN {P : Program} {C : Ctx P} {o : Oper} {s : Sto} {ρA : Operand → AV} (t n : Nat) (p : Operand) (ho : o.op = .load t p) (ht : tf P t = some (n, true))
    (cs : List FV) (hp : ρA p = .pe cs) (hl : n ≤ cs.length) : Does C o s ρA (.ag ((cs.take n).map .fz)) s :=
  Does.same fun ρ w h bk H hr => by
    have r := hr p (by simp [ho, Op.operands])
    rw [hp] at r
    obtain ⟨b, off, f, hv, _, hc, hrel⟩ := r.pe_inv
    have h1 := run_loadN (P := P) ht (w := w) (b := b) (o := off) (vs := (List.range n).map f) (by simp) (fun j v hj => by
      have hjn : j < n := by have := (List.getElem?_eq_some_iff.1 hj).1; simpa using this
      rw [List.getElem?_map, List.getElem?_range hjn] at hj
      simp at hj
      rw [(hc j (by omega)).1, hj])
    refine ⟨.agg ((List.range n).map f).toArray, by simp only [execOp, ho, hv, Sem.run_bind, h1, Result.andThen_ok, Sem.run_pure], ?_⟩
    refine .ag _ _ (by simp; omega) (fun i x hx => ?_)
    rw [List.getElem?_map] at hx
    obtain ⟨y, hy, rfl⟩ := Option.map_eq_some_iff.1 hx
    have hin : i < n := by have := (List.getElem?_eq_some_iff.1 hy).1; simp at this; omega
    rw [List.getElem?_take_of_lt hin] at hy
    have e1 : ((List.range n).map f).toArray.getD i undef = f i := by simp [Array.getD_eq_getD_getElem?, hin]
    rw [e1]
    exact .fz (hrel i y hy)

end Go.SL
