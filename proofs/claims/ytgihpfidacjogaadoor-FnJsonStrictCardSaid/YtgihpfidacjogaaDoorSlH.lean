/- S-logic, part 8: rows of the call's own: literals, make, append, stores. -/
import Derived.Test.YtgihpfidacjogaaDoorSlG
import Derived.Laws.OwnMore
set_option linter.unusedVariables false
set_option linter.unusedSimpArgs false
namespace Go.SL
open Go.RowKit

theorem own_slice_ {w : World} {B : Nat} {e : TypeId} {sz : Nat} {v : Value} {n : Nat} {xs : List Value} (h : w.ownsRow B e sz v n xs) : v.oneCell' = true := by
  rcases h.2 with ⟨rfl, _⟩ | ⟨g, cap, cur, rfl, _⟩ <;> rfl

/-- Object k becomes the row at header h1. -/
theorem HeapOk.toRow {P : Program} {C : Ctx P} {s : Sto} {w w' : World} {h : Nat → Value} {bk : Nat → Option Nat} (H : HeapOk C s w h bk) (k e sz : Nat) (es : List (List FV)) (h1 : Value) (xs : List Value)
    (hbel : Below 0 w w') (hblk : ∀ b, b < w.heap.size → bk k ≠ some b → w'.heap[b]? = w.heap[b]?)
    (hb1 : ∀ b, h1.ownBlock = some b → bk k = some b ∨ w.heap.size ≤ b)
    (hrow : w'.ownsRow 0 e sz h1 es.length xs) (hsz : 0 < sz) (hes : ∀ x ∈ es, x.length = sz)
    (hx : ∀ i j x, es[i]?.bind (·[j]?) = some x → ∃ v, xs[i * sz + j]? = some v ∧ v.oneCell' = true ∧ RelF w (C.Mut bk) v x) :
    ∃ h' bk', HeapOk C (s.set k ⟨(s k).v + 1, .row e sz es⟩) w' h' bk' ∧ (∀ u y, Rel C s w h bk u y → Rel C (s.set k ⟨(s k).v + 1, .row e sz es⟩) w' h' bk' u y) ∧
      Rel C (s.set k ⟨(s k).v + 1, .row e sz es⟩) w' h' bk' h1 (.ow k ((s k).v + 1)) := by
  have hlt : ∀ b, h1.ownBlock = some b → b < w'.heap.size := by
    intro b hb
    rcases hrow.2 with ⟨rfl, _⟩ | ⟨g, cap, cur, rfl, _, hg, _⟩
    · simp [Value.ownBlock] at hb
    · have : g = b := by simpa [Value.ownBlock] using hb
      subst this
      exact (Array.getElem?_eq_some_iff.1 hg).1
  have ht := H.turn (w' := w') k ⟨(s k).v + 1, .row e sz es⟩ h1 h1.ownBlock hbel hblk (.inl (by simp))
    (fun b hb => (hb1 b hb).imp id (fun h2 => ⟨h2, hlt b hb⟩))
    (fun _ hrelF => by
      unfold ObjOk
      rw [Sto.set_same, upd_same, upd_same]
      refine ⟨xs, hrow, hsz, rfl, hes, fun i j x hx' => ?_⟩
      obtain ⟨v, a1, a2, a3⟩ := hx i j x hx'
      exact ⟨v, a1, a2, hrelF v x a3⟩)
  exact ⟨_, _, ht.1, ht.2, .ow k _ (own_slice_ hrow) (by rw [Sto.set_same]; exact Nat.le_refl _) (fun _ => by rw [upd_same])⟩

/-- A slice as the source of an append. -/
def Src (w : World) (M : Nat → Prop) (v : Value) (sz : Nat) (ys : List (List FV)) : Prop :=
  (v = .slice none 0 0 ∧ ys = []) ∨ ∃ (a : Addr) (c : Nat) (news : List Value), v = .slice (some a) ys.length c ∧ news.length = ys.length * sz ∧ (∀ j u, news[j]? = some u → w.cell? (a.add j) = some u) ∧ (∀ u ∈ news, u.oneCell' = true) ∧
    (∀ x ∈ ys, x.length = sz) ∧ ∀ i j x, ys[i]?.bind (·[j]?) = some x → ∃ u, news[i * sz + j]? = some u ∧ RelF w M u x
def SrcA (s : Sto) (x : AV) (sz : Nat) (ys : List (List FV)) : Prop :=
  x = .fz (.ls sz ys) ∨ x = .br sz ys ∨ (∃ k u e, x = .ow k u ∧ s k = ⟨u, .row e sz ys⟩) ∨ (x = .fz (.sc (.slice none 0 0)) ∧ ys = [])

theorem Src.of_br {w : World} {M : Nat → Prop} {b o c sz : Nat} {ys : List (List FV)} {f : Nat → Nat → Value} (hsz : 0 < sz) (hl : ∀ x ∈ ys, x.length = sz)
    (hcell : ∀ i j, i < ys.length → j < sz → w.cell? ⟨b, o + (i * sz + j), none⟩ = some (f i j) ∧ (f i j).oneCell' = true) (hrel : ∀ i j x, ys[i]?.bind (·[j]?) = some x → RelF w M (f i j) x) :
    Src w M (.slice (some ⟨b, o, none⟩) ys.length c) sz ys := by
  have hdm : ∀ i j, j < sz → (i * sz + j) / sz = i ∧ (i * sz + j) % sz = j := fun i j hj => by
    rw [Nat.add_comm, Nat.mul_comm]
    exact ⟨by rw [Nat.add_mul_div_left _ _ hsz, Nat.div_eq_of_lt hj, Nat.zero_add], by rw [Nat.add_mul_mod_self_left, Nat.mod_eq_of_lt hj]⟩
  have hin : ∀ m, m < ys.length * sz → m / sz < ys.length ∧ m % sz < sz ∧ m = m / sz * sz + m % sz := fun m hm =>
    ⟨by rw [Nat.div_lt_iff_lt_mul hsz]; exact hm, Nat.mod_lt _ hsz, by rw [Nat.mul_comm]; exact (Nat.div_add_mod m sz).symm⟩
  refine Or.inr ⟨⟨b, o, none⟩, c, (List.range (ys.length * sz)).map fun m => f (m / sz) (m % sz), rfl, by simp, fun j u hj => ?_, fun u hu => ?_, hl, fun i j x hx => ?_⟩
  · have hjl : j < ys.length * sz := by have := (List.getElem?_eq_some_iff.1 hj).1; simpa using this
    obtain ⟨h1, h2, h3⟩ := hin j hjl
    rw [List.getElem?_map, List.getElem?_range hjl] at hj
    simp at hj
    have := (hcell _ _ h1 h2).1
    rw [← h3, hj] at this
    rw [add_mid]
    exact this
  · obtain ⟨m, hm, rfl⟩ := List.mem_map.1 hu
    obtain ⟨h1, h2, _⟩ := hin m (List.mem_range.1 hm)
    exact (hcell _ _ h1 h2).2
  · obtain ⟨y, hy, hyj⟩ := Option.bind_eq_some_iff.1 hx
    have hi : i < ys.length := (List.getElem?_eq_some_iff.1 hy).1
    have hj : j < sz := by
      have h1 := (List.getElem?_eq_some_iff.1 hyj).1
      rw [hl y (List.mem_of_getElem? hy)] at h1
      exact h1
    have hlt : i * sz + j < ys.length * sz := by
      have : (i + 1) * sz ≤ ys.length * sz := Nat.mul_le_mul_right _ hi
      rw [Nat.add_mul] at this
      omega
    refine ⟨f i j, ?_, hrel i j x hx⟩
    rw [List.getElem?_map, List.getElem?_range hlt]
    simp [hdm i j hj]

theorem br_of_ls {w : World} {M L : Nat → Prop} {s : Sto} {h : Nat → Value} {bk : Nat → Option Nat} {v : Value} {sz : Nat} {es : List (List FV)} (r : RelF w M v (.ls sz es)) (hL : ∀ b, L b → M b) : RelA w M L s h bk v (.br sz es) := by
  cases r with
  | emp A c sz hA => exact .brn A c sz hA
  | ls b o c sz n es f hn hne hsz hc hm hM hl hcell hrel => exact .br b o c sz n es f hn hne hsz hc hm (fun h => hM (hL b h)) hl hcell hrel

def Rel0 (w : World) (M : Nat → Prop) (v : Value) (x : AV) : Prop := RelA w M (fun _ => False) Sto.empty (fun _ => undef) (fun _ => none) v x
theorem br_of_row {P : Program} {C : Ctx P} {s : Sto} {w : World} {h : Nat → Value} {bk : Nat → Option Nat} (H : HeapOk C s w h bk) {k u e sz : Nat} {es : List (List FV)} (hk : s k = ⟨u, .row e sz es⟩) :
    Rel0 w (C.Mut bk) (h k) (.br sz es) := by
  obtain ⟨xs, ⟨hl, hown⟩, hsz, hbk, hlen, hx⟩ := H.row (k := k) (e := e) (sz := sz) (es := es) (by rw [hk])
  rcases hown with ⟨hv, hn⟩ | ⟨g, cap, cur, hv, hB, hg, hnc, hcm, hcs, htake⟩
  · have : es = [] := List.eq_nil_of_length_eq_zero hn
    subst this
    rw [hv]
    exact .brn none 0 sz (fun _ => rfl)
  · rw [hv]
    by_cases hne : es = []
    · subst hne; exact .brn _ cap sz (fun h => by cases h)
    · refine .br g 0 cap sz es.length es (fun i j => xs.getD (i * sz + j) undef) rfl hne hsz hnc hcm (fun h => h.elim) hlen (fun i j hi hj => ⟨?_, ?_⟩) (fun i j x hx' => ?_)
      · have hin : i * sz + j < es.length * sz := by
          have : (i + 1) * sz ≤ es.length * sz := Nat.mul_le_mul_right _ hi
          rw [Nat.add_mul] at this
          omega
        rw [cell_mid hg]
        have h1 : (cur.toList.take (es.length * sz))[i * sz + j]? = xs[i * sz + j]? := by rw [htake]
        rw [List.getElem?_take_of_lt hin] at h1
        have h2 : i * sz + j < xs.length := by omega
        simp only [Nat.zero_add]
        rw [List.getElem?_eq_getElem h2] at h1
        rw [List.getD_eq_getElem?_getD, List.getElem?_eq_getElem h2]
        simpa using h1
      · have hle : (es[i]'hi).length = sz := hlen _ (List.getElem_mem hi)
        obtain ⟨v, hv1, hv0, _⟩ := hx i j ((es[i]'hi)[j]'(by omega)) (by rw [List.getElem?_eq_getElem hi]; simp)
        rw [List.getD_eq_getElem?_getD, hv1]
        exact hv0
      · obtain ⟨v, hv1, _, hv2⟩ := hx i j x hx'
        rw [List.getD_eq_getElem?_getD, hv1]
        exact hv2

theorem SrcA.spec {P : Program} {C : Ctx P} {s : Sto} {w : World} {h : Nat → Value} {bk : Nat → Option Nat} (H : HeapOk C s w h bk) {v : Value} {x : AV} {sz : Nat} {ys : List (List FV)} (r : Rel C s w h bk v x) (hx : SrcA s x sz ys) : Src w (C.Mut bk) v sz ys := by
  have empty : ∀ A c, (A = none → c = 0) → Src w (C.Mut bk) (.slice A 0 c) sz [] := by
    intro A c hA
    cases A with
    | none => rw [hA rfl]; exact Or.inl ⟨rfl, rfl⟩
    | some a => exact Or.inr ⟨a, c, [], rfl, by simp, fun j u hj => by simp at hj, fun u hu => by simp at hu, fun x hx => by simp at hx, fun i j x hx => by simp at hx⟩
  have viaBr : ∀ {v}, Rel0 w (C.Mut bk) v (.br sz ys) → Src w (C.Mut bk) v sz ys := by
    intro v r0
    cases r0 with
    | brn A c _ hA => exact empty A c hA
    | br b o c sz n es f hn hne hsz hc hm hL hl hcell hrel => subst hn; exact Src.of_br hsz hl hcell hrel
  rcases hx with rfl | rfl | ⟨k, u, e, rfl, hk⟩ | ⟨rfl, rfl⟩
  · cases r with
    | fz hx => exact viaBr (br_of_ls hx (fun _ h => h.elim))
  · refine viaBr ?_
    cases r with
    | brn A c sz hA => exact .brn A c sz hA
    | br b o c sz n es f hn hne hsz hc hm hL hl hcell hrel => exact .br b o c sz n _ f hn hne hsz hc hm (fun h => False.elim h) hl hcell hrel
  · rw [r.ow_inv (by rw [hk])]; exact viaBr (br_of_row H hk)
  · rw [r.sc]; exact Or.inl ⟨rfl, rfl⟩

/-- Zero value, cells and bytes of an element type. -/
def zb (P : Program) (e : TypeId) : Option (List Value × Nat × Nat) := (P.info? e).bind fun i => i.zero.map fun z => (z.cells.toList, i.size, i.bytes)
theorem zb_spec {P : Program} {e sz by_ : Nat} {zs : List Value} (h : zb P e = some (zs, sz, by_)) : ∃ i z, P.info? e = some i ∧ i.zero = some z ∧ z.cells.toList = zs ∧ i.size = sz ∧ i.bytes = by_ := by
  unfold zb at h
  cases hi : P.info? e with
  | none => rw [hi] at h; simp at h
  | some i =>
    rw [hi] at h
    cases hz : i.zero with
    | none => rw [Option.bind_some, hz] at h; simp at h
    | some z =>
      rw [Option.bind_some, hz] at h
      simp at h
      obtain ⟨rfl, rfl, rfl⟩ := h
      exact ⟨i, z, rfl, hz, rfl, rfl, rfl⟩

theorem bind_append {es ys : List (List FV)} {i j : Nat} {x : FV} (h : (es ++ ys)[i]?.bind (·[j]?) = some x) :
    (i < es.length ∧ es[i]?.bind (·[j]?) = some x) ∨ (es.length ≤ i ∧ ys[i - es.length]?.bind (·[j]?) = some x) := by
  rcases Nat.lt_or_ge i es.length with hi | hi
  · rw [List.getElem?_append_left hi] at h; exact .inl ⟨hi, h⟩
  · rw [List.getElem?_append_right hi] at h; exact .inr ⟨hi, h⟩

/-- append(x, ys...): a row of one's own, at what has been told of it. -/
theorem HeapOk.append {P : Program} {C : Ctx P} {s : Sto} {w : World} {h : Nat → Value} {bk : Nat → Option Nat} (H : HeapOk C s w h bk) {t e sz by_ : Nat} {zs : List Value} (ht : P.underlying t = some (.slice e)) (hz : zb P e = some (zs, sz, by_)) (hzl : zs.length = sz) (hsz : 0 < sz) (hby : 0 < by_)
    (k : Nat) (hv : Value) (es ys : List (List FV)) (xs : List Value) (hown : w.ownsRow 0 e sz hv es.length xs) (hbk : ∀ b, hv.ownBlock = some b → bk k = some b) (hes : ∀ x ∈ es, x.length = sz)
    (hxs : ∀ i j x, es[i]?.bind (·[j]?) = some x → ∃ v, xs[i * sz + j]? = some v ∧ v.oneCell' = true ∧ RelF w (C.Mut bk) v x)
    {src : Value} (hsrc : Src w (C.Mut bk) src sz ys) (hlen : (es.length + ys.length) * by_ ≤ 140737488355328) (ty : TypeId) :
    ∃ h1 w' h' bk', (Builtin.append_ #[t, t] ty #[hv, src]).run P w = .ok h1 w' ∧ HeapOk C (s.set k ⟨(s k).v + 1, .row e sz (es ++ ys)⟩) w' h' bk' ∧
      (∀ u y, Rel C s w h bk u y → Rel C (s.set k ⟨(s k).v + 1, .row e sz (es ++ ys)⟩) w' h' bk' u y) ∧ Rel C (s.set k ⟨(s k).v + 1, .row e sz (es ++ ys)⟩) w' h' bk' h1 (.ow k ((s k).v + 1)) := by
  obtain ⟨i, z, hi, hz0, hzc, his, hib⟩ := zb_spec hz
  have hB := H.below.size
  have hle : es.length + ys.length ≤ 140737488355328 := Nat.le_trans (Nat.le_mul_of_pos_right _ hby) hlen
  rcases hsrc with ⟨rfl, rfl⟩ | ⟨a, c, news, rfl, hnl, hnews, hone, hyl, hyr⟩
  · have hr := run_append_owned_none (P := P) w 0 t ty e i sz ht hi hv es.length xs hown
    rw [List.append_nil]
    obtain ⟨h', bk', a1, a2, a3⟩ := H.toRow (w' := w) k e sz es hv xs (Below.refl _ _) (fun _ _ _ => rfl) (fun b hb => .inl (hbk b hb)) hown hsz hes hxs
    exact ⟨hv, w, h', bk', hr, a1, a2, a3⟩
  · obtain ⟨h1, w', hr, hown', hg, _, hat⟩ := run_append_own_at (P := P) w 0 t ty e i z sz by_ ht hi hz0 his hib (by rw [← hzl, ← hzc]; simp) hsz hv es.length xs hown a ys.length c news hnl hnews hone
      (by simp only [maxLen]; omega) hlen (Nat.zero_le _)
    have hown2 : w'.ownsRow 0 e sz h1 (es ++ ys).length (xs ++ news) := by rw [List.length_append]; exact hown'
    have hxl : xs.length = es.length * sz := hown.1
    obtain ⟨h', bk', a1, a2, a3⟩ := H.toRow (w' := w') k e sz (es ++ ys) h1 (xs ++ news)
      ⟨hg.os, hg.tape, hg.output, hg.size, fun b hb => absurd hb (Nat.not_lt_zero b)⟩
      (fun b hb hne => hg.block b hb (fun hb' => hne (hbk b hb'.symm)))
      (fun b hb => by
        rcases hat with h2 | h2
        · exact .inl (hbk b (by rw [← h2]; exact hb))
        · rw [h2] at hb; cases hb; exact .inr (Nat.le_refl _))
      hown2 hsz (fun x hx => (List.mem_append.1 hx).elim (hes x) (hyl x))
      (fun i j x hx => by
        rcases bind_append hx with ⟨h2, h3⟩ | ⟨h2, h3⟩
        · obtain ⟨v, b1, b2, b3⟩ := hxs i j x h3
          exact ⟨v, by rw [List.getElem?_append_left (List.getElem?_eq_some_iff.1 b1).1]; exact b1, b2, b3⟩
        · obtain ⟨v, b1, b2⟩ := hyr _ j x h3
          have e1 : i * sz + j = xs.length + ((i - es.length) * sz + j) := by
            rw [hxl, ← Nat.add_assoc, ← Nat.add_mul]
            congr 2
            omega
          exact ⟨v, by rw [e1, List.getElem?_append_right (Nat.le_add_right _ _), Nat.add_sub_cancel_left]; exact b1, hone v (List.mem_of_getElem? b1), b2⟩)
    exact ⟨h1, w', h', bk', hr, a1, a2, a3⟩

theorem Does.append {P : Program} {C : Ctx P} {o : Oper} {s : Sto} {ρA : Operand → AV} (t e sz by_ : Nat) (zs : List Value) (p q : Operand) (ho : o.op = .call { callee := .builtin .append, args := #[p, q], argTypes := #[t, t] })
    (ht : P.underlying t = some (.slice e)) (hz : zb P e = some (zs, sz, by_)) (hzl : zs.length = sz) (hsz : 0 < sz) (hby : 0 < by_)
    (k u : Nat) (es ys : List (List FV)) (hp : ρA p = .ow k u) (hk : s k = ⟨u, .row e sz es⟩) (hq : SrcA s (ρA q) sz ys) (hlen : (es.length + ys.length) * by_ ≤ 140737488355328) :
    Does C o s ρA (.ow k (u + 1)) (s.set k ⟨u + 1, .row e sz (es ++ ys)⟩) :=
  Does.turn fun ρ w h bk H hr => by
    have r := hr p (by simp [ho, Op.operands, Call.operands])
    have rq := hr q (by simp [ho, Op.operands, Call.operands])
    rw [hp] at r
    have hv := r.ow_inv (by rw [hk])
    obtain ⟨xs, hown, _, hbk, hes, hxs⟩ := H.row (k := k) (e := e) (sz := sz) (es := es) (by rw [hk])
    obtain ⟨h1, w', h', bk', a0, a1, a2, a3⟩ := H.append ht hz hzl hsz hby k (h k) es ys xs hown (fun b hb => by rw [hbk]; exact hb) hes hxs (SrcA.spec H rq hq) hlen o.type
    rw [hk] at a1 a2 a3
    exact ⟨h1, w', h', bk', .inl (by simp [execOp, ho, resolve, invoke, builtin, hv, a0]), a1, a2, fun _ => a3⟩

/-- append to nil: a new row. -/
theorem Does.append_nil {P : Program} {C : Ctx P} {o : Oper} {s : Sto} {ρA : Operand → AV} (t e sz by_ d : Nat) (zs : List Value) (p q : Operand) (ho : o.op = .call { callee := .builtin .append, args := #[p, q], argTypes := #[t, t] })
    (ht : P.underlying t = some (.slice e)) (hz : zb P e = some (zs, sz, by_)) (hzl : zs.length = sz) (hsz : 0 < sz) (hby : 0 < by_)
    (ys : List (List FV)) (hp : ρA p = .fz (.sc (.slice none 0 0))) (hq : SrcA s (ρA q) sz ys) (hlen : ys.length * by_ ≤ 140737488355328) :
    Does C o s ρA (.ow d ((s d).v + 1)) (s.set d ⟨(s d).v + 1, .row e sz ys⟩) :=
  Does.turn fun ρ w h bk H hr => by
    have r := hr p (by simp [ho, Op.operands, Call.operands])
    have rq := hr q (by simp [ho, Op.operands, Call.operands])
    rw [hp] at r
    have hv := r.sc
    obtain ⟨h1, w', h', bk', a0, a1, a2, a3⟩ := H.append ht hz hzl hsz hby d (.slice none 0 0) [] ys [] ⟨by simp, .inl ⟨rfl, rfl⟩⟩ (fun b hb => by simp [Value.ownBlock] at hb) (fun x hx => by simp at hx) (fun i j x hx => by simp at hx) (SrcA.spec H rq hq) (by simpa using hlen) o.type
    rw [List.nil_append] at a1 a2 a3
    exact ⟨h1, w', h', bk', .inl (by simp [execOp, ho, resolve, invoke, builtin, hv, a0]), a1, a2, fun _ => a3⟩

end Go.SL
