/- S-logic, part 2: one object changes; one is made; temporaries. -/
import Derived.Test.YtgihpfidacjogaaDoorSlA
set_option linter.unusedVariables false
set_option linter.unusedSimpArgs false
namespace Go.SL
open Go.RowKit

theorem ownsRow_congr {w w' : World} {B : Nat} {e : TypeId} {sz : Nat} {v : Value} {n : Nat} {xs : List Value} (h : w.ownsRow B e sz v n xs)
    (hw : ∀ g, v.ownBlock = some g → w'.heap[g]? = w.heap[g]?) : w'.ownsRow B e sz v n xs := by
  obtain ⟨h1, h2⟩ := h
  refine ⟨h1, ?_⟩
  rcases h2 with h2 | ⟨g, cap, cur, rfl, hb, hh, r⟩
  · exact .inl h2
  · exact .inr ⟨g, cap, cur, rfl, hb, by rw [hw g rfl]; exact hh, r⟩

def upd {α : Type} (f : Nat → α) (k : Nat) (x : α) : Nat → α := fun j => if j = k then x else f j
theorem upd_same {α : Type} (f : Nat → α) (k : Nat) (x : α) : upd f k x k = x := by simp [upd]
theorem upd_ne {α : Type} (f : Nat → α) {k j : Nat} (x : α) (h : j ≠ k) : upd f k x j = f j := by simp [upd, h]

theorem HeapOk.turn {P : Program} {C : Ctx P} {s : Sto} {w w' : World} {h : Nat → Value} {bk : Nat → Option Nat} (H : HeapOk C s w h bk) (k : Nat) (e : Ent) (h1 : Value) (b1 : Option Nat)
    (hbel : Below 0 w w') (hblk : ∀ b, b < w.heap.size → bk k ≠ some b → w'.heap[b]? = w.heap[b]?)
    (hst : (s k).v < e.v ∨ ((s k).v = e.v ∧ h1 = h k ∧ b1 = bk k))
    (hb1 : ∀ b, b1 = some b → bk k = some b ∨ (w.heap.size ≤ b ∧ b < w'.heap.size))
    (hobj : (∀ v x, Rel C s w h bk v x → Rel C (s.set k e) w' (upd h k h1) (upd bk k b1) v x) → (∀ v x, RelF w (C.Mut bk) v x → RelF w' (C.Mut (upd bk k b1)) v x) →
      ObjOk w' 0 (C.Mut (upd bk k b1)) (Own (upd bk k b1)) (s.set k e) (upd h k h1) (upd bk k b1) k) :
    HeapOk C (s.set k e) w' (upd h k h1) (upd bk k b1) ∧ (∀ v x, Rel C s w h bk v x → Rel C (s.set k e) w' (upd h k h1) (upd bk k b1) v x) := by
  have hown : ∀ b, b < w.heap.size → ¬ Own bk b → ¬ Own (upd bk k b1) b := by
    rintro b hb hn ⟨j, hj⟩
    by_cases e1 : j = k
    · subst e1
      rw [upd_same] at hj
      rcases hb1 b hj with h2 | h2
      · exact hn ⟨j, h2⟩
      · omega
    · rw [upd_ne _ _ e1] at hj
      exact hn ⟨j, hj⟩
  have hmut : ∀ b, b < w.heap.size → ¬ C.Mut bk b → ¬ C.Mut (upd bk k b1) b := by
    rintro b hb hn (h2 | h2)
    · exact hn (.inl h2)
    · exact hown b hb (fun h3 => hn (.inr h3)) h2
  have hsame : ∀ b, b < w.heap.size → ¬ Own bk b → w'.heap[b]? = w.heap[b]? := fun b hb hn => hblk b hb (fun h2 => hn ⟨k, h2⟩)
  have hsameM : ∀ b, b < w.heap.size → ¬ C.Mut bk b → w'.heap[b]? = w.heap[b]? := fun b hb hn => hsame b hb (fun h2 => hn (.inr h2))
  have hv : ∀ j, (s j).v ≤ (s.set k e j).v := by
    intro j
    by_cases e1 : j = k
    · subst e1; rw [Sto.set_same]; rcases hst with h2 | ⟨h2, _⟩ <;> omega
    · rw [Sto.set_ne _ _ e1]; exact Nat.le_refl _
  have hvs : ∀ j, (s.set k e j).v = (s j).v → upd h k h1 j = h j ∧ upd bk k b1 j = bk j := by
    intro j hj
    by_cases e1 : j = k
    · subst e1
      rw [Sto.set_same] at hj
      rw [upd_same, upd_same]
      rcases hst with h2 | ⟨_, h2, h3⟩
      · omega
      · exact ⟨h2, h3⟩
    · rw [upd_ne _ _ e1, upd_ne _ _ e1]; exact ⟨rfl, rfl⟩
  have hrel : ∀ v x, Rel C s w h bk v x → Rel C (s.set k e) w' (upd h k h1) (upd bk k b1) v x := fun v x r =>
    RelA.keep r hsame (fun b hb => .inr hb) hmut hown hv hvs
  have hrelF : ∀ v x, RelF w (C.Mut bk) v x → RelF w' (C.Mut (upd bk k b1)) v x := fun v x r => r.keep hsameM hmut
  refine ⟨⟨H.below.trans hbel, ?_, ?_, fun j => ⟨Nat.le_trans (H.mono j).1 (hv j), fun e => ?_⟩, ?_, ?_⟩, hrel⟩
  · intro b hb hA
    have h0 := H.below.size
    rw [hblk b (by omega) (fun h2 => (H.lt k b h2).1.elim (fun h3 => absurd hb (Nat.not_lt.2 h3)) hA)]
    exact H.old b hb hA
  · intro j
    by_cases e1 : j = k
    · subst e1; exact hobj hrel hrelF
    · have ho := H.obj j
      have hne : ∀ g, bk j = some g → w'.heap[g]? = w.heap[g]? := fun g hg =>
        hblk g (H.lt j g hg).2 (fun h2 => e1 (H.apart j k g hg h2))
      unfold ObjOk at ho ⊢
      rw [Sto.set_ne _ _ e1, upd_ne _ _ e1, upd_ne _ _ e1]
      cases hob : (s j).o with
      | no => rw [hob] at ho; exact ho
      | row e sz es =>
        rw [hob] at ho
        obtain ⟨xs, h2, h3, h4, h5, h6⟩ := ho
        refine ⟨xs, ownsRow_congr h2 (fun g hg => hne g (by rw [h4]; exact hg)), h3, h4, h5, fun i m x hx => ?_⟩
        obtain ⟨v, h7, h8, h9⟩ := h6 i m x hx
        exact ⟨v, h7, h8, hrelF v x h9⟩
      | rowA e sz es =>
        rw [hob] at ho
        obtain ⟨xs, h2, h3, h4, h5, h6⟩ := ho
        refine ⟨xs, ownsRow_congr h2 (fun g hg => hne g (by rw [h4]; exact hg)), h3, h4, h5, fun i m x hx => ?_⟩
        obtain ⟨v, h7, h8, h9⟩ := h6 i m x hx
        exact ⟨v, h7, h8, hrel v x h9⟩
      | gn φ =>
        rw [hob] at ho
        obtain ⟨b, o, h2, h3, h4, h5⟩ := ho
        exact ⟨b, o, h2, h3, by rw [hne b h2]; exact h4, h5⟩
      | box e cs =>
        rw [hob] at ho
        obtain ⟨b, c, h2, h3, h4, h5, h6⟩ := ho
        exact ⟨b, c, h2, h3, by rw [hne b h2]; exact h4, h5, fun i x hx => ⟨(h6 i x hx).1, hrel _ _ (h6 i x hx).2⟩⟩
  · have h1 := (H.mono j).1
    have h2 := hv j
    have h3 : (s j).v = (C.s0 j).v := by omega
    have h4 := hvs j (by omega)
    have h5 := (H.mono j).2 h3
    exact ⟨h4.1.trans h5.1, h4.2.trans h5.2⟩
  · intro j j' b hj hj'
    by_cases e1 : j = k
    · by_cases e2 : j' = k
      · omega
      · subst e1
        rw [upd_same] at hj
        rw [upd_ne _ _ e2] at hj'
        rcases hb1 b hj with h2 | h2
        · exact H.apart _ _ b h2 hj'
        · have := (H.lt j' b hj').2; omega
    · by_cases e2 : j' = k
      · subst e2
        rw [upd_same] at hj'
        rw [upd_ne _ _ e1] at hj
        rcases hb1 b hj' with h2 | h2
        · exact H.apart _ _ b hj h2
        · have := (H.lt j b hj).2; omega
      · rw [upd_ne _ _ e1] at hj
        rw [upd_ne _ _ e2] at hj'
        exact H.apart _ _ b hj hj'
  · intro j b hj
    have hs := hbel.size
    by_cases e1 : j = k
    · subst e1
      rw [upd_same] at hj
      rcases hb1 b hj with h2 | h2
      · have := H.lt j b h2; exact ⟨this.1, by omega⟩
      · have := H.below.size; exact ⟨.inl (by omega), by omega⟩
    · rw [upd_ne _ _ e1] at hj
      have := H.lt j b hj
      exact ⟨this.1, by omega⟩

/-- The world alone has grown: what is there stays. -/
theorem HeapOk.grown {P : Program} {C : Ctx P} {s : Sto} {w w' : World} {h : Nat → Value} {bk : Nat → Option Nat} (H : HeapOk C s w h bk) (hbel : Below w.heap.size w w') :
    HeapOk C s w' h bk ∧ (∀ v x, Rel C s w h bk v x → Rel C s w' h bk v x) := by
  have hrel : ∀ v x, Rel C s w h bk v x → Rel C s w' h bk v x := fun v x r =>
    RelA.keep r (fun b hb _ => hbel.block b hb) (fun b hb => .inr hb) (fun _ _ h => h) (fun _ _ h => h) (fun _ => Nat.le_refl _) (fun _ _ => ⟨rfl, rfl⟩)
  have hs := hbel.size
  have h0 := H.below.size
  refine ⟨⟨H.below.trans ⟨hbel.os, hbel.tape, hbel.output, hbel.size, fun i hi => hbel.block i (by omega)⟩, fun b hb hA => (hbel.block b (by omega)).trans (H.old b hb hA), ?_, H.mono, H.apart, fun k b hb => ⟨(H.lt k b hb).1, by have := (H.lt k b hb).2; omega⟩⟩, hrel⟩
  intro j
  have ho := H.obj j
  unfold ObjOk at ho ⊢
  cases hob : (s j).o with
  | no => rw [hob] at ho; exact ho
  | row e sz es =>
    rw [hob] at ho
    obtain ⟨xs, h2, h3, h4, h5, h6⟩ := ho
    refine ⟨xs, ownsRow_congr h2 (fun g hg => hbel.block g (H.lt j g (by rw [h4]; exact hg)).2), h3, h4, h5, fun i m x hx => ?_⟩
    obtain ⟨v, h7, h8, h9⟩ := h6 i m x hx
    exact ⟨v, h7, h8, h9.keep (fun b hb _ => hbel.block b hb) (fun _ _ h => h)⟩
  | rowA e sz es =>
    rw [hob] at ho
    obtain ⟨xs, h2, h3, h4, h5, h6⟩ := ho
    refine ⟨xs, ownsRow_congr h2 (fun g hg => hbel.block g (H.lt j g (by rw [h4]; exact hg)).2), h3, h4, h5, fun i m x hx => ?_⟩
    obtain ⟨v, h7, h8, h9⟩ := h6 i m x hx
    exact ⟨v, h7, h8, hrel v x h9⟩
  | gn φ =>
    rw [hob] at ho
    obtain ⟨b, o, h2, h3, h4, h5⟩ := ho
    exact ⟨b, o, h2, h3, by rw [hbel.block b (H.lt j b h2).2]; exact h4, h5⟩
  | box e cs =>
    rw [hob] at ho
    obtain ⟨b, c, h2, h3, h4, h5, h6⟩ := ho
    exact ⟨b, c, h2, h3, by rw [hbel.block b (H.lt j b h2).2]; exact h4, h5, fun i x hx => ⟨(h6 i x hx).1, hrel _ _ (h6 i x hx).2⟩⟩

theorem put_getD {a : Act} {d n : Nat} {v : Value} (hn : n < a.tmps.size) : (a.put (some d) v).tmps.getD n undef = if n = d then v else a.tmps.getD n undef := by
  simp only [Act.put]
  by_cases e : n = d
  · subst e; simp [hn]
  · rw [if_neg e]
    simp [Array.getElem?_setIfInBounds_ne (Ne.symm e)]

/-- A temporary is set; the rest as told. -/
theorem Sim.put {P : Program} {C : Ctx P} {N : Nat} {σ : St} {a : Act} {w' : World} {h : Nat → Value} {bk : Nat → Option Nat} {s' : Sto} {d : Option Nat} {v : Value} {x : AV}
    (H : HeapOk C s' w' h bk) (hdf : a.defers = []) (hN : a.tmps.size = N) (ht : ∀ n, n < N → Rel C s' w' h bk (a.tmps.getD n undef) (lookT σ.t n))
    (hx : d ≠ none → Rel C s' w' h bk v x) : Sim C N (St.put ⟨σ.t, s'⟩ d x) (a.put d v) w' := by
  cases d with
  | none => exact ⟨h, bk, H, hdf, hN, ht⟩
  | some j =>
    refine ⟨h, bk, H, hdf, by simp [Act.put, hN], fun n hn => ?_⟩
    rw [put_getD (by omega)]
    simp only [St.put, lookT_cons]
    split
    · exact hx (by simp)
    · exact ht n hn

end Go.SL
