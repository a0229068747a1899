/- S-logic: what is told of a state, more weakly; a row is given away by the way. -/
import Derived.Test.YtgihpfidacjogaaDoorSlE
set_option linter.unusedVariables false
set_option linter.unusedSimpArgs false
namespace Go.SL
open Go.RowKit

/-- What may be told of x, when only the objects ks stay. -/
inductive Le (s s1 : Sto) (ks : Nat → Bool) : AV → AV → Prop
  | fz {c : FV} : Le s s1 ks (.fz c) (.fz c)
  | br {sz : Nat} {es : List (List FV)} : Le s s1 ks (.br sz es) (.br sz es)
  | pe {cs : List FV} : Le s s1 ks (.pe cs) (.pe cs)
  | fc {sz : Nat} {es : List (List FV)} : Le s s1 ks (.fc sz es) (.fc sz es)
  | er : Le s s1 ks .er .er
  | nil {sz : Nat} : Le s s1 ks (.fz (.sc (.slice none 0 0))) (.fz (.ls sz []))
  | nib {sz : Nat} : Le s s1 ks (.fz (.sc (.slice none 0 0))) (.br sz [])
  | fb {sz : Nat} {es : List (List FV)} : Le s s1 ks (.fz (.ls sz es)) (.br sz es)
  | cz {sz : Nat} {es : List (List FV)} : Le s s1 ks (.fc sz es) (.fz (.ls sz es))
  | row {k u e sz : Nat} {es : List (List FV)} (h : s k = ⟨u, .row e sz es⟩) (hk : ks k = false) : Le s s1 ks (.ow k u) (.fz (.ls sz es))
  | ow {k u u' : Nat} (hk : ks k = true) (h : (s k).v = u) (h1 : (s1 k).v = u') : Le s s1 ks (.ow k u) (.ow k u')
  | op {k u u' n : Nat} (hk : ks k = true) (h : (s k).v = u) (h1 : (s1 k).v = u') : Le s s1 ks (.op k u n) (.op k u' n)
  | pt {k u u' off : Nat} (hk : ks k = true) (h : (s k).v = u) (h1 : (s1 k).v = u') : Le s s1 ks (.pt k u off) (.pt k u' off)
  | mp {k u u' : Nat} (hk : ks k = true) (h : (s k).v = u) (h1 : (s1 k).v = u') : Le s s1 ks (.mp k u) (.mp k u')
  | xx {x : AV} : Le s s1 ks x .xx
inductive LeL (s s1 : Sto) (ks : Nat → Bool) : List AV → List AV → Prop
  | nil : LeL s s1 ks [] []
  | cons {x y : AV} {xs ys : List AV} (h : Le s s1 ks x y) (t : LeL s s1 ks xs ys) : LeL s s1 ks (x :: xs) (y :: ys)
inductive LeV (s s1 : Sto) (ks : Nat → Bool) : AV → AV → Prop
  | c {x y : AV} (h : Le s s1 ks x y) : LeV s s1 ks x y
  | ag {xs ys : List AV} (h : LeL s s1 ks xs ys) : LeV s s1 ks (.ag xs) (.ag ys)
  | tu {xs ys : List AV} (h : LeL s s1 ks xs ys) : LeV s s1 ks (.tu xs) (.tu ys)
  | fn {f : FuncId} {xs ys : List AV} (h : LeL s s1 ks xs ys) : LeV s s1 ks (.fn f xs) (.fn f ys)
theorem LeL.at {s s1 : Sto} {ks : Nat → Bool} {xs ys : List AV} (h : LeL s s1 ks xs ys) : xs.length = ys.length ∧ ∀ (i : Nat) (x y : AV), xs[i]? = some x → ys[i]? = some y → Le s s1 ks x y := by
  induction h with
  | nil => exact ⟨rfl, fun i x y h => by simp at h⟩
  | cons h t ih =>
    refine ⟨by simp [ih.1], fun i x' y' hx hy => ?_⟩
    cases i with
    | zero => simp at hx hy; subst hx; subst hy; exact h
    | succ i => exact ih.2 i x' y' (by simpa using hx) (by simpa using hy)
theorem LeL.all {s s1 : Sto} {ks : Nat → Bool} : ∀ {xs : List AV}, xs.all isFz = true → LeL s s1 ks xs xs
  | [], _ => .nil
  | x :: xs, h => by
    simp only [List.all_cons, Bool.and_eq_true] at h
    refine .cons ?_ (LeL.all h.2)
    cases x <;> first | exact .fz | (exact absurd h.1 (by simp [isFz]))
inductive LeOb (s s1 : Sto) (ks : Nat → Bool) : Ob → Ob → Prop
  | no : LeOb s s1 ks .no .no
  | row {e sz : Nat} {es : List (List FV)} : LeOb s s1 ks (.row e sz es) (.row e sz es)
  | rowA {e sz : Nat} {es fs : List (List AV)} (hl : es.length = fs.length) (h1 : ∀ x ∈ fs, x.length = sz) (h : ∀ (i j : Nat) (x y : AV), es[i]?.bind (·[j]?) = some x → fs[i]?.bind (·[j]?) = some y → Le s s1 ks x y) : LeOb s s1 ks (.rowA e sz es) (.rowA e sz fs)
  | box {e : Nat} {xs ys : List AV} (h : LeL s s1 ks xs ys) : LeOb s s1 ks (.box e xs) (.box e ys)
  | gn {φ : Go.Obj → Prop} : LeOb s s1 ks (.gn φ) (.gn φ)
/-- Of the objects: those of ks stay, the others are forgotten. -/
def LeS (s s1 : Sto) (ks : Nat → Bool) : Prop := ∀ k, if ks k then (s k).v ≤ (s1 k).v ∧ ((s1 k).v = (s k).v ∨ True) ∧ LeOb s s1 ks (s k).o (s1 k).o else (s k).v < (s1 k).v ∧ (s1 k).o = .no

section
variable {P : Program} {C : Ctx P} {s s1 : Sto} {w : World} {h : Nat → Value} {bk : Nat → Option Nat} {ks : Nat → Bool}
def bkK (bk : Nat → Option Nat) (ks : Nat → Bool) : Nat → Option Nat := fun k => if ks k then bk k else none
theorem bkK_in {k : Nat} (hk : ks k = true) : bkK bk ks k = bk k := by unfold bkK; rw [hk]; rfl
theorem bkK_some {k b : Nat} (hb : bkK bk ks k = some b) : ks k = true ∧ bk k = some b := by
  unfold bkK at hb
  cases hk : ks k with
  | true => rw [hk] at hb; exact ⟨rfl, hb⟩
  | false => rw [hk] at hb; cases hb
theorem ownK {b : Nat} (hb : Own (bkK bk ks) b) : Own bk b := by
  obtain ⟨k, hk⟩ := hb
  exact ⟨k, (bkK_some hk).2⟩
theorem mutK {b : Nat} (hb : C.Mut (bkK bk ks) b) : C.Mut bk b := hb.imp id ownK

theorem Le.spec (H : HeapOk C s w h bk) {v : Value} {x y : AV} (r : Rel C s w h bk v x) (ho : Le s s1 ks x y) : Rel C s1 w h (bkK bk ks) v y := by
  cases ho with
  | fz => cases r with | fz hx => exact .fz (hx.less fun b hb => mutK hb)
  | br => cases r with
    | brn A c sz hA => exact .brn A c _ hA
    | br b o c sz n es f hn hne hsz hc hm hL hl hcell hrel => exact .br b o c _ n _ f hn hne hsz hc hm (fun h => hL (ownK h)) hl hcell (fun i j x hx => (hrel i j x hx).less fun b hb => mutK hb)
  | pe => cases r with
    | pe b o cs f hL hcell hrel => exact .pe b o _ f (fun hne h => hL hne (ownK h)) hcell (fun j x hx => (hrel j x hx).less fun b hb => mutK hb)
  | fc => cases r with | fc A n sz es hx => exact .fc A n _ _ (hx.less fun b hb => mutK hb)
  | er => cases r with | er t x => exact .er t x
  | nil => rw [r.sc]; exact .fz (.emp none 0 _ (fun _ => rfl))
  | nib => rw [r.sc]; exact .brn none 0 _ (fun _ => rfl)
  | fb => cases r with
    | fz hx => cases hx with
      | emp A c sz hA => exact .brn A c _ hA
      | ls b o c sz n es f hn hne hsz hc hm hM hl hcell hrel => exact .br b o c _ n _ f hn hne hsz hc hm (fun h => hM (.inr (ownK h))) hl hcell (fun i j x hx => (hrel i j x hx).less fun b hb => mutK hb)
  | cz => cases r with | fc A n sz es hx => exact .fz (hx.less fun b hb => mutK hb)
  | @row k u e sz es hk hn =>
    rw [r.ow_inv (by rw [hk])]
    obtain ⟨xs, h1, h2, h3, h4, h5⟩ := H.row (k := k) (e := e) (sz := sz) (es := es) (by rw [hk])
    refine .fz (relF_of_row h1 h2 h4 (fun b hb hm => ?_) (fun i j x hx => ?_))
    · have hbk : bk k = some b := by rw [h3]; exact hb
      rcases hm with hm | ⟨j, hj⟩
      · rcases (H.lt k b hbk).1 with h6 | h6
        · have := C.hM b hm; omega
        · exact (C.hA b h6).2 hm
      · obtain ⟨h6, h7⟩ := bkK_some hj
        have := H.apart _ _ b hbk h7
        rw [← this, hn] at h6
        cases h6
    · obtain ⟨v, a1, a2, a3⟩ := h5 i j x hx
      exact ⟨v, a1, a2, a3.less fun b hb => mutK hb⟩
  | @ow k u u' hk hs h1 => cases r with | ow k u o1 hu hv => exact .ow k u' o1 (by rw [h1]; exact Nat.le_refl _) (fun _ => hv hs)
  | @op k u u' n hk hs h1 => cases r with | op k u n o1 hu hv => exact .op k u' n o1 (by rw [h1]; exact Nat.le_refl _) (fun _ => hv hs)
  | @pt k u u' off hk hs h1 => cases r with | pt k u off o1 hu hv => exact .pt k u' off o1 (by rw [h1]; exact Nat.le_refl _) (fun _ => by rw [bkK_in hk]; exact hv hs)
  | @mp k u u' hk hs h1 => cases r with | mp k u o1 hu hv => exact .mp k u' o1 (by rw [h1]; exact Nat.le_refl _) (fun _ => by rw [bkK_in hk]; exact hv hs)
  | xx => exact .xx v
theorem LeV.spec (H : HeapOk C s w h bk) {v : Value} {x y : AV} (r : Rel C s w h bk v x) (ho : LeV s s1 ks x y) : Rel C s1 w h (bkK bk ks) v y := by
  cases ho with
  | c ho => exact Le.spec H r ho
  | ag hl =>
    rename_i cs ys
    obtain ⟨h1, h2⟩ := hl.at
    cases r with
    | ag arr cs hs hr =>
      refine .ag arr ys (by omega) (fun i y hy => ?_)
      have hi : i < cs.length := by have := (List.getElem?_eq_some_iff.1 hy).1; omega
      exact Le.spec H (hr i cs[i] (by simp [hi])) (h2 i cs[i] y (by simp [hi]) hy)
  | tu hl =>
    rename_i cs ys
    obtain ⟨h1, h2⟩ := hl.at
    cases r with
    | tu arr cs hs hr =>
      refine .tu arr ys (by omega) (fun i y hy => ?_)
      have hi : i < cs.length := by have := (List.getElem?_eq_some_iff.1 hy).1; omega
      exact Le.spec H (hr i cs[i] (by simp [hi])) (h2 i cs[i] y (by simp [hi]) hy)
  | fn hl =>
    rename_i f cs ys
    obtain ⟨h1, h2⟩ := hl.at
    cases r with
    | fn f arr cs hs hr =>
      refine .fn f arr ys (by omega) (fun i y hy => ?_)
      have hi : i < cs.length := by have := (List.getElem?_eq_some_iff.1 hy).1; omega
      exact Le.spec H (hr i cs[i] (by simp [hi])) (h2 i cs[i] y (by simp [hi]) hy)

theorem HeapOk.less (H : HeapOk C s w h bk) (R : LeS s s1 ks) (hst : ∀ k, ks k = true → (s1 k).v = (s k).v) : HeapOk C s1 w h (bkK bk ks) := by
  refine ⟨H.below, H.old, fun k => ?_, fun k => ?_, fun k k' b hk hk' => H.apart k k' b (bkK_some hk).2 (bkK_some hk').2, fun k b hk => H.lt k b (bkK_some hk).2⟩
  · have r := R k
    cases hk : ks k with
    | false =>
      rw [hk] at r
      simp only [Bool.false_eq_true, if_false] at r
      unfold ObjOk
      rw [r.2]
      show bkK bk ks k = none
      unfold bkK
      rw [hk]
      rfl
    | true =>
      rw [hk, if_pos rfl] at r
      have o := H.obj k
      have e2 : bkK bk ks k = bk k := bkK_in hk
      obtain ⟨_, _, ro⟩ := r
      unfold ObjOk at o ⊢
      rw [e2]
      generalize (s k).o = o1 at o ro
      generalize (s1 k).o = o2 at ro ⊢
      cases ro with
      | no => exact o
      | row =>
        rename_i e sz es
        obtain ⟨xs, h1, h2, h3, h4, h5⟩ := o
        refine ⟨xs, h1, h2, h3, h4, fun i j x hx => ?_⟩
        obtain ⟨v, a1, a2, a3⟩ := h5 i j x hx
        exact ⟨v, a1, a2, a3.less fun b hb => mutK hb⟩
      | rowA hl hl1 hz =>
        rename_i e sz es fs
        obtain ⟨xs, h1, h2, h3, h4, h5⟩ := o
        refine ⟨xs, by rw [← hl]; exact h1, h2, h3, hl1, fun i j y hy => ?_⟩
        obtain ⟨fy, hfy, hyj⟩ := Option.bind_eq_some_iff.1 hy
        have hi : i < es.length := by have := (List.getElem?_eq_some_iff.1 hfy).1; omega
        have hj : j < es[i].length := by
          have a1 := (List.getElem?_eq_some_iff.1 hyj).1
          have a2 := hl1 fy (List.mem_of_getElem? hfy)
          have a3 := h4 es[i] (List.getElem_mem hi)
          omega
        have hx : es[i]?.bind (·[j]?) = some es[i][j] := by simp [hi, hj]
        obtain ⟨v, a1, a2, a3⟩ := h5 i j _ hx
        exact ⟨v, a1, a2, Le.spec H a3 (hz i j _ y hx hy)⟩
      | box hl =>
        rename_i e xs ys
        obtain ⟨l1, l2⟩ := hl.at
        obtain ⟨b, c, h1, h2, h3, h4, h5⟩ := o
        refine ⟨b, c, h1, h2, h3, by omega, fun i y hy => ?_⟩
        have hi : i < xs.length := by have := (List.getElem?_eq_some_iff.1 hy).1; omega
        obtain ⟨a1, a2⟩ := h5 i xs[i] (by simp [hi])
        exact ⟨a1, Le.spec H a2 (l2 i xs[i] y (by simp [hi]) hy)⟩
      | gn => exact o
  · have r := R k
    have m := H.mono k
    cases hk : ks k with
    | false =>
      rw [hk] at r
      simp only [Bool.false_eq_true, if_false] at r
      exact ⟨Nat.le_of_lt (Nat.lt_of_le_of_lt m.1 r.1), fun e => by have := m.1; have := r.1; omega⟩
    | true =>
      rw [hst k hk, bkK_in hk]
      exact m
end

/-! ### States in one form -/
def lookO : List (Nat × Ob) → Nat → Ob
  | [], _ => .no
  | (m, x) :: l, n => bif Nat.beq n m then x else lookO l n
def inO : List (Nat × Ob) → Nat → Bool
  | [], _ => false
  | (m, _) :: l, n => bif Nat.beq n m then true else inO l n
/-- Objects O, at the stamps f. -/
def stoF (f : Nat → Nat) (O : List (Nat × Ob)) : Sto := fun k => ⟨f k, lookO O k⟩
def memK : List Nat → Nat → Bool
  | [], _ => false
  | m :: l, n => bif Nat.beq n m then true else memK l n
def wkF (s : Sto) (ks : List Nat) : Nat → Nat := fun k => bif memK ks k then (s k).v else (s k).v + 1
def allLe (s s1 : Sto) (ks : Nat → Bool) (t : List (Nat × AV)) : List (Nat × AV) → Prop
  | [] => True
  | (n, x) :: l => LeV s s1 ks (lookT t n) x ∧ allLe s s1 ks t l
def allOb (s s1 : Sto) (ks : Nat → Bool) : List Nat → List (Nat × Ob) → Prop
  | [], O => O = []
  | k :: l, O => match O with
    | [] => False
    | (k', o) :: O => k = k' ∧ LeOb s s1 ks (s k).o o ∧ allOb s s1 ks l O
theorem allLe_look {s s1 : Sto} {ks : Nat → Bool} {t : List (Nat × AV)} : ∀ (l : List (Nat × AV)), allLe s s1 ks t l → ∀ n, LeV s s1 ks (lookT t n) (lookT l n)
  | [], _, n => .c .xx
  | (m, x) :: l, h, n => by
    rw [lookT_cons]
    by_cases e : n = m
    · subst e; rw [if_pos rfl]; exact h.1
    · rw [if_neg e]; exact allLe_look l h.2 n
theorem beq_ne {n m : Nat} (h : n ≠ m) : Nat.beq n m = false := by
  cases hb : Nat.beq n m with
  | false => rfl
  | true => exact absurd (Nat.eq_of_beq_eq_true hb) h
theorem allOb_look {s s1 : Sto} {ks : Nat → Bool} : ∀ (l : List Nat) (O : List (Nat × Ob)), allOb s s1 ks l O → ∀ k, if memK l k then LeOb s s1 ks (s k).o (lookO O k) else lookO O k = .no
  | [], O, h, k => by subst h; rfl
  | k' :: l, [], h, k => h.elim
  | k' :: l, (k2, o) :: O, ⟨e, h1, h2⟩, k => by
    subst e
    unfold memK lookO
    by_cases e : k = k'
    · subst e; rw [Nat.beq_refl]; exact h1
    · rw [beq_ne e]; exact allOb_look l O h2 k

theorem Sim.less {P : Program} {C : Ctx P} {N : Nat} {t L : List (Nat × AV)} {s : Sto} {a : Act} {w : World} (ks : List Nat) (O : List (Nat × Ob)) (hL : allLe s (stoF (wkF s ks) O) (memK ks) t L) (hO : allOb s (stoF (wkF s ks) O) (memK ks) ks O)
    (hs : Sim C N ⟨t, s⟩ a w) : Sim C N ⟨L, stoF (wkF s ks) O⟩ a w := by
  obtain ⟨h, bk, H, hdf, hN, ht⟩ := hs
  have hv : ∀ k, memK ks k = true → (stoF (wkF s ks) O k).v = (s k).v := by
    intro k hk
    show wkF s ks k = _
    unfold wkF
    rw [hk]; rfl
  refine ⟨h, bkK bk (memK ks), H.less (fun k => ?_) hv, hdf, hN, fun n hn => LeV.spec H (ht n hn) (allLe_look L hL n)⟩
  have := allOb_look ks O hO k
  cases hk : memK ks k with
  | true =>
    rw [hk] at this
    rw [if_pos rfl]
    exact ⟨Nat.le_of_eq (hv k hk).symm, .inr trivial, this⟩
  | false =>
    rw [hk] at this
    simp only [Bool.false_eq_true, if_false] at this ⊢
    refine ⟨?_, this⟩
    show (s k).v < wkF s ks k
    unfold wkF
    rw [hk]
    exact Nat.lt_succ_self _

end Go.SL
