/- S-logic: nil slices that become rows of their own. -/
import Derived.Test.YtgihpfidacjogaaDoorSlS
set_option linter.unusedVariables false
set_option linter.unusedSimpArgs false
namespace Go.SL
open Go.RowKit

/-- What may be told instead. -/
def Prm (t : List (Nat × AV)) (s : Sto) (t' : List (Nat × AV)) (s' : Sto) (N : Nat) : Prop := ∀ (P : Program) (C : Ctx P) (a : Act) (w : World), Sim C N ⟨t, s⟩ a w → Sim C N ⟨t', s'⟩ a w

section
variable {P : Program} {C : Ctx P} {N : Nat} {t t' : List (Nat × AV)} {s s' : Sto} {Q : Exit → St → Prop}
theorem EW.pr {c : Code} (h : Prm t s t' s' N) (k : EW C N c ⟨t', s'⟩ Q) : EW C N c ⟨t, s⟩ Q := fun a w hs => k a w (h P C a w hs)
theorem EWL.pr {c : Code} (h : Prm t s t' s' N) (k : EWL C N c ⟨t', s'⟩ Q) : EWL C N c ⟨t, s⟩ Q := fun a w hs => k a w (h P C a w hs)
theorem EOps.pr {ops : Array Oper} {l : List Oper} {K : St → Prop} (h : Prm t s t' s' N) (k : EOps C N ops l ⟨t', s'⟩ K) : EOps C N ops l ⟨t, s⟩ K := fun a w hs => k a w (h P C a w hs)
theorem Up.pr {R : St → Prop} (h : Prm t s t' s' N) (k : Up C N R ⟨t', s'⟩) : Up C N R ⟨t, s⟩ := fun a w hs => k a w (h P C a w hs)
end

theorem nil_inv {w : World} {M L : Nat → Prop} {s : Sto} {h : Nat → Value} {bk : Nat → Option Nat} {v : Value} {x : AV} (r : RelA w M L s h bk v x) (e : x = nilA) : v = .slice none 0 0 := by
  cases r with
  | fz hx =>
    cases e
    cases hx with
    | sc v h1 => rfl
  | _ => cases e

theorem HeapOk.nilRow {P : Program} {C : Ctx P} {s : Sto} {w : World} {h : Nat → Value} {bk : Nat → Option Nat} (H : HeapOk C s w h bk) (d e sz : Nat) (hsz : 0 < sz) :
    ∃ h' bk', HeapOk C (s.set d ⟨(s d).v + 1, .row e sz []⟩) w h' bk' ∧ (∀ u y, Rel C s w h bk u y → Rel C (s.set d ⟨(s d).v + 1, .row e sz []⟩) w h' bk' u y) ∧
      Rel C (s.set d ⟨(s d).v + 1, .row e sz []⟩) w h' bk' (.slice none 0 0) (.ow d ((s d).v + 1)) :=
  H.toRow (w' := w) d e sz [] (.slice none 0 0) [] ⟨rfl, rfl, rfl, Nat.le_refl _, fun _ _ => rfl⟩ (fun _ _ _ => rfl) (fun b hb => by simp [Value.ownBlock] at hb) ⟨by simp, .inl ⟨rfl, rfl⟩⟩ hsz (fun x hx => by simp at hx) (fun i j x hx => by simp at hx)

theorem Prm.t {t : List (Nat × AV)} {s : Sto} {N u : Nat} (n d e sz : Nat) (hn : lookT t n = nilA) (hd : (s d).v = u) (hsz : Nat.blt 0 sz = true) : Prm t s ((n, .ow d (u + 1)) :: t) (s.set d ⟨u + 1, .row e sz []⟩) N := by
  intro P C a w hs
  obtain ⟨h, bk, H, hdf, hN, ht⟩ := hs
  subst hd
  obtain ⟨h', bk', H', hm, hr⟩ := H.nilRow d e sz (Nat.le_of_ble_eq_true hsz)
  refine ⟨h', bk', H', hdf, hN, fun m hmN => ?_⟩
  have r := ht m hmN
  show Rel C _ w h' bk' _ (lookT ((n, .ow d ((s d).v + 1)) :: t) m)
  rw [lookT_cons]
  by_cases e1 : m = n
  · subst e1
    rw [if_pos rfl]
    have hx : lookT t m = nilA := hn
    have hv := nil_inv r hx
    rw [hv]
    exact hr
  · rw [if_neg e1]
    exact hm _ _ r

theorem Prm.b {t : List (Nat × AV)} {s : Sto} {N u v e1 : Nat} {cs : List AV} (k i d e sz : Nat) (hk : s k = ⟨u, .box e1 cs⟩) (hi : cs[i]? = some nilA) (hkd : Nat.beq k d = false) (hd : (s d).v = v) (hsz : Nat.blt 0 sz = true) :
    Prm t s t ((s.set d ⟨v + 1, .row e sz []⟩).set k ⟨u, .box e1 (cs.set i (.ow d (v + 1)))⟩) N := by
  intro P C a w hs
  obtain ⟨h, bk, H, hdf, hN, ht⟩ := hs
  subst hd
  have hne : k ≠ d := by rintro rfl; rw [Nat.beq_refl] at hkd; cases hkd
  obtain ⟨h', bk', H', hm, hr⟩ := H.nilRow d e sz (Nat.le_of_ble_eq_true hsz)
  have hk1 : (s.set d ⟨(s d).v + 1, .row e sz []⟩) k = ⟨u, .box e1 cs⟩ := by rw [Sto.set_ne _ _ hne]; exact hk
  obtain ⟨b, c, hb, hB, hw, hcs, hcr⟩ := H'.box (k := k) (e := e1) (cs := cs) (by rw [hk1])
  have hc0 : c.getD i undef = .slice none 0 0 := by
    have r' := (hcr i nilA hi).2
    exact nil_inv r' rfl
  have hT := H'.turn (w' := w) k ⟨u, .box e1 (cs.set i (.ow d ((s d).v + 1)))⟩ (h' k) (bk' k) ⟨rfl, rfl, rfl, Nat.le_refl _, fun _ _ => rfl⟩ (fun _ _ _ => rfl)
    (.inr ⟨by rw [hk1], rfl, rfl⟩) (fun b2 hb2 => .inl hb2)
    (fun hrel _ => by
      unfold ObjOk
      rw [Sto.set_same, upd_same]
      refine ⟨b, c, hb, hB, hw, by simpa using hcs, fun j y hy => ?_⟩
      rw [List.getElem?_set] at hy
      by_cases ej : i = j
      · subst ej
        rw [if_pos rfl] at hy
        split at hy
        · cases hy
          rw [hc0]
          exact ⟨rfl, hrel _ _ hr⟩
        · cases hy
      · rw [if_neg ej] at hy
        exact ⟨(hcr j y hy).1, hrel _ _ (hcr j y hy).2⟩)
  exact ⟨_, _, hT.1, hdf, hN, fun m hmN => hT.2 _ _ (hm _ _ (ht m hmN))⟩

theorem CellsF.ofE {xs : List AV} {cs : List FV} (h : xs = cs.map .fz) : CellsF xs cs := by subst h; exact CellsF.map_
theorem CellsF.eqc {xs : List AV} {cs cs' : List FV} (hc : cs = cs') (h : CellsF xs cs') : CellsF xs cs := by subst hc; exact h

/-- Less is told of what a function gives. -/
theorem Fn.less {P : Program} {n : FuncId} {s0 s1 : Sto} {args : List AV} {res res' : AV} (ks : List Nat) (O : List (Nat × Ob)) (hF : Fn P n s0 args s1 res)
    (hr : LeV s1 (stoF (wkF s1 ks) O) (memK ks) res res') (hO : allOb s1 (stoF (wkF s1 ks) O) (memK ks) ks O) : Fn P n s0 args (stoF (wkF s1 ks) O) res' := by
  intro C hC H0 vals hl hv
  refine (hF C hC H0 vals hl hv).mono ?_
  rintro e w' ⟨v, h', bk', he, H, r⟩
  have hvv : ∀ k, memK ks k = true → (stoF (wkF s1 ks) O k).v = (s1 k).v := by
    intro k hk
    show wkF s1 ks k = _
    unfold wkF
    rw [hk]; rfl
  refine ⟨v, h', bkK bk' (memK ks), he, H.less (fun k => ?_) hvv, LeV.spec H r hr⟩
  have := allOb_look ks O hO k
  cases hk : memK ks k with
  | true =>
    rw [hk] at this
    rw [if_pos rfl]
    exact ⟨Nat.le_of_eq (hvv k hk).symm, .inr trivial, this⟩
  | false =>
    rw [hk] at this
    simp only [Bool.false_eq_true, if_false] at this ⊢
    refine ⟨?_, this⟩
    show (s1 k).v < wkF s1 ks k
    unfold wkF
    rw [hk]
    exact Nat.lt_succ_self _
end Go.SL
