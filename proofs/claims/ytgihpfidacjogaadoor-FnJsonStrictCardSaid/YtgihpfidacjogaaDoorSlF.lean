/- S-logic, part 6: calls. -/
import Derived.Test.YtgihpfidacjogaaDoorSlW
set_option linter.unusedVariables false
set_option linter.unusedSimpArgs false
namespace Go.SL
open Go.RowKit

/-! ### What is handed over. pass: which object of the callee is which of the caller's. -/
def pick1 : List (Nat × Nat) → Nat → Option Nat
  | [], _ => none
  | (j, k) :: l, j' => if j' = j then some k else pick1 l j'
theorem pick1_mem : ∀ (l : List (Nat × Nat)) (j k : Nat), pick1 l j = some k → (j, k) ∈ l
  | [], _, _, h => by cases h
  | (a, b) :: l, j, k, h => by
    unfold pick1 at h
    split at h
    · rename_i e; subst e; cases h; exact List.mem_cons_self
    · exact List.mem_cons_of_mem _ (pick1_mem l j k h)
theorem pick1_none : ∀ (l : List (Nat × Nat)) (j : Nat), pick1 l j = none → ∀ p, p ∈ l → p.1 ≠ j
  | [], _, _, _, h => by cases h
  | (a, b) :: l, j, h, p, hp => by
    unfold pick1 at h
    split at h
    · cases h
    · rename_i e
      rcases List.mem_cons.1 hp with rfl | hp
      · exact fun e' => e e'.symm
      · exact pick1_none l j h p hp
/-- No two callee's objects are one, no two of the caller's. -/
def inj (l : List (Nat × Nat)) : Prop := ∀ p q, p ∈ l → q ∈ l → (p.1 = q.1 ∨ p.2 = q.2) → p = q
def injB : List (Nat × Nat) → Bool
  | [] => true
  | p :: l => (l.all fun q => !(p.1 == q.1) && !(p.2 == q.2)) && injB l
theorem injB_spec : ∀ l, injB l = true → inj l
  | [], _ => fun p q hp => by cases hp
  | a :: l, h => by
    unfold injB at h
    simp only [Bool.and_eq_true, List.all_eq_true, Bool.not_eq_true', beq_eq_false_iff_ne] at h
    intro p q hp hq hpq
    rcases List.mem_cons.1 hp with e1 | hp' <;> rcases List.mem_cons.1 hq with e2 | hq'
    · rw [e1, e2]
    · subst e1; exact absurd hpq (fun e => e.elim (h.1 q hq').1 (h.1 q hq').2)
    · subst e2; exact absurd hpq (fun e => e.elim (fun e => (h.1 p hp').1 e.symm) (fun e => (h.1 p hp').2 e.symm))
    · exact injB_spec l h.2 p q hp' hq' hpq
theorem pick1_of {l : List (Nat × Nat)} (hi : inj l) {j k : Nat} (h : (j, k) ∈ l) : pick1 l j = some k := by
  cases hp : pick1 l j with
  | none => exact absurd rfl (pick1_none l j hp _ h)
  | some k' =>
    have := hi _ _ h (pick1_mem l j k' hp) (.inl rfl)
    cases this
    rfl


def freeK (pass : List (Nat × Nat)) (k : Nat) : Bool := pass.all fun p => !(Nat.beq p.2 k)
theorem freeK_spec {pass : List (Nat × Nat)} {k : Nat} (h : freeK pass k = true) : ∀ p, p ∈ pass → p.2 ≠ k := by
  intro p hp e
  have := List.all_eq_true.1 h p hp
  rw [e, Nat.beq_refl] at this
  cases this

/-- The caller's x is told to the callee as y; ks: the objects that this looks at. -/
inductive ArgC (s s0 : Sto) (ks : Nat → Bool) (pass : List (Nat × Nat)) : AV → AV → Prop
  | fz {c : FV} : ArgC s s0 ks pass (.fz c) (.fz c)
  | nil {sz : Nat} : ArgC s s0 ks pass (.fz (.sc (.slice none 0 0))) (.fz (.ls sz []))
  | cz {sz : Nat} {es : List (List FV)} : ArgC s s0 ks pass (.fc sz es) (.fz (.ls sz es))
  | br {sz : Nat} {es : List (List FV)} : ArgC s s0 ks pass (.br sz es) (.br sz es)
  | fb {sz : Nat} {es : List (List FV)} : ArgC s s0 ks pass (.fz (.ls sz es)) (.br sz es)
  | nib {sz : Nat} : ArgC s s0 ks pass (.fz (.sc (.slice none 0 0))) (.br sz [])
  | rb {k u e sz : Nat} {es : List (List FV)} (hm : ks k = true) (h : s k = ⟨u, .row e sz es⟩) (hn : freeK pass k = true) : ArgC s s0 ks pass (.ow k u) (.br sz es)
  | ow {j k u u' : Nat} (hm : ks k = true) (hp : pick1 pass j = some k) (h : (s k).v = u) (hu : (s0 j).v = u') : ArgC s s0 ks pass (.ow k u) (.ow j u')
  | pt {j k u u' off : Nat} (hm : ks k = true) (hp : pick1 pass j = some k) (h : (s k).v = u) (hu : (s0 j).v = u') : ArgC s s0 ks pass (.pt k u off) (.pt j u' off)
  | mp {j k u u' : Nat} (hm : ks k = true) (hp : pick1 pass j = some k) (h : (s k).v = u) (hu : (s0 j).v = u') : ArgC s s0 ks pass (.mp k u) (.mp j u')
  | pe {cs : List FV} : ArgC s s0 ks pass (.pe cs) (.pe cs)
  | er : ArgC s s0 ks pass .er .er
  | xx {x : AV} : ArgC s s0 ks pass x .xx
inductive ArgL (s s0 : Sto) (ks : Nat → Bool) (pass : List (Nat × Nat)) : List AV → List AV → Prop
  | nil : ArgL s s0 ks pass [] []
  | cons {x y : AV} {xs ys : List AV} (h : ArgC s s0 ks pass x y) (t : ArgL s s0 ks pass xs ys) : ArgL s s0 ks pass (x :: xs) (y :: ys)
inductive ArgV (s s0 : Sto) (ks : Nat → Bool) (pass : List (Nat × Nat)) : AV → AV → Prop
  | c {x y : AV} (h : ArgC s s0 ks pass x y) : ArgV s s0 ks pass x y
  | ag {xs ys : List AV} (h : ArgL s s0 ks pass xs ys) : ArgV s s0 ks pass (.ag xs) (.ag ys)
  | fn {f : FuncId} {xs ys : List AV} (h : ArgL s s0 ks pass xs ys) : ArgV s s0 ks pass (.fn f xs) (.fn f ys)
inductive ArgsOk (s s0 : Sto) (ks : Nat → Bool) (pass : List (Nat × Nat)) (ρA : Operand → AV) : List Operand → List AV → Prop
  | nil : ArgsOk s s0 ks pass ρA [] []
  | cons {p : Operand} {y : AV} {ps : List Operand} {ys : List AV} (h : ArgV s s0 ks pass (ρA p) y) (t : ArgsOk s s0 ks pass ρA ps ys) : ArgsOk s s0 ks pass ρA (p :: ps) (y :: ys)
inductive ArgOb (s s0 : Sto) (ks : Nat → Bool) (pass : List (Nat × Nat)) : Ob → Ob → Prop
  | row {e sz : Nat} {es : List (List FV)} : ArgOb s s0 ks pass (.row e sz es) (.row e sz es)
  | rowA {e sz : Nat} {es fs : List (List AV)} (hl : es.length = fs.length) (h1 : ∀ x ∈ fs, x.length = sz) (h : ∀ (i j : Nat) (x y : AV), es[i]?.bind (·[j]?) = some x → fs[i]?.bind (·[j]?) = some y → ArgC s s0 ks pass x y) : ArgOb s s0 ks pass (.rowA e sz es) (.rowA e sz fs)
  | box {e : Nat} {xs ys : List AV} (h : ArgL s s0 ks pass xs ys) : ArgOb s s0 ks pass (.box e xs) (.box e ys)
  | gn {φ : Go.Obj → Prop} : ArgOb s s0 ks pass (.gn φ) (.gn φ)
/-- The objects that are handed over, one by one. -/
inductive PassL (s s0 : Sto) (ks : Nat → Bool) (pass : List (Nat × Nat)) : List (Nat × Nat) → Prop
  | nil : PassL s s0 ks pass []
  | cons {j k : Nat} {l : List (Nat × Nat)} (hm : ks k = true) (h : ArgOb s s0 ks pass (s k).o (s0 j).o) (t : PassL s s0 ks pass l) : PassL s s0 ks pass ((j, k) :: l)

section
variable {s s' s0 : Sto} {ks : Nat → Bool} {pass : List (Nat × Nat)} (ha : ∀ k, ks k = true → s' k = s k)
include ha
theorem ArgC.congr {x y : AV} (h : ArgC s s0 ks pass x y) : ArgC s' s0 ks pass x y := by
  cases h with
  | fz => exact .fz
  | nil => exact .nil
  | cz => exact .cz
  | br => exact .br
  | fb => exact .fb
  | nib => exact .nib
  | rb hm h hn => exact .rb hm (by rw [ha _ hm]; exact h) hn
  | ow hm hp h hu => exact .ow hm hp (by rw [ha _ hm]; exact h) hu
  | pt hm hp h hu => exact .pt hm hp (by rw [ha _ hm]; exact h) hu
  | mp hm hp h hu => exact .mp hm hp (by rw [ha _ hm]; exact h) hu
  | pe => exact .pe
  | er => exact .er
  | xx => exact .xx
theorem ArgL.congr {xs ys : List AV} (h : ArgL s s0 ks pass xs ys) : ArgL s' s0 ks pass xs ys := by
  induction h with
  | nil => exact .nil
  | cons h t ih => exact .cons (h.congr ha) ih
theorem ArgV.congr {x y : AV} (h : ArgV s s0 ks pass x y) : ArgV s' s0 ks pass x y := by
  cases h with
  | c h => exact .c (h.congr ha)
  | ag h => exact .ag (h.congr ha)
  | fn h => exact .fn (h.congr ha)
theorem ArgsOk.congr {ρA : Operand → AV} {ps : List Operand} {ys : List AV} (h : ArgsOk s s0 ks pass ρA ps ys) : ArgsOk s' s0 ks pass ρA ps ys := by
  induction h with
  | nil => exact .nil
  | cons h t ih => exact .cons (h.congr ha) ih
theorem ArgOb.congr {x y : Ob} (h : ArgOb s s0 ks pass x y) : ArgOb s' s0 ks pass x y := by
  cases h with
  | row => exact .row
  | rowA hl h1 h => exact .rowA hl h1 (fun i j x y hx hy => (h i j x y hx hy).congr ha)
  | box h => exact .box (h.congr ha)
  | gn => exact .gn
theorem PassL.congr {l : List (Nat × Nat)} (h : PassL s s0 ks pass l) : PassL s' s0 ks pass l := by
  induction h with
  | nil => exact .nil
  | cons hm h t ih => exact .cons hm (by rw [ha _ hm]; exact h.congr ha) ih
end
theorem ArgL.at {s s0 : Sto} {ks : Nat → Bool} {pass : List (Nat × Nat)} {xs ys : List AV} (h : ArgL s s0 ks pass xs ys) : xs.length = ys.length ∧ ∀ (i : Nat) (x y : AV), xs[i]? = some x → ys[i]? = some y → ArgC s s0 ks pass x y := by
  induction h with
  | nil => exact ⟨rfl, fun i x y h => by simp at h⟩
  | cons h t ih =>
    refine ⟨by simp [ih.1], fun i x' y' hx hy => ?_⟩
    cases i with
    | zero => simp at hx hy; subst hx; subst hy; exact h
    | succ i => exact ih.2 i x' y' (by simpa using hx) (by simpa using hy)
theorem ArgL.all {s s0 : Sto} {ks : Nat → Bool} {pass : List (Nat × Nat)} : ∀ {xs : List AV}, xs.all isFz = true → ArgL s s0 ks pass xs xs
  | [], _ => .nil
  | x :: xs, h => by
    simp only [List.all_cons, Bool.and_eq_true] at h
    refine .cons ?_ (ArgL.all h.2)
    cases x <;> first | exact .fz | (exact absurd h.1 (by simp [isFz]))
theorem ArgsOk.at {s s0 : Sto} {ks : Nat → Bool} {pass : List (Nat × Nat)} {ρA : Operand → AV} {ps : List Operand} {ys : List AV} (h : ArgsOk s s0 ks pass ρA ps ys) : ps.length = ys.length ∧ ∀ (i : Nat) (p : Operand) (y : AV), ps[i]? = some p → ys[i]? = some y → ArgV s s0 ks pass (ρA p) y := by
  induction h with
  | nil => exact ⟨rfl, fun i x y h => by simp at h⟩
  | cons h t ih =>
    refine ⟨by simp [ih.1], fun i x' y' hx hy => ?_⟩
    cases i with
    | zero => simp at hx hy; subst hx; subst hy; exact h
    | succ i => exact ih.2 i x' y' (by simpa using hx) (by simpa using hy)
theorem PassL.at {s s0 : Sto} {ks : Nat → Bool} {pass l : List (Nat × Nat)} (h : PassL s s0 ks pass l) : ∀ j k, (j, k) ∈ l → ArgOb s s0 ks pass (s k).o (s0 j).o := by
  induction h with
  | nil => intro j k h; cases h
  | cons hm h t ih =>
    intro j k hjk
    rcases List.mem_cons.1 hjk with e | h'
    · cases e; exact h
    · exact ih j k h'

section
variable {P : Program} (C : Ctx P) {s : Sto} (w : World) (h : Nat → Value) (bk : Nat → Option Nat) (s0 : Sto) (pass : List (Nat × Nat))
def given (b : Nat) : Prop := ∃ p, p ∈ pass ∧ bk p.2 = some b

/-- The callee's side. -/
def callee (H : HeapOk C s w h bk) : Ctx P where
  w0 := w
  M := fun b => C.Mut bk b ∧ ¬ given bk pass b
  A := given bk pass
  hM := fun b hb => by
    rcases hb.1 with h1 | ⟨k, h1⟩
    · have := C.hM b h1; have := H.below.size; omega
    · exact (H.lt k b h1).2
  hA := fun b hb => ⟨by obtain ⟨p, _, hp⟩ := hb; exact (H.lt _ b hp).2, fun h => h.2 hb⟩
  s0 := s0
  h0 := fun j => match pick1 pass j with | some k => h k | none => undef
  bk0 := fun j => (pick1 pass j).bind bk
end

section
variable {P : Program} {C : Ctx P} {s : Sto} {w : World} {h : Nat → Value} {bk : Nat → Option Nat} {s0 : Sto} {pass : List (Nat × Nat)}

theorem callee_own (H : HeapOk C s w h bk) {b : Nat} (hb : Own (callee C w h bk s0 pass H).bk0 b) : given bk pass b := by
  obtain ⟨j, hj⟩ := hb
  obtain ⟨k, hk, hkb⟩ := Option.bind_eq_some_iff.1 hj
  exact ⟨(j, k), pick1_mem _ _ _ hk, hkb⟩
theorem callee_mut (H : HeapOk C s w h bk) {b : Nat} (hb : (callee C w h bk s0 pass H).Mut (callee C w h bk s0 pass H).bk0 b) : C.Mut bk b := by
  rcases hb with hb | hb
  · exact hb.1
  · obtain ⟨p, _, hp⟩ := callee_own H hb
    exact .inr ⟨p.2, hp⟩

theorem ArgC.spec {ks : Nat → Bool} (H : HeapOk C s w h bk) (hi : inj pass) {v : Value} {x y : AV} (r : Rel C s w h bk v x) (ha : ArgC s s0 ks pass x y) :
    Rel (callee C w h bk s0 pass H) s0 w (callee C w h bk s0 pass H).h0 (callee C w h bk s0 pass H).bk0 v y := by
  have fzc : ∀ {c : FV}, RelF w (C.Mut bk) v c → Rel (callee C w h bk s0 pass H) s0 w (callee C w h bk s0 pass H).h0 (callee C w h bk s0 pass H).bk0 v (.fz c) := fun hx => .fz (hx.less fun b hb => callee_mut H hb)
  cases ha with
  | fz => cases r with | fz hx => exact fzc hx
  | nil => rw [r.sc]; exact .fz (.emp none 0 _ (fun _ => rfl))
  | cz => cases r with | fc A n sz es hx => exact fzc hx
  | br => cases r with
    | brn A c sz hA => exact .brn A c _ hA
    | br b o c sz n es f hn hne hsz hc hm hL hl hcell hrel => exact .br b o c _ n _ f hn hne hsz hc hm (fun hb => by obtain ⟨p, _, hp⟩ := callee_own H hb; exact hL ⟨p.2, hp⟩) hl hcell (fun i j x hx => (hrel i j x hx).less fun b hb => callee_mut H hb)
  | fb => cases r with
    | fz hx => cases hx with
      | emp A c sz hA => exact .brn A c _ hA
      | ls b o c sz n es f hn hne hsz hc hm hM hl hcell hrel => exact .br b o c _ n _ f hn hne hsz hc hm (fun hb => by obtain ⟨p, _, hp⟩ := callee_own H hb; exact hM (.inr ⟨p.2, hp⟩)) hl hcell (fun i j x hx => (hrel i j x hx).less fun b hb => callee_mut H hb)
  | nib => rw [r.sc]; exact .brn none 0 _ (fun _ => rfl)
  | @rb k u e sz es _ hk hn =>
    rw [r.ow_inv (by rw [hk])]
    obtain ⟨xs, h1, h2, h3, h4, h5⟩ := H.row (k := k) (e := e) (sz := sz) (es := es) (by rw [hk])
    -- read as if nothing else were to be written
    have hb0 : ∀ b, (h k).ownBlock = some b → ¬ given bk pass b := by
      rintro b hb ⟨p, hp, hpb⟩
      exact freeK_spec hn p hp (H.apart _ _ b hpb (by rw [h3]; exact hb))
    have hf : RelF w (fun b => C.Mut bk b ∧ (h k).ownBlock ≠ some b) (h k) (.ls sz es) := by
      refine relF_of_row h1 h2 h4 (fun b hb hm => hm.2 hb) (fun i j x hx => ?_)
      obtain ⟨v, a1, a2, a3⟩ := h5 i j x hx
      exact ⟨v, a1, a2, a3.less fun b hb => hb.1⟩
    generalize hhk : h k = hv at *
    cases hf with
    | emp A c sz hA => exact .brn A c sz hA
    | ls b o c sz n es f hn' hne hsz hc hm hM hl hcell hrel =>
      refine .br b o c sz n es f hn' hne hsz hc hm (fun hb => ?_) hl hcell (fun i j x hx => ?_)
      · rcases h1.2 with ⟨e1, _⟩ | ⟨g, cap, cur, e1, _⟩
        · cases e1
        · cases e1
          exact hb0 b rfl (callee_own H hb)
      · -- the elements themselves are frozen
        subst hn'
        obtain ⟨v', a1, a2, a3⟩ := h5 i j x hx
        rcases h1.2 with ⟨e1, _⟩ | ⟨g, cap, cur, e1, _, hg, hnc, hcm, hcs, htake⟩
        · cases e1
        · cases e1
          obtain ⟨y, hy, hyj⟩ := Option.bind_eq_some_iff.1 hx
          have hi' : i < es.length := (List.getElem?_eq_some_iff.1 hy).1
          have hj' : j < sz := by
            have h6 := (List.getElem?_eq_some_iff.1 hyj).1
            rw [hl y (List.mem_of_getElem? hy)] at h6
            exact h6
          have hc1 := (hcell i j hi' hj').1
          have hin : i * sz + j < es.length * sz := by
            have : (i + 1) * sz ≤ es.length * sz := Nat.mul_le_mul_right _ hi'
            rw [Nat.add_mul] at this
            omega
          rw [cell_mid hg, Nat.zero_add] at hc1
          have h7 : (cur.toList.take (es.length * sz))[i * sz + j]? = xs[i * sz + j]? := by rw [htake]
          rw [List.getElem?_take_of_lt hin, a1] at h7
          have h8 : cur[i * sz + j]? = some v' := by simpa using h7
          rw [h8] at hc1
          cases hc1
          exact a3.less fun b hb => callee_mut H hb
  | @ow j k u u' _ hp hs hu =>
    have hk := hp
    subst hu
    cases r with
    | ow k u o1 _ hv => exact .ow j _ o1 (Nat.le_refl _) (fun _ => by
        rw [hv hs]
        show h k = match pick1 pass j with | some k => h k | none => undef
        rw [hk])
  | @pt j k u u' off _ hp hs hu =>
    subst hu
    cases r with
    | pt k u off o1 _ hv =>
      obtain ⟨b, hb, rfl⟩ := hv hs
      exact .pt j _ off o1 (Nat.le_refl _) (fun _ => ⟨b, by show (pick1 pass j).bind bk = some b; rw [hp]; exact hb, rfl⟩)
  | @mp j k u u' _ hp hs hu =>
    subst hu
    cases r with
    | mp k u o1 _ hv =>
      obtain ⟨b, hb, rfl⟩ := hv hs
      exact .mp j _ o1 (Nat.le_refl _) (fun _ => ⟨b, by show (pick1 pass j).bind bk = some b; rw [hp]; exact hb, rfl⟩)
  | pe => cases r with
    | pe b o cs f hL hcell hrel => exact .pe b o _ f (fun hne hb => by obtain ⟨p, _, hp⟩ := callee_own H hb; exact hL hne ⟨p.2, hp⟩) hcell (fun j x hx => (hrel j x hx).less fun b hb => callee_mut H hb)
  | er => cases r with | er t x => exact .er t x
  | xx => exact .xx v
theorem ArgV.spec {ks : Nat → Bool} (H : HeapOk C s w h bk) (hi : inj pass) {v : Value} {x y : AV} (r : Rel C s w h bk v x) (ha : ArgV s s0 ks pass x y) :
    Rel (callee C w h bk s0 pass H) s0 w (callee C w h bk s0 pass H).h0 (callee C w h bk s0 pass H).bk0 v y := by
  cases ha with
  | c ha => exact ArgC.spec H hi r ha
  | ag hl =>
    rename_i cs ys
    obtain ⟨h1, h2⟩ := hl.at
    cases r with
    | ag arr cs hs hr =>
      refine .ag arr ys (by omega) (fun i y hy => ?_)
      have hi' : i < cs.length := by have := (List.getElem?_eq_some_iff.1 hy).1; omega
      exact ArgC.spec H hi (hr i cs[i] (by simp [hi'])) (h2 i cs[i] y (by simp [hi']) hy)
  | fn hl =>
    rename_i f cs ys
    obtain ⟨h1, h2⟩ := hl.at
    cases r with
    | fn f arr cs hs hr =>
      refine .fn f arr ys (by omega) (fun i y hy => ?_)
      have hi' : i < cs.length := by have := (List.getElem?_eq_some_iff.1 hy).1; omega
      exact ArgC.spec H hi (hr i cs[i] (by simp [hi'])) (h2 i cs[i] y (by simp [hi']) hy)

/-- What is asked of the objects at the call. -/
def PassOk (s s0 : Sto) (ks : Nat → Bool) (pass : List (Nat × Nat)) : Prop :=
  (∀ j k, (j, k) ∈ pass → ArgOb s s0 ks pass (s k).o (s0 j).o) ∧ ∀ j, (∀ p, p ∈ pass → p.1 ≠ j) → (s0 j).o = .no

theorem callee_ok {ks : Nat → Bool} (H : HeapOk C s w h bk) (hi : inj pass) (hp : PassOk s s0 ks pass) : HeapOk (callee C w h bk s0 pass H) s0 w (callee C w h bk s0 pass H).h0 (callee C w h bk s0 pass H).bk0 := by
  have hbk : ∀ j b, (callee C w h bk s0 pass H).bk0 j = some b → ∃ k, (j, k) ∈ pass ∧ bk k = some b := by
    intro j b hb
    obtain ⟨k, hk, hkb⟩ := Option.bind_eq_some_iff.1 hb
    exact ⟨k, pick1_mem _ _ _ hk, hkb⟩
  refine ⟨Below.refl _ _, fun _ _ _ => rfl, fun j => ?_, fun j => ⟨Nat.le_refl _, fun _ => ⟨rfl, rfl⟩⟩, fun j j' b hj hj' => ?_, fun j b hj => ?_⟩
  · cases hpk : pick1 pass j with
    | none =>
      unfold ObjOk
      rw [hp.2 j (pick1_none _ _ hpk)]
      show (pick1 pass j).bind bk = none
      rw [hpk]
      rfl
    | some k =>
      have hk := pick1_mem _ _ _ hpk
      have ho := hp.1 j k hk
      have o := H.obj k
      have e1 : (callee C w h bk s0 pass H).h0 j = h k := by
        show (match pick1 pass j with | some k => h k | none => undef) = h k
        rw [hpk]
      have e2 : (callee C w h bk s0 pass H).bk0 j = bk k := by
        show (pick1 pass j).bind bk = bk k
        rw [hpk]
        rfl
      unfold ObjOk at o ⊢
      rw [e1, e2]
      generalize (s k).o = o1 at o ho
      generalize (s0 j).o = o2 at ho ⊢
      cases ho with
      | row =>
        obtain ⟨xs, h1, h2, h3, h4, h5⟩ := o
        refine ⟨xs, h1, h2, h3, h4, fun i j x hx => ?_⟩
        obtain ⟨v, a1, a2, a3⟩ := h5 i j x hx
        exact ⟨v, a1, a2, a3.less fun b hb => callee_mut H hb⟩
      | @rowA e sz es fs hl hl1 hz =>
        obtain ⟨xs, h1, h2, h3, h4, h5⟩ := o
        refine ⟨xs, by rw [← hl]; exact h1, h2, h3, hl1, fun i j y hy => ?_⟩
        obtain ⟨fy, hfy, hyj⟩ := Option.bind_eq_some_iff.1 hy
        have hi' : i < es.length := by have := (List.getElem?_eq_some_iff.1 hfy).1; omega
        have hj : j < es[i].length := by
          have a1 := (List.getElem?_eq_some_iff.1 hyj).1
          have a2 := hl1 fy (List.mem_of_getElem? hfy)
          have a3 := h4 es[i] (List.getElem_mem hi')
          omega
        have hx : es[i]?.bind (·[j]?) = some es[i][j] := by simp [hi', hj]
        obtain ⟨v, a1, a2, a3⟩ := h5 i j _ hx
        exact ⟨v, a1, a2, ArgC.spec H hi a3 (hz i j _ y hx hy)⟩
      | @box e xs ys hl =>
        obtain ⟨l1, l2⟩ := hl.at
        obtain ⟨b, c, h1, h2, h3, h4, h5⟩ := o
        refine ⟨b, c, h1, h2, h3, by omega, fun i y hy => ?_⟩
        have hi' : i < xs.length := by have := (List.getElem?_eq_some_iff.1 hy).1; omega
        obtain ⟨a1, a2⟩ := h5 i xs[i] (by simp [hi'])
        exact ⟨a1, ArgC.spec H hi a2 (l2 i xs[i] y (by simp [hi']) hy)⟩
      | gn => exact o
  · obtain ⟨k, hk, hkb⟩ := hbk j b hj
    obtain ⟨k', hk', hkb'⟩ := hbk j' b hj'
    have := H.apart _ _ b hkb hkb'
    subst this
    have := hi _ _ hk hk' (.inr rfl)
    cases this
    rfl
  · obtain ⟨k, hk, hkb⟩ := hbk j b hj
    exact ⟨.inr ⟨(j, k), hk, hkb⟩, (H.lt k b hkb).2⟩
end

/-! ### Back -/
def swp (l : List (Nat × Nat)) : List (Nat × Nat) := l.map fun p => (p.2, p.1)
theorem swp_mem {l : List (Nat × Nat)} {j k : Nat} : (k, j) ∈ swp l ↔ (j, k) ∈ l := by
  unfold swp
  rw [List.mem_map]
  constructor
  · rintro ⟨⟨a, b⟩, h, e⟩
    cases e
    exact h
  · exact fun h => ⟨(j, k), h, rfl⟩
theorem swp_inj {l : List (Nat × Nat)} (h : inj l) : inj (swp l) := by
  rintro ⟨a, b⟩ ⟨c, d⟩ hp hq hpq
  have := h _ _ (swp_mem.1 hp) (swp_mem.1 hq) hpq.symm
  cases this
  rfl


inductive RetC (all : List (Nat × Nat)) (s1 s' : Sto) : AV → AV → Prop
  | fz {c : FV} : RetC all s1 s' (.fz c) (.fz c)
  | ow {j k u u' : Nat} (h : pick1 all j = some k) (hu : (s1 j).v = u) (hu' : (s' k).v = u') : RetC all s1 s' (.ow j u) (.ow k u')
  | pt {j k u u' off : Nat} (h : pick1 all j = some k) (hu : (s1 j).v = u) (hu' : (s' k).v = u') : RetC all s1 s' (.pt j u off) (.pt k u' off)
  | mp {j k u u' : Nat} (h : pick1 all j = some k) (hu : (s1 j).v = u) (hu' : (s' k).v = u') : RetC all s1 s' (.mp j u) (.mp k u')
  | er : RetC all s1 s' .er .er
  | xx {x : AV} : RetC all s1 s' x .xx
inductive RetL (all : List (Nat × Nat)) (s1 s' : Sto) : List AV → List AV → Prop
  | nil : RetL all s1 s' [] []
  | cons {x y : AV} {xs ys : List AV} (h : RetC all s1 s' x y) (t : RetL all s1 s' xs ys) : RetL all s1 s' (x :: xs) (y :: ys)
/-- A struct, a tuple of structs. -/
inductive RetV (all : List (Nat × Nat)) (s1 s' : Sto) : AV → AV → Prop
  | c {x y : AV} (h : RetC all s1 s' x y) : RetV all s1 s' x y
  | ag {xs ys : List AV} (h : RetL all s1 s' xs ys) : RetV all s1 s' (.ag xs) (.ag ys)
  | fn {f : FuncId} {xs ys : List AV} (h : RetL all s1 s' xs ys) : RetV all s1 s' (.fn f xs) (.fn f ys)
inductive RetM (all : List (Nat × Nat)) (s1 s' : Sto) : List AV → List AV → Prop
  | nil : RetM all s1 s' [] []
  | cons {x y : AV} {xs ys : List AV} (h : RetV all s1 s' x y) (t : RetM all s1 s' xs ys) : RetM all s1 s' (x :: xs) (y :: ys)
inductive RetT (all : List (Nat × Nat)) (s1 s' : Sto) : AV → AV → Prop
  | v {x y : AV} (h : RetV all s1 s' x y) : RetT all s1 s' x y
  | tu {xs ys : List AV} (h : RetM all s1 s' xs ys) : RetT all s1 s' (.tu xs) (.tu ys)
theorem RetL.at {all : List (Nat × Nat)} {s1 s' : Sto} {xs ys : List AV} (h : RetL all s1 s' xs ys) : xs.length = ys.length ∧ ∀ (i : Nat) (x y : AV), xs[i]? = some x → ys[i]? = some y → RetC all s1 s' x y := by
  induction h with
  | nil => exact ⟨rfl, fun i x y h => by simp at h⟩
  | cons h t ih =>
    refine ⟨by simp [ih.1], fun i x' y' hx hy => ?_⟩
    cases i with
    | zero => simp at hx hy; subst hx; subst hy; exact h
    | succ i => exact ih.2 i x' y' (by simpa using hx) (by simpa using hy)
theorem RetM.at {all : List (Nat × Nat)} {s1 s' : Sto} {xs ys : List AV} (h : RetM all s1 s' xs ys) : xs.length = ys.length ∧ ∀ (i : Nat) (x y : AV), xs[i]? = some x → ys[i]? = some y → RetV all s1 s' x y := by
  induction h with
  | nil => exact ⟨rfl, fun i x y h => by simp at h⟩
  | cons h t ih =>
    refine ⟨by simp [ih.1], fun i x' y' hx hy => ?_⟩
    cases i with
    | zero => simp at hx hy; subst hx; subst hy; exact h
    | succ i => exact ih.2 i x' y' (by simpa using hx) (by simpa using hy)
theorem RetL.all {all : List (Nat × Nat)} {s1 s' : Sto} : ∀ {xs : List AV}, xs.all isFz = true → RetL all s1 s' xs xs
  | [], _ => .nil
  | x :: xs, h => by
    simp only [List.all_cons, Bool.and_eq_true] at h
    refine .cons ?_ (RetL.all h.2)
    cases x <;> first | exact .fz | (exact absurd h.1 (by simp [isFz]))
inductive RetOb (all : List (Nat × Nat)) (s1 s' : Sto) : Ob → Ob → Prop
  | no : RetOb all s1 s' .no .no
  | row {e sz : Nat} {es : List (List FV)} : RetOb all s1 s' (.row e sz es) (.row e sz es)
  | rowA {e sz : Nat} {es fs : List (List AV)} (hl : es.length = fs.length) (h1 : ∀ x ∈ fs, x.length = sz) (h : ∀ (i j : Nat) (x y : AV), es[i]?.bind (·[j]?) = some x → fs[i]?.bind (·[j]?) = some y → RetC all s1 s' x y) : RetOb all s1 s' (.rowA e sz es) (.rowA e sz fs)
  | box {e : Nat} {xs ys : List AV} (h : RetL all s1 s' xs ys) : RetOb all s1 s' (.box e xs) (.box e ys)
  | gn {φ : Go.Obj → Prop} : RetOb all s1 s' (.gn φ) (.gn φ)
structure RetOk (s s0 s1 s' : Sto) (ps ns : List (Nat × Nat)) : Prop where
  pass : ∀ j k, (j, k) ∈ ps → ((s k).v ≤ (s' k).v ∧ ((s' k).v = (s k).v → (s1 j).v = (s0 j).v)) ∧ RetOb (ps ++ ns) s1 s' (s1 j).o (s' k).o
  new : ∀ j k, (j, k) ∈ ns → (s k).v < (s' k).v ∧ RetOb (ps ++ ns) s1 s' (s1 j).o (s' k).o
  rest : ∀ k, (∀ p, p ∈ ps ++ ns → p.2 ≠ k) → s' k = s k
  gone : ∀ j, (∀ p, p ∈ ps ++ ns → p.1 ≠ j) → (s1 j).o = .no

section
variable {P : Program} {C : Ctx P} {s s0 s1 s' : Sto} {w w' : World} {h h2 : Nat → Value} {bk bk2 : Nat → Option Nat} {pass new : List (Nat × Nat)}
def hBack (h h2 : Nat → Value) (all : List (Nat × Nat)) : Nat → Value := fun k => match pick1 (swp all) k with | some j => h2 j | none => h k
def bkBack (bk bk2 : Nat → Option Nat) (all : List (Nat × Nat)) : Nat → Option Nat := fun k => match pick1 (swp all) k with | some j => bk2 j | none => bk k
theorem back_at {all : List (Nat × Nat)} (hi : inj all) {j k : Nat} (hm : (j, k) ∈ all) : hBack h h2 all k = h2 j ∧ bkBack bk bk2 all k = bk2 j := by
  have := pick1_of (swp_inj hi) (swp_mem.2 hm)
  unfold hBack bkBack
  rw [this]
  exact ⟨rfl, rfl⟩
theorem back_out {all : List (Nat × Nat)} {k : Nat} (hn : pick1 (swp all) k = none) : hBack h h2 all k = h k ∧ bkBack bk bk2 all k = bk k := by
  unfold hBack bkBack
  rw [hn]
  exact ⟨rfl, rfl⟩
theorem back_none {all : List (Nat × Nat)} {k : Nat} (hn : pick1 (swp all) k = none) : ∀ p, p ∈ all → p.2 ≠ k := by
  rintro ⟨j, k'⟩ hp
  exact pick1_none _ _ hn (k', j) (swp_mem.2 hp)

theorem back (H : HeapOk C s w h bk) (hi : inj (pass ++ new)) (H2 : HeapOk (callee C w h bk s0 pass H) s1 w' h2 bk2) (R : RetOk s s0 s1 s' pass new) :
    HeapOk C s' w' (hBack h h2 (pass ++ new)) (bkBack bk bk2 (pass ++ new)) ∧
      (∀ v x, Rel C s w h bk v x → Rel C s' w' (hBack h h2 (pass ++ new)) (bkBack bk bk2 (pass ++ new)) v x) ∧
      ∀ v x y, Rel (callee C w h bk s0 pass H) s1 w' h2 bk2 v x → RetT (pass ++ new) s1 s' x y → Rel C s' w' (hBack h h2 (pass ++ new)) (bkBack bk bk2 (pass ++ new)) v y := by
  have hsz : w.heap.size ≤ w'.heap.size := H2.below.size
  -- where an object of the caller is after the call
  have cases_own : ∀ {k b}, bkBack bk bk2 (pass ++ new) k = some b → (∃ j, (j, k) ∈ pass ++ new ∧ bk2 j = some b) ∨ (pick1 (swp (pass ++ new)) k = none ∧ bk k = some b) := by
    intro k b hb
    cases hp : pick1 (swp (pass ++ new)) k with
    | none => exact .inr ⟨rfl, by rw [(back_out (bk := bk) (bk2 := bk2) (h := h) (h2 := h2) hp).2] at hb; exact hb⟩
    | some j =>
      have hm := swp_mem.1 (pick1_mem _ _ _ hp)
      exact .inl ⟨j, hm, by rw [(back_at (h := h) (h2 := h2) (bk := bk) (bk2 := bk2) hi hm).2] at hb; exact hb⟩
  have given_own : ∀ {b}, given bk pass b → Own bk b := fun ⟨p, _, hp⟩ => ⟨p.2, hp⟩
  have old2 : ∀ {j b}, bk2 j = some b → b < w.heap.size → given bk pass b := by
    intro j b hb hlt
    rcases (H2.lt j b hb).1 with h1 | h1
    · have : w.heap.size ≤ b := h1
      omega
    · exact h1
  have hown : ∀ b, b < w.heap.size → ¬ Own bk b → ¬ Own (bkBack bk bk2 (pass ++ new)) b := by
    rintro b hb hn ⟨k, hk⟩
    rcases cases_own hk with ⟨j, _, hj⟩ | ⟨_, hk⟩
    · exact hn (given_own (old2 hj hb))
    · exact hn ⟨k, hk⟩
  have hmut : ∀ b, b < w.heap.size → ¬ C.Mut bk b → ¬ C.Mut (bkBack bk bk2 (pass ++ new)) b := by
    rintro b hb hn (h1 | h1)
    · exact hn (.inl h1)
    · exact hown b hb (fun h3 => hn (.inr h3)) h1
  have hsame : ∀ b, b < w.heap.size → ¬ given bk pass b → w'.heap[b]? = w.heap[b]? := fun b hb hn => H2.old b hb hn
  have hM2 : ∀ b, C.Mut (bkBack bk bk2 (pass ++ new)) b → (callee C w h bk s0 pass H).Mut bk2 b := by
    rintro b (h1 | ⟨k, hk⟩)
    · refine .inl ⟨.inl h1, ?_⟩
      rintro ⟨p, _, hp⟩
      rcases (H.lt _ b hp).1 with h3 | h3
      · have := C.hM b h1; omega
      · exact (C.hA b h3).2 h1
    · rcases cases_own hk with ⟨j, _, hj⟩ | ⟨hn, hk⟩
      · exact .inr ⟨j, hj⟩
      · refine .inl ⟨.inr ⟨k, hk⟩, ?_⟩
        rintro ⟨p, hp, hpb⟩
        exact back_none hn p (List.mem_append.2 (.inl hp)) (H.apart _ _ b hpb hk)
  have hv : ∀ k, (s k).v ≤ (s' k).v := by
    intro k
    cases hp : pick1 (swp (pass ++ new)) k with
    | none => rw [R.rest k (back_none hp)]; exact Nat.le_refl _
    | some j =>
      rcases List.mem_append.1 (swp_mem.1 (pick1_mem _ _ _ hp)) with hm | hm
      · exact (R.pass j k hm).1.1
      · exact Nat.le_of_lt (R.new j k hm).1
  have hip : inj pass := fun p q hp hq => hi p q (List.mem_append.2 (.inl hp)) (List.mem_append.2 (.inl hq))
  have hvs : ∀ k, (s' k).v = (s k).v → hBack h h2 (pass ++ new) k = h k ∧ bkBack bk bk2 (pass ++ new) k = bk k := by
    intro k e
    cases hp : pick1 (swp (pass ++ new)) k with
    | none => exact back_out hp
    | some j =>
      have hm := swp_mem.1 (pick1_mem _ _ _ hp)
      rcases List.mem_append.1 hm with hm' | hm'
      · have h1 := (R.pass j k hm').1
        have h2' := H2.mono j
        have h3 : (s1 j).v = (s0 j).v := h1.2 e
        have h4 := h2'.2 h3
        rw [(back_at (h := h) (h2 := h2) (bk := bk) (bk2 := bk2) hi hm).1, (back_at (h := h) (h2 := h2) (bk := bk) (bk2 := bk2) hi hm).2, h4.1, h4.2]
        constructor
        · show (match pick1 pass j with | some k => h k | none => undef) = h k
          rw [pick1_of hip hm']
        · show (pick1 pass j).bind bk = bk k
          rw [pick1_of hip hm']
          rfl
      · have := (R.new j k hm').1
        omega
  have hrel : ∀ v x, Rel C s w h bk v x → Rel C s' w' (hBack h h2 (pass ++ new)) (bkBack bk bk2 (pass ++ new)) v x := fun v x r =>
    RelA.keep r (fun b hb hn => hsame b hb (fun hg => hn (given_own hg))) (fun b hb => .inr hb) hmut hown hv hvs
  have hretC : ∀ v x y, Rel (callee C w h bk s0 pass H) s1 w' h2 bk2 v x → RetC (pass ++ new) s1 s' x y → Rel C s' w' (hBack h h2 (pass ++ new)) (bkBack bk bk2 (pass ++ new)) v y := by
    intro v x y r q
    cases q with
    | fz => cases r with | fz hx => exact .fz (hx.less hM2)
    | @ow j k u u' hm hu hu' =>
      subst hu'
      cases r with
      | ow j u o1 _ hv => exact .ow k _ o1 (Nat.le_refl _) (fun _ => by rw [hv hu]; exact (back_at (bk := bk) (bk2 := bk2) hi (pick1_mem _ _ _ hm)).1.symm)
    | @pt j k u u' off hm hu hu' =>
      subst hu'
      cases r with
      | pt j u off o1 _ hv =>
        obtain ⟨b, hb, rfl⟩ := hv hu
        exact .pt k _ off o1 (Nat.le_refl _) (fun _ => ⟨b, by rw [(back_at (h := h) (h2 := h2) hi (pick1_mem _ _ _ hm)).2]; exact hb, rfl⟩)
    | @mp j k u u' hm hu hu' =>
      subst hu'
      cases r with
      | mp j u o1 _ hv =>
        obtain ⟨b, hb, rfl⟩ := hv hu
        exact .mp k _ o1 (Nat.le_refl _) (fun _ => ⟨b, by rw [(back_at (h := h) (h2 := h2) hi (pick1_mem _ _ _ hm)).2]; exact hb, rfl⟩)
    | er => cases r with | er t x => exact .er t x
    | xx => exact .xx v
  have hretV : ∀ v x y, Rel (callee C w h bk s0 pass H) s1 w' h2 bk2 v x → RetV (pass ++ new) s1 s' x y → Rel C s' w' (hBack h h2 (pass ++ new)) (bkBack bk bk2 (pass ++ new)) v y := by
    intro v x y r q
    cases q with
    | c q => exact hretC v x y r q
    | @ag xs ys hl =>
      obtain ⟨l1, l2⟩ := hl.at
      cases r with
      | ag arr cs hs hr =>
        refine .ag arr ys (by omega) (fun i y hy => ?_)
        have hi' : i < xs.length := by have := (List.getElem?_eq_some_iff.1 hy).1; omega
        exact hretC _ xs[i] y (hr i xs[i] (by simp [hi'])) (l2 i xs[i] y (by simp [hi']) hy)
    | @fn f xs ys hl =>
      obtain ⟨l1, l2⟩ := hl.at
      cases r with
      | fn f arr cs hs hr =>
        refine .fn f arr ys (by omega) (fun i y hy => ?_)
        have hi' : i < xs.length := by have := (List.getElem?_eq_some_iff.1 hy).1; omega
        exact hretC _ xs[i] y (hr i xs[i] (by simp [hi'])) (l2 i xs[i] y (by simp [hi']) hy)
  have hret : ∀ v x y, Rel (callee C w h bk s0 pass H) s1 w' h2 bk2 v x → RetT (pass ++ new) s1 s' x y → Rel C s' w' (hBack h h2 (pass ++ new)) (bkBack bk bk2 (pass ++ new)) v y := by
    intro v x y r q
    cases q with
    | v q => exact hretV v x y r q
    | @tu xs ys hl =>
      obtain ⟨l1, l2⟩ := hl.at
      cases r with
      | tu arr cs hs hr =>
        refine .tu arr ys (by omega) (fun i y hy => ?_)
        have hi' : i < xs.length := by have := (List.getElem?_eq_some_iff.1 hy).1; omega
        exact hretV _ xs[i] y (hr i xs[i] (by simp [hi'])) (l2 i xs[i] y (by simp [hi']) hy)
  refine ⟨⟨H.below.trans H2.below, fun b hb hA => ?_, fun k => ?_, fun k => ⟨Nat.le_trans (H.mono k).1 (hv k), fun e => ?_⟩, fun k k' b hk hk' => ?_, fun k b hk => ?_⟩, hrel, hret⟩
  · have h0 := H.below.size
    rw [hsame b (by omega) (fun hg => ?_)]
    · exact H.old b hb hA
    · obtain ⟨p, _, hp⟩ := hg
      rcases (H.lt _ b hp).1 with h3 | h3
      · omega
      · exact hA h3
  · cases hp : pick1 (swp (pass ++ new)) k with
    | some j =>
      have hm := swp_mem.1 (pick1_mem _ _ _ hp)
      have ho : RetOb (pass ++ new) s1 s' (s1 j).o (s' k).o := (List.mem_append.1 hm).elim (fun h => (R.pass j k h).2) (fun h => (R.new j k h).2)
      have o := H2.obj j
      unfold ObjOk at o ⊢
      rw [(back_at (h := h) (h2 := h2) (bk := bk) (bk2 := bk2) hi hm).1, (back_at (h := h) (h2 := h2) (bk := bk) (bk2 := bk2) hi hm).2]
      generalize (s1 j).o = o1 at o ho
      generalize (s' k).o = o2 at ho ⊢
      cases ho with
      | no => exact o
      | row =>
        obtain ⟨xs, h1, h2', h3, h4, h5⟩ := o
        refine ⟨xs, h1, h2', h3, h4, fun i j x hx => ?_⟩
        obtain ⟨v, a1, a2, a3⟩ := h5 i j x hx
        exact ⟨v, a1, a2, a3.less hM2⟩
      | @rowA e sz es fs hl hl1 hz =>
        obtain ⟨xs, h1, h2', h3, h4, h5⟩ := o
        refine ⟨xs, by rw [← hl]; exact h1, h2', h3, hl1, fun i j y hy => ?_⟩
        obtain ⟨fy, hfy, hyj⟩ := Option.bind_eq_some_iff.1 hy
        have hi' : i < es.length := by have := (List.getElem?_eq_some_iff.1 hfy).1; omega
        have hj : j < es[i].length := by
          have a1 := (List.getElem?_eq_some_iff.1 hyj).1
          have a2 := hl1 fy (List.mem_of_getElem? hfy)
          have a3 := h4 es[i] (List.getElem_mem hi')
          omega
        have hx : es[i]?.bind (·[j]?) = some es[i][j] := by simp [hi', hj]
        obtain ⟨v, a1, a2, a3⟩ := h5 i j _ hx
        exact ⟨v, a1, a2, hretC _ _ _ a3 (hz i j _ y hx hy)⟩
      | @box e xs ys hl =>
        obtain ⟨l1, l2⟩ := hl.at
        obtain ⟨b, c, h1, h2', h3, h4, h5⟩ := o
        refine ⟨b, c, h1, h2', h3, by omega, fun i y hy => ?_⟩
        have hi' : i < xs.length := by have := (List.getElem?_eq_some_iff.1 hy).1; omega
        obtain ⟨a1, a2⟩ := h5 i xs[i] (by simp [hi'])
        exact ⟨a1, hretC _ _ _ a2 (l2 i xs[i] y (by simp [hi']) hy)⟩
      | gn => exact o
    | none =>
      have ho := H.obj k
      have hne : ∀ g, bk k = some g → w'.heap[g]? = w.heap[g]? := fun g hg => hsame g (H.lt k g hg).2 (by
        rintro ⟨p, hp', hpb⟩
        exact back_none hp p (List.mem_append.2 (.inl hp')) (H.apart _ _ g hpb hg))
      unfold ObjOk at ho ⊢
      rw [R.rest k (back_none hp), (back_out (h := h) (h2 := h2) (bk := bk) (bk2 := bk2) hp).1, (back_out (h := h) (h2 := h2) (bk := bk) (bk2 := bk2) hp).2]
      cases hob : (s k).o with
      | no => rw [hob] at ho; exact ho
      | row e sz es =>
        rw [hob] at ho
        obtain ⟨xs, h2', h3, h4, h5, h6⟩ := ho
        refine ⟨xs, ownsRow_congr h2' (fun g hg => hne g (by rw [h4]; exact hg)), h3, h4, h5, fun i m x hx => ?_⟩
        obtain ⟨v, h7, h8, h9⟩ := h6 i m x hx
        exact ⟨v, h7, h8, h9.keep (fun b hb hn => hsame b hb (fun hg => hn (.inr (given_own hg)))) hmut⟩
      | rowA e sz es =>
        rw [hob] at ho
        obtain ⟨xs, h2', h3, h4, h5, h6⟩ := ho
        refine ⟨xs, ownsRow_congr h2' (fun g hg => hne g (by rw [h4]; exact hg)), h3, h4, h5, fun i m x hx => ?_⟩
        obtain ⟨v, h7, h8, h9⟩ := h6 i m x hx
        exact ⟨v, h7, h8, hrel v x h9⟩
      | gn φ =>
        rw [hob] at ho
        obtain ⟨b, o, h2', h3, h4, h5⟩ := ho
        exact ⟨b, o, h2', h3, by rw [hne b h2']; exact h4, h5⟩
      | box e cs =>
        rw [hob] at ho
        obtain ⟨b, c, h2', h3, h4, h5, h6⟩ := ho
        exact ⟨b, c, h2', h3, by rw [hne b h2']; exact h4, h5, fun i x hx => ⟨(h6 i x hx).1, hrel _ _ (h6 i x hx).2⟩⟩
  · have h1 := (H.mono k).1
    have h2' := hv k
    have h3 : (s k).v = (C.s0 k).v := by omega
    have h4 := hvs k (by omega)
    have h5 := (H.mono k).2 h3
    exact ⟨h4.1.trans h5.1, h4.2.trans h5.2⟩
  · have mixed : ∀ {k k' : Nat} {j : Nat}, (j, k) ∈ pass ++ new → bk2 j = some b → pick1 (swp (pass ++ new)) k' = none → bk k' = some b → False := by
      intro k k' j _ hj hn hk'
      obtain ⟨p, hp, hpb⟩ := old2 hj (H.lt _ b hk').2
      exact back_none hn p (List.mem_append.2 (.inl hp)) (H.apart _ _ b hpb hk')
    rcases cases_own hk with ⟨j, hm, hj⟩ | ⟨hn, hk⟩ <;> rcases cases_own hk' with ⟨j', hm', hj'⟩ | ⟨hn', hk'⟩
    · have := H2.apart _ _ b hj hj'
      subst this
      have := hi _ _ hm hm' (.inl rfl)
      cases this
      rfl
    · exact (mixed hm hj hn' hk').elim
    · exact (mixed hm' hj' hn hk).elim
    · exact H.apart _ _ b hk hk'
  · rcases cases_own hk with ⟨j, hm, hj⟩ | ⟨hn, hk⟩
    · refine ⟨?_, (H2.lt j b hj).2⟩
      rcases (H2.lt j b hj).1 with h1 | h1
      · have : w.heap.size ≤ b := h1
        have := H.below.size
        exact .inl (by omega)
      · obtain ⟨p, _, hp⟩ := h1
        exact (H.lt _ b hp).1
    · exact ⟨(H.lt k b hk).1, by have := (H.lt k b hk).2; omega⟩
end

def callable (P : Program) (f : FuncId) : Bool :=
  match P.funcs[f]? with
  | some fn => fn.body.isSome && !(fn.name == "runtime.NumGoroutine")
  | none => false

theorem run_call {P : Program} {f : FuncId} (hc : callable P f = true) (args : Array Value) (w : World) : (callFunc f args).run P w = .ok (.enter f args) w := by
  unfold callable at hc
  cases hf : P.funcs[f]? with
  | none => rw [hf] at hc; cases hc
  | some fn =>
    rw [hf] at hc
    simp only [Bool.and_eq_true, Bool.not_eq_true', beq_eq_false_iff_ne] at hc
    simp [callFunc, program, Sem.run, hf, hc.2]
    intro hb
    simp [hb] at hc

theorem Rel.fn_nil {P : Program} {C : Ctx P} {s : Sto} {w : World} {h : Nat → Value} {bk : Nat → Option Nat} {v : Value} {f : FuncId} (r : Rel C s w h bk v (.fn f [])) : v = .func (.func f) #[] #[] := by
  cases r with
  | fn f arr cs hs _ =>
    have : arr = #[] := Array.eq_empty_of_size_eq_zero (by simpa using hs)
    rw [this]


/-- One by one: what comes back of an object. -/
inductive RetsL (s s0 s1 s' : Sto) (ks : Nat → Bool) (all : List (Nat × Nat)) : List (Nat × Nat) → Prop
  | nil : RetsL s s0 s1 s' ks all []
  | same {j k : Nat} {l : List (Nat × Nat)} (hm : ks k = true) (hv : (s' k).v = (s k).v) (hv0 : (s1 j).v = (s0 j).v) (h : RetOb all s1 s' (s1 j).o (s' k).o) (t : RetsL s s0 s1 s' ks all l) : RetsL s s0 s1 s' ks all ((j, k) :: l)
  | more {j k : Nat} {l : List (Nat × Nat)} (hm : ks k = true) (hv : (s' k).v = (s k).v + 1) (h : RetOb all s1 s' (s1 j).o (s' k).o) (t : RetsL s s0 s1 s' ks all l) : RetsL s s0 s1 s' ks all ((j, k) :: l)
inductive NewsL (s s1 s' : Sto) (ks : Nat → Bool) (all : List (Nat × Nat)) : List (Nat × Nat) → Prop
  | nil : NewsL s s1 s' ks all []
  | more {j k : Nat} {l : List (Nat × Nat)} (hm : ks k = true) (hv : (s' k).v = (s k).v + 1) (h : RetOb all s1 s' (s1 j).o (s' k).o) (t : NewsL s s1 s' ks all l) : NewsL s s1 s' ks all ((j, k) :: l)
theorem RetsL.at {s s0 s1 s' : Sto} {ks : Nat → Bool} {all l : List (Nat × Nat)} (h : RetsL s s0 s1 s' ks all l) : ∀ j k, (j, k) ∈ l → ks k = true ∧ ((s k).v ≤ (s' k).v ∧ ((s' k).v = (s k).v → (s1 j).v = (s0 j).v)) ∧ RetOb all s1 s' (s1 j).o (s' k).o := by
  induction h with
  | nil => intro j k h; cases h
  | same hm hv hv0 h t ih =>
    intro j k hjk
    rcases List.mem_cons.1 hjk with e | h'
    · cases e; exact ⟨hm, ⟨by omega, fun _ => hv0⟩, h⟩
    · exact ih j k h'
  | more hm hv h t ih =>
    intro j k hjk
    rcases List.mem_cons.1 hjk with e | h'
    · cases e; exact ⟨hm, ⟨by omega, fun e => by omega⟩, h⟩
    · exact ih j k h'
theorem NewsL.at {s s1 s' : Sto} {ks : Nat → Bool} {all l : List (Nat × Nat)} (h : NewsL s s1 s' ks all l) : ∀ j k, (j, k) ∈ l → ks k = true ∧ (s k).v < (s' k).v ∧ RetOb all s1 s' (s1 j).o (s' k).o := by
  induction h with
  | nil => intro j k h; cases h
  | more hm hv h t ih =>
    intro j k hjk
    rcases List.mem_cons.1 hjk with e | h'
    · cases e; exact ⟨hm, by omega, h⟩
    · exact ih j k h'

theorem app_out : ∀ (l : List (Nat × Ent)) (s : Sto) (k : Nat), (∀ p, p ∈ l → p.1 ≠ k) → (s.app l) k = s k
  | [], _, _, _ => rfl
  | (k', e) :: l, s, k, h => by
    unfold Sto.app
    rw [app_out l _ k (fun p hp => h p (List.mem_cons_of_mem _ hp)), Sto.set_ne _ _ (fun e' => h (k', e) List.mem_cons_self e'.symm)]
theorem app_in : ∀ (l : List (Nat × Ent)) (s s' : Sto) (k : Nat), (∃ p, p ∈ l ∧ p.1 = k) → (s.app l) k = (s'.app l) k
  | [], _, _, _, h => by obtain ⟨p, hp, _⟩ := h; cases hp
  | (k', e) :: l, s, s', k, h => by
    unfold Sto.app
    by_cases hl : ∃ p, p ∈ l ∧ p.1 = k
    · exact app_in l _ _ k hl
    · have hn : ∀ p, p ∈ l → p.1 ≠ k := fun p hp e => hl ⟨p, hp, e⟩
      rw [app_out l _ k hn, app_out l _ k hn]
      obtain ⟨p, hp, hpk⟩ := h
      rcases List.mem_cons.1 hp with rfl | hp
      · simp only at hpk
        subst hpk
        rw [Sto.set_same, Sto.set_same]
      · exact absurd hpk (hn p hp)

/-- every key of O is handed -/
def cover (O : List (Nat × Ob)) (all : List (Nat × Nat)) : Bool := O.all fun o => all.any fun p => Nat.beq p.1 o.1
theorem cover_spec {O : List (Nat × Ob)} {all : List (Nat × Nat)} (h : cover O all = true) : ∀ j, (∀ p, p ∈ all → p.1 ≠ j) → lookO O j = .no := by
  intro j hj
  induction O with
  | nil => rfl
  | cons o O ih =>
    obtain ⟨k, ob⟩ := o
    unfold cover at h
    simp only [List.all_cons, Bool.and_eq_true] at h
    show (bif Nat.beq j k then ob else lookO O j) = .no
    have hne : j ≠ k := by
      rintro rfl
      obtain ⟨p, hp, hpe⟩ := List.any_eq_true.1 h.1
      exact hj p hp (Nat.eq_of_beq_eq_true hpe)
    rw [beq_ne hne]
    exact ih h.2
def sndIn (eff : List (Nat × Ent)) (all : List (Nat × Nat)) : Bool := eff.all fun e => all.any fun p => Nat.beq p.2 e.1
theorem sndIn_spec {eff : List (Nat × Ent)} {all : List (Nat × Nat)} (h : sndIn eff all = true) : ∀ k, (∀ p, p ∈ all → p.2 ≠ k) → ∀ e, e ∈ eff → e.1 ≠ k := by
  rintro k hk e he rfl
  obtain ⟨p, hp, hpe⟩ := List.any_eq_true.1 (List.all_eq_true.1 h e he)
  exact hk p hp (Nat.eq_of_beq_eq_true hpe)
def effIn (eff : List (Nat × Ent)) (all : List (Nat × Nat)) : Bool := all.all fun p => eff.any fun e => Nat.beq p.2 e.1
theorem effIn_spec {eff : List (Nat × Ent)} {all : List (Nat × Nat)} (h : effIn eff all = true) : ∀ p, p ∈ all → ∃ e, e ∈ eff ∧ e.1 = p.2 := by
  intro p hp
  obtain ⟨e, he, hpe⟩ := List.any_eq_true.1 (List.all_eq_true.1 h p hp)
  exact ⟨e, he, (Nat.eq_of_beq_eq_true hpe).symm⟩

section
variable {P : Program} {C : Ctx P} {dst : Option Nat} {ty : Nat} {pos : String} {af : Array Edge} {gd : Option (Nat × Bool)} {s : Sto} {ρA : Operand → AV}
/-- A call: what is handed over, what comes back. -/
theorem D.callG {f : FuncId} {args : List Operand} {ts : Array TypeId} {g0 g1 : Nat → Nat} {O0 O1 : List (Nat × Ob)} {ys : List AV} {res x : AV} {eff : List (Nat × Ent)} (hfn : Fn P f (stoF g0 O0) ys (stoF g1 O1) res) (hcal : callable P f = true) (hf : ρA (.func f) = .fn f [])
    (ps ns : List (Nat × Nat)) (ks : List Nat) (ha : ArgsOk s (stoF g0 O0) (memK ks) ps ρA args ys) (hi : injB (ps ++ ns) = true) (h0 : cover O0 ps = true) (hp : PassL s (stoF g0 O0) (memK ks) ps ps)
    (h1 : cover O1 (ps ++ ns) = true) (he : sndIn eff (ps ++ ns) = true) (he' : effIn eff (ps ++ ns) = true) (hR : RetsL s (stoF g0 O0) (stoF g1 O1) (s.app eff) (memK ks) (ps ++ ns) ps) (hN : NewsL s (stoF g1 O1) (s.app eff) (memK ks) (ps ++ ns) ns) (hx : RetT (ps ++ ns) (stoF g1 O1) (s.app eff) res x) :
    Dz C ⟨dst, .call { callee := .value (.func f), args := ⟨args⟩, argTypes := ts }, ty, pos, af, gd⟩ s ρA x eff ks := by
  intro s2 hag ρ w h bk H hr a next Q k
  have hag' : ∀ k, memK ks k = true → s2 k = s k := by
    have key : ∀ (ks : List Nat) k, memK ks k = true → k ∈ ks := by
      intro ks
      induction ks with
      | nil => intro k h; cases h
      | cons m l ih =>
        intro k h
        unfold memK at h
        by_cases e : k = m
        · subst e; exact List.mem_cons_self
        · rw [beq_ne e] at h; exact List.mem_cons_of_mem _ (ih k h)
    exact fun k hk => hag k (key ks k hk)
  have hinj := injB_spec _ hi
  have hip : inj ps := fun p q hp hq => hinj p q (List.mem_append.2 (.inl hp)) (List.mem_append.2 (.inl hq))
  have ha2 := ha.congr hag'
  have hp2 : PassOk s2 (stoF g0 O0) (memK ks) ps := ⟨fun j k hjk => (hp.congr hag').at j k hjk, fun j hj => cover_spec h0 j hj⟩
  have happ : ∀ p, p ∈ ps ++ ns → (s2.app eff) p.2 = (s.app eff) p.2 := fun p hp' => by
    obtain ⟨e, he1, he2⟩ := effIn_spec he' p hp'
    exact app_in eff _ _ _ ⟨e, he1, he2⟩
  have retC : ∀ {x y : AV}, RetC (ps ++ ns) (stoF g1 O1) (s.app eff) x y → RetC (ps ++ ns) (stoF g1 O1) (s2.app eff) x y := by
    intro x y h
    cases h with
    | fz => exact .fz
    | ow h hu hu' => exact .ow h hu (by rw [happ _ (pick1_mem _ _ _ h)]; exact hu')
    | pt h hu hu' => exact .pt h hu (by rw [happ _ (pick1_mem _ _ _ h)]; exact hu')
    | mp h hu hu' => exact .mp h hu (by rw [happ _ (pick1_mem _ _ _ h)]; exact hu')
    | er => exact .er
    | xx => exact .xx
  have retL : ∀ {xs ys : List AV}, RetL (ps ++ ns) (stoF g1 O1) (s.app eff) xs ys → RetL (ps ++ ns) (stoF g1 O1) (s2.app eff) xs ys := by
    intro xs ys h
    induction h with
    | nil => exact .nil
    | cons h t ih => exact .cons (retC h) ih
  have retV : ∀ {x y : AV}, RetV (ps ++ ns) (stoF g1 O1) (s.app eff) x y → RetV (ps ++ ns) (stoF g1 O1) (s2.app eff) x y := by
    intro x y h
    cases h with
    | c h => exact .c (retC h)
    | ag h => exact .ag (retL h)
    | fn h => exact .fn (retL h)
  have retM : ∀ {xs ys : List AV}, RetM (ps ++ ns) (stoF g1 O1) (s.app eff) xs ys → RetM (ps ++ ns) (stoF g1 O1) (s2.app eff) xs ys := by
    intro xs ys h
    induction h with
    | nil => exact .nil
    | cons h t ih => exact .cons (retV h) ih
  have hx2 : RetT (ps ++ ns) (stoF g1 O1) (s2.app eff) res x := by
    cases hx with
    | v h => exact .v (retV h)
    | tu h => exact .tu (retM h)
  have retO : ∀ {x y : Ob}, RetOb (ps ++ ns) (stoF g1 O1) (s.app eff) x y → RetOb (ps ++ ns) (stoF g1 O1) (s2.app eff) x y := by
    intro x y h
    cases h with
    | no => exact .no
    | row => exact .row
    | rowA hl h1 h => exact .rowA hl h1 (fun i j x y hx hy => retC (h i j x y hx hy))
    | box h => exact .box (retL h)
    | gn => exact .gn
  have hR2 : RetOk s2 (stoF g0 O0) (stoF g1 O1) (s2.app eff) ps ns := by
    refine ⟨fun j k hjk => ?_, fun j k hjk => ?_, fun k hk => app_out _ _ _ (sndIn_spec he k hk), fun j hj => cover_spec h1 j hj⟩
    · obtain ⟨a1, a2, a3⟩ := hR.at j k hjk
      rw [happ (j, k) (List.mem_append.2 (.inl hjk)), hag' k a1]
      exact ⟨a2, retO a3⟩
    · obtain ⟨a1, a2, a3⟩ := hN.at j k hjk
      rw [happ (j, k) (List.mem_append.2 (.inr hjk)), hag' k a1]
      exact ⟨a2, retO a3⟩
  have hcv : ρ (.func f) = .func (.func f) #[] #[] := by
    have r := hr (.func f) (by show Operand.func f ∈ #[Operand.func f] ++ (⟨args⟩ : Array Operand); exact Array.mem_append.2 (.inl (by simp)))
    rw [hf] at r
    exact Rel.fn_nil r
  have hrun : (execOp ρ ⟨dst, .call { callee := .value (.func f), args := ⟨args⟩, argTypes := ts }, ty, pos, af, gd⟩).run P w = .ok (.enter f ((⟨args⟩ : Array Operand).map ρ)) w := by
    simp [execOp, resolve, hcv, Deferred.ofValue, invoke, run_call hcal]
  rw [hrun]
  show Calls P f ((⟨args⟩ : Array Operand).map ρ) w _
  obtain ⟨l1, l2⟩ := ha2.at
  have hlen : (args.map ρ).length = ys.length := by simpa using l1
  have harr : (⟨args⟩ : Array Operand).map ρ = (args.map ρ).toArray := by simp
  rw [harr]
  refine (hfn (callee C w h bk (stoF g0 O0) ps H) rfl (callee_ok H hip hp2) (args.map ρ) hlen (fun i y hy => ?_)).mono ?_
  · have hi' : i < args.length := by have := (List.getElem?_eq_some_iff.1 hy).1; omega
    have hpi : args[i]? = some args[i] := List.getElem?_eq_getElem hi'
    have hmem : args[i] ∈ (Op.call { callee := .value (.func f), args := ⟨args⟩, argTypes := ts }).operands := by
      show args[i] ∈ #[Operand.func f] ++ (⟨args⟩ : Array Operand)
      exact Array.mem_append.2 (.inr (by simp))
    have e1 : (args.map ρ).getD i undef = ρ args[i] := by
      rw [List.getD_eq_getElem?_getD, List.getElem?_map, hpi]
      rfl
    rw [e1]
    exact ArgV.spec H hip (hr _ hmem) (l2 i _ y hpi hy)
  · rintro e w' ⟨v, h2, bk2, rfl, H2, hv⟩
    obtain ⟨a1, a2, a3⟩ := back H hinj H2 hR2
    exact k v w' _ _ a1 a2 (fun _ => a3 v res x hv hx2)

theorem cover_nil : ∀ (O : List (Nat × Ob)), O = [] → ∀ j, lookO O j = .no := by rintro _ rfl j; rfl
/-- A call that hands nothing over. -/
theorem D.call0 {f : FuncId} {args : List Operand} {ts : Array TypeId} {g0 : Nat → Nat} {ys : List AV} {x : AV} (hfn : Fn P f (stoF g0 []) ys (stoF g0 []) x) (hcal : callable P f = true) (hf : ρA (.func f) = .fn f [])
    (ks : List Nat) (ha : ArgsOk s (stoF g0 []) (memK ks) [] ρA args ys) (hx : RetT [] (stoF g0 []) s x x) : Dz C ⟨dst, .call { callee := .value (.func f), args := ⟨args⟩, argTypes := ts }, ty, pos, af, gd⟩ s ρA x [] ks :=
  D.callG hfn hcal hf [] [] ks ha rfl rfl .nil rfl rfl rfl .nil .nil hx
end

end Go.SL
