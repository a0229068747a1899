/- S-logic: the steps of printed texts. -/
import Derived.Test.YtgihpfidacjogaaDoorSlI
set_option linter.unusedVariables false
set_option linter.unusedSimpArgs false
namespace Go.SL
open Go.RowKit

def agree (g : Nat → Nat) : List Nat → (Nat → Nat) → Prop
  | [], _ => True
  | k :: l, f => f k = g k ∧ agree g l f
theorem agree_refl (g : Nat → Nat) : ∀ l, agree g l g
  | [] => trivial
  | _ :: l => ⟨rfl, agree_refl g l⟩
/-- The state is this one, at some stamps; those of hs are g's. -/
def At (g : Nat → Nat) (hs : List Nat) (L : (Nat → Nat) → List (Nat × AV)) (O : (Nat → Nat) → List (Nat × Ob)) (σ : St) : Prop := ∃ f, agree g hs f ∧ σ = ⟨L f, stoF f (O f)⟩

section
variable {P : Program} {C : Ctx P} {N : Nat} {t : List (Nat × AV)} {s : Sto} {Q : Exit → St → Prop} {g : Nat → Nat} {hs : List Nat} {L : (Nat → Nat) → List (Nat × AV)} {O : (Nat → Nat) → List (Nat × Ob)}
theorem EW.less {c : Code} (ks : List Nat) (h : ∀ σ', At g hs L O σ' → EW C N c σ' Q) (hf : agree g hs (wkF s ks)) (hL : allLe s (stoF (wkF s ks) (O (wkF s ks))) (memK ks) t (L (wkF s ks))) (hO : allOb s (stoF (wkF s ks) (O (wkF s ks))) (memK ks) ks (O (wkF s ks))) : EW C N c ⟨t, s⟩ Q := fun a w hS => h _ ⟨_, hf, rfl⟩ a w (Sim.less ks _ hL hO hS)
theorem EWL.less {c : Code} (ks : List Nat) (h : ∀ σ', At g hs L O σ' → EWL C N c σ' Q) (hf : agree g hs (wkF s ks)) (hL : allLe s (stoF (wkF s ks) (O (wkF s ks))) (memK ks) t (L (wkF s ks))) (hO : allOb s (stoF (wkF s ks) (O (wkF s ks))) (memK ks) ks (O (wkF s ks))) : EWL C N c ⟨t, s⟩ Q := fun a w hS => h _ ⟨_, hf, rfl⟩ a w (Sim.less ks _ hL hO hS)
theorem EOps.less {ops : Array Oper} {l : List Oper} {K : St → Prop} (ks : List Nat) (h : ∀ σ', At g hs L O σ' → EOps C N ops l σ' K) (hf : agree g hs (wkF s ks)) (hL : allLe s (stoF (wkF s ks) (O (wkF s ks))) (memK ks) t (L (wkF s ks))) (hO : allOb s (stoF (wkF s ks) (O (wkF s ks))) (memK ks) ks (O (wkF s ks))) : EOps C N ops l ⟨t, s⟩ K := fun a w hS => h _ ⟨_, hf, rfl⟩ a w (Sim.less ks _ hL hO hS)
theorem EW.skipA (ks : List Nat) (hq : ∀ σ', At g hs L O σ' → Q .normal σ') (hf : agree g hs (wkF s ks)) (hL : allLe s (stoF (wkF s ks) (O (wkF s ks))) (memK ks) t (L (wkF s ks))) (hO : allOb s (stoF (wkF s ks) (O (wkF s ks))) (memK ks) ks (O (wkF s ks))) : EW C N .skip ⟨t, s⟩ Q := EW.less ks (fun σ' h => EW.skip (hq σ' h)) hf hL hO
theorem EW.retA (ks : List Nat) (hq : ∀ σ', At g hs L O σ' → Q .ret σ') (hf : agree g hs (wkF s ks)) (hL : allLe s (stoF (wkF s ks) (O (wkF s ks))) (memK ks) t (L (wkF s ks))) (hO : allOb s (stoF (wkF s ks) (O (wkF s ks))) (memK ks) ks (O (wkF s ks))) : EW C N .ret ⟨t, s⟩ Q := EW.less ks (fun σ' h => EW.ret (hq σ' h)) hf hL hO
theorem EW.exitA {id : Nat} (ks : List Nat) (hq : ∀ σ', At g hs L O σ' → Q (.exit id) σ') (hf : agree g hs (wkF s ks)) (hL : allLe s (stoF (wkF s ks) (O (wkF s ks))) (memK ks) t (L (wkF s ks))) (hO : allOb s (stoF (wkF s ks) (O (wkF s ks))) (memK ks) ks (O (wkF s ks))) : EW C N (.exit id) ⟨t, s⟩ Q := EW.less ks (fun σ' h => EW.exit (hq σ' h)) hf hL hO
theorem EOps.nilA {ops : Array Oper} {K : St → Prop} (ks : List Nat) (hq : ∀ σ', At g hs L O σ' → K σ') (hf : agree g hs (wkF s ks)) (hL : allLe s (stoF (wkF s ks) (O (wkF s ks))) (memK ks) t (L (wkF s ks))) (hO : allOb s (stoF (wkF s ks) (O (wkF s ks))) (memK ks) ks (O (wkF s ks))) : EOps C N ops [] ⟨t, s⟩ K := EOps.less ks (fun σ' h => EOps.nil (hq σ' h)) hf hL hO
end

section
variable {P : Program} {C : Ctx P} {N : Nat} {t : List (Nat × AV)} {s : Sto} {Q : Exit → St → Prop}
theorem EW.condT {n : Nat} {x y : Code} {b : Bool} (hn : Nat.blt n N = true) (hl : lookT t n = .fz (.sc (.bool b))) (hb : b = true) (h : EW C N x ⟨t, s⟩ Q) : EW C N (.cond (.tmp n) x y) ⟨t, s⟩ Q :=
  EW.cond (Nat.le_of_ble_eq_true hn) hl (fun _ => h) (fun h' => by rw [hb] at h'; cases h')
theorem EW.condF {n : Nat} {x y : Code} {b : Bool} (hn : Nat.blt n N = true) (hl : lookT t n = .fz (.sc (.bool b))) (hb : b = false) (h : EW C N y ⟨t, s⟩ Q) : EW C N (.cond (.tmp n) x y) ⟨t, s⟩ Q :=
  EW.cond (Nat.le_of_ble_eq_true hn) hl (fun h' => by rw [hb] at h'; cases h') (fun _ => h)
/-- Code that ends in one way at the end of all. -/
theorem EW.bj {σ : St} (J : St → Prop) {x : Code} (h1 : EW C N x σ (thenQ J Q)) (h2 : ∀ σ', J σ' → Q .normal σ') : EW C N x σ Q :=
  EW.mono h1 (fun e σ' h => by
    cases e with
    | normal => exact h2 σ' h
    | exit id => exact h
    | goto l => exact h
    | ret => exact h
    | panic c => exact h
    | outgrown => exact h)
/-- Two ways that meet again within a region. -/
def ETo {P : Program} (C : Ctx P) (N : Nat) (ops : Array Oper) (l : List Oper) (m : Nat) (σ : St) (J : St → Prop) : Prop := ∀ K : St → Prop, (∀ σ', J σ' → EOps C N ops (l.drop m) σ' K) → EOps C N ops l σ K
theorem EOps.fork {ops : Array Oper} {l : List Oper} {σ : St} {K : St → Prop} (J : St → Prop) (m : Nat) (b : Bool) (h1 : b = true → ETo C N ops l m σ J) (h2 : b = false → ETo C N ops l m σ J) (h : ∀ σ', J σ' → EOps C N ops (l.drop m) σ' K) : EOps C N ops l σ K := by
  cases b with
  | true => exact h1 rfl K h
  | false => exact h2 rfl K h
end

theorem bs_ {α β : Type} {o : Option α} {f : α → Option β} {y : β} (h : (o >>= f) = some y) : ∃ x, o = some x ∧ f x = some y := Option.bind_eq_some_iff.1 h
theorem it {α : Type} {b : Bool} {x y : Option α} {r : α} (h : (if b = true then x else y) = some r) : (b = true ∧ x = some r) ∨ (b = false ∧ y = some r) := by
  cases b with
  | true => exact .inl ⟨rfl, h⟩
  | false => exact .inr ⟨rfl, h⟩
theorem bsp (b : Bool) : b = true ∨ b = false := by cases b <;> simp

/-! ### Where in the code -/
def cSub : Code → Nat → Code
  | .seq a _, 0 => a
  | .seq _ b, _ => b
  | .cond _ a _, 0 => a
  | .cond _ _ b, _ => b
  | .block _ a, _ => a
  | .loop a, _ => a
  | c, _ => c
def cAt (c : Code) : List Nat → Code
  | [] => c
  | i :: l => cAt (cSub c i) l
def bAt (fn : Func) (l : List Nat) : Code := match fn.body with
  | some c => cAt c l
  | none => .skip

/-! ### Short words -/
abbrev aI (x : Int) : AV := .fz (.sc (.int .i64 x))
abbrev aU (x : UInt8) : AV := .fz (.sc (.int .u8 (x.toNat : Int)))
abbrev aB (x : Bool) : AV := .fz (.sc (.bool x))
abbrev aS (x : List UInt8) : AV := .fz (.sc (.string (bs x)))
abbrev aL {α : Type} (sz : Nat) (enc : α → List FV) (x : List α) : AV := .fz (.ls sz (x.map enc))
abbrev aR {α : Type} (sz : Nat) (enc : α → List FV) (x : List α) : AV := .br sz (x.map enc)
abbrev fI (x : Int) : FV := .sc (.int .i64 x)
abbrev fU (x : UInt8) : FV := .sc (.int .u8 (x.toNat : Int))
abbrev fB (x : Bool) : FV := .sc (.bool x)
abbrev fS (x : List UInt8) : FV := .sc (.string (bs x))
abbrev fL {α : Type} (sz : Nat) (enc : α → List FV) (x : List α) : FV := .ls sz (x.map enc)
abbrev nilA : AV := .fz (.sc (.slice none 0 0))
abbrev eI (x : Int) : List FV := [fI x]
abbrev eU (x : UInt8) : List FV := [fU x]
abbrev eB (x : Bool) : List FV := [fB x]
abbrev eS (x : List UInt8) : List FV := [fS x]
abbrev eL {α : Type} (sz : Nat) (enc : α → List FV) (x : List α) : List FV := [fL sz enc x]
abbrev oR {α : Type} (e sz : Nat) (enc : α → List FV) (x : List α) : Ob := .row e sz (x.map enc)

/-! ### A function -/
/-- The end of a function. -/
abbrev FQ (g : Nat → Nat) (hs : List Nat) (L : (Nat → Nat) → List (Nat × AV)) (O : (Nat → Nat) → List (Nat × Ob)) : Exit → St → Prop := fun e σ => (e = .normal ∨ e = .ret) ∧ At g hs L O σ
def bumpF (g : Nat → Nat) (bs : List Nat) : Nat → Nat := fun k => bif memK bs k then g k + 1 else g k
/-- What comes out, object by object. -/
inductive RestL (g f : Nat → Nat) (s s1 : Sto) (ks : Nat → Bool) (bs : List Nat) : List Nat → Prop
  | nil : RestL g f s s1 ks bs []
  | same {k : Nat} {l : List Nat} (hb : memK bs k = false) (h : f k = g k) (ho : OutOb s s1 ks (s k).o (s1 k).o) (t : RestL g f s s1 ks bs l) : RestL g f s s1 ks bs (k :: l)
  | more {k : Nat} {l : List Nat} (hb : memK bs k = true) (ho : OutOb s s1 ks (s k).o (s1 k).o) (t : RestL g f s s1 ks bs l) : RestL g f s s1 ks bs (k :: l)
theorem RestL.at {g f : Nat → Nat} {s s1 : Sto} {ks : Nat → Bool} {bs l : List Nat} (h : RestL g f s s1 ks bs l) : ∀ k, memK l k = true → (memK bs k = true ∨ (memK bs k = false ∧ f k = g k)) ∧ OutOb s s1 ks (s k).o (s1 k).o := by
  induction h with
  | nil => intro k h; cases h
  | @same k0 l hb h ho t ih =>
    intro k hk
    unfold memK at hk
    by_cases e : k = k0
    · subst e; exact ⟨.inr ⟨hb, h⟩, ho⟩
    · rw [beq_ne e] at hk; exact ih k hk
  | @more k0 l hb ho t ih =>
    intro k hk
    unfold memK at hk
    by_cases e : k = k0
    · subst e; exact ⟨.inl hb, ho⟩
    · rw [beq_ne e] at hk; exact ih k hk
def keysIn (O : List (Nat × Ob)) (l : List Nat) : Bool := O.all fun o => memK l o.1
theorem keysIn_spec {O : List (Nat × Ob)} {l : List Nat} (h : keysIn O l = true) : ∀ k, memK l k = false → lookO O k = .no := by
  intro k hk
  induction O with
  | nil => rfl
  | cons o O ih =>
    obtain ⟨j, ob⟩ := o
    unfold keysIn at h
    simp only [List.all_cons, Bool.and_eq_true] at h
    show (bif Nat.beq k j then ob else lookO O k) = .no
    have hne : k ≠ j := by rintro rfl; rw [hk] at h; simp at h
    rw [beq_ne hne]
    exact ih h.2
def subK (a b : List Nat) : Bool := a.all fun k => memK b k
theorem subK_spec {a b : List Nat} (h : subK a b = true) : ∀ k, memK a k = true → memK b k = true := by
  induction a with
  | nil => intro k h; cases h
  | cons x a ih =>
    unfold subK at h
    simp only [List.all_cons, Bool.and_eq_true] at h
    intro k hk
    unfold memK at hk
    by_cases e : k = x
    · subst e; exact h.1
    · rw [beq_ne e] at hk; exact ih h.2 k hk
theorem Rest.of {g f : Nat → Nat} {O0 Or O1 : List (Nat × Ob)} {bs kl : List Nat} (h : RestL g f (stoF f Or) (stoF (bumpF g bs) O1) (memK kl) bs kl) (h0 : keysIn O0 kl = true) (h1 : keysIn O1 kl = true) (hb : subK bs kl = true) : Rest (stoF g O0) (stoF f Or) (stoF (bumpF g bs) O1) (memK kl) := by
  intro k
  cases hk : memK kl k with
  | true =>
    rw [if_pos rfl]
    obtain ⟨a1, a2⟩ := h.at k hk
    refine ⟨?_, a2⟩
    show g k ≤ bumpF g bs k ∧ (bumpF g bs k = g k → f k = g k)
    unfold bumpF
    rcases a1 with a1 | ⟨a1, a3⟩
    · rw [a1]; exact ⟨Nat.le_succ _, fun e => by simp at e⟩
    · rw [a1]; exact ⟨Nat.le_refl _, fun _ => a3⟩
  | false =>
    simp only [Bool.false_eq_true, if_false]
    have hn : memK bs k = false := by
      cases hm : memK bs k with
      | false => rfl
      | true => rw [subK_spec hb k hm] at hk; cases hk
    refine ⟨?_, keysIn_spec h0 k hk⟩
    show (⟨bumpF g bs k, lookO O1 k⟩ : Ent) = ⟨g k, lookO O0 k⟩
    rw [keysIn_spec h0 k hk, keysIn_spec h1 k hk]
    unfold bumpF
    rw [hn]
    rfl
/-- A function: its code, what is at its end, what of that comes out. -/
theorem Fn.of {P : Program} {n : FuncId} {fn : Func} {N : Nat} {args : List AV} {res : AV} {g : Nat → Nat} {hs bs kl : List Nat} {O0 O1 : List (Nat × Ob)} {L : (Nat → Nat) → List (Nat × AV)} {O : (Nat → Nat) → List (Nat × Ob)} (hf : P.funcs[n]? = some fn) (hb : fn.body.isSome = true) (hN : fn.ntmps = N) (hargs : Nat.ble args.length N = true)
    (hres : ∀ f, agree g hs f → RestL g f (stoF f (O f)) (stoF (bumpF g bs) O1) (memK kl) bs kl ∧ ResV P N ⟨L f, stoF f (O f)⟩ (stoF (bumpF g bs) O1) (memK kl) fn.results.toList res) (h0 : keysIn O0 kl = true) (h1 : keysIn O1 kl = true) (hb' : subK bs kl = true)
    (h : ∀ C : Ctx P, EW C N (bAt fn []) ⟨numT 0 args, stoF g O0⟩ (FQ g hs L O)) : Fn P n (stoF g O0) args (stoF (bumpF g bs) O1) res := by
  obtain ⟨c, hc⟩ := Option.isSome_iff_exists.1 hb
  refine Fn.intro (memK kl) hf hc hN (Nat.le_of_ble_eq_true hargs) (fun C => ?_)
  have h2 : EW C N c ⟨numT 0 args, stoF g O0⟩ (FQ g hs L O) := by
    have := h C
    unfold bAt at this
    rw [hc] at this
    exact this
  refine EW.mono h2 (fun e σ hh => ⟨hh.1, ?_⟩)
  obtain ⟨f, hfa, hσ⟩ := hh.2
  subst hσ
  obtain ⟨a1, a2⟩ := hres f hfa
  exact ⟨Rest.of a1 h0 h1 hb', a2⟩

/-! ### A length, and what is known of it -/
section
variable {P : Program} {C : Ctx P} {N : Nat} {ops : Array Oper} {ty d u k sz e : Nat} {ps : String} {af : Array Edge} {l : List Oper} {t : List (Nat × AV)} {s : Sto} {K : St → Prop} {p : Operand} {α : Type} {enc : α → List FV} {xs : List α} {n : Nat}
theorem EOps.know {φ : Prop} {σ : St} (h : ∀ a w, Sim C N σ a w → φ) (hr : φ → EOps C N ops l σ K) : EOps C N ops l σ K := fun a w hs => hr (h a w hs) a w hs
theorem len_of_rel {h : Nat → Value} {bk : Nat → Option Nat} {w : World} {v : Value} (r : Rel C s w h bk v (.fz (.ls sz (xs.map enc)))) : xs.length ≤ 9223372036854775807 := by
  generalize hes : xs.map enc = es at r
  have hl : xs.length = es.length := by rw [← hes]; simp
  rw [hl]
  cases r with
  | fz hx => cases hx with
    | emp A c sz hA => exact Nat.zero_le _
    | ls b o c sz n es f hn hne hsz hc hm =>
      simp only [maxLen] at hm
      omega
theorem len_of_br {h : Nat → Value} {bk : Nat → Option Nat} {w : World} {v : Value} (r : Rel C s w h bk v (.br sz (xs.map enc))) : xs.length ≤ 9223372036854775807 := by
  generalize hes : xs.map enc = es at r
  have hl : xs.length = es.length := by rw [← hes]; simp
  rw [hl]
  cases r with
  | brn A c sz hA => exact Nat.zero_le _
  | br b o c sz n es f hn hne hsz hc hm =>
    simp only [maxLen] at hm
    omega
theorem EOps.klen (m : Nat) (hm : Nat.blt m N = true) (hp : lookT t m = .fz (.ls sz (xs.map enc))) (hr : xs.length ≤ 9223372036854775807 → EOps C N ops l ⟨t, s⟩ K) : EOps C N ops l ⟨t, s⟩ K :=
  EOps.know (φ := xs.length ≤ 9223372036854775807) (fun a w hs => by
    obtain ⟨h, bk, H, hdf, hN, ht⟩ := hs
    have r := ht m (Nat.le_of_ble_eq_true hm)
    rw [hp] at r
    exact len_of_rel r) hr
theorem EOps.klenB (m : Nat) (hm : Nat.blt m N = true) (hp : lookT t m = .br sz (xs.map enc)) (hr : xs.length ≤ 9223372036854775807 → EOps C N ops l ⟨t, s⟩ K) : EOps C N ops l ⟨t, s⟩ K :=
  EOps.know (φ := xs.length ≤ 9223372036854775807) (fun a w hs => by
    obtain ⟨h, bk, H, hdf, hN, ht⟩ := hs
    have r := ht m (Nat.le_of_ble_eq_true hm)
    rw [hp] at r
    exact len_of_br r) hr
end

end Go.SL
