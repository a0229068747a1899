/- S-logic, part 1: abstract values, how they stand for the machine's, what a change of the world leaves. -/
import Derived.Orders
import Derived.Below
import Derived.Maps.AppendAt
set_option linter.unusedVariables false
set_option linter.unusedSimpArgs false
namespace Go.SL
open Go.RowKit

/-- A value that nobody will write: what it is, a slice by its elements' cells. -/
inductive FV where
  | sc (v : Value)
  | ls (sz : Nat) (es : List (List FV))

/-- A temporary's value. op: the first n of such a row; mp: a map of the call's own; er: an interface value that isn't nil. ow: the header of a row of the call's own (object k at stamp u); pt: a pointer to cell off of object k; br: a slice that is read only; pe: a pointer to cells that are read only; fc: a slice without spare room. -/
inductive AV where
  | fz (x : FV)
  | br (sz : Nat) (es : List (List FV))
  | ow (k u : Nat)
  | op (k u n : Nat)
  | pt (k u off : Nat)
  | mp (k u : Nat)
  | ud
  | er
  | pe (cs : List FV)
  | fc (sz : Nat) (es : List (List FV))
  | ag (cs : List AV)
  | tu (cs : List AV)
  | fn (f : FuncId) (cs : List AV)
  | xx
  deriving Inhabited

inductive Ob where
  | no
  | row (e sz : Nat) (es : List (List FV))
  | rowA (e sz : Nat) (es : List (List AV))
  | box (e : Nat) (cs : List AV)
  | gn (φ : Go.Obj → Prop)

structure Ent where
  v : Nat
  o : Ob

abbrev Sto := Nat → Ent
def Sto.empty : Sto := fun _ => ⟨0, .no⟩
def Sto.set (s : Sto) (k : Nat) (e : Ent) : Sto := fun j => bif Nat.beq j k then e else s j
theorem Sto.set_same (s : Sto) (k : Nat) (e : Ent) : s.set k e k = e := by simp [Sto.set]
theorem Sto.set_ne (s : Sto) {k j : Nat} (e : Ent) (h : j ≠ k) : s.set k e j = s j := by
  have : Nat.beq j k = false := by cases hb : Nat.beq j k with
    | false => rfl
    | true => exact absurd (Nat.eq_of_beq_eq_true hb) h
  simp [Sto.set, this]

/-- Value v is x in world w; M: the blocks that may be written. -/
inductive RelF (w : World) (M : Nat → Prop) : Value → FV → Prop
  | sc (v : Value) (h1 : v.oneCell' = true) : RelF w M v (.sc v)
  | emp (A : Option Addr) (c sz : Nat) (hA : A = none → c = 0) : RelF w M (.slice A 0 c) (.ls sz [])
  | ls (b o c sz n : Nat) (es : List (List FV)) (f : Nat → Nat → Value) (hn : n = es.length) (hne : es ≠ []) (hsz : 0 < sz) (hc : n ≤ c) (hm : c ≤ maxLen) (hM : ¬ M b)
      (hl : ∀ x ∈ es, x.length = sz)
      (hcell : ∀ i j, i < es.length → j < sz → w.cell? ⟨b, o + (i * sz + j), none⟩ = some (f i j) ∧ (f i j).oneCell' = true)
      (hrel : ∀ i j x, es[i]?.bind (·[j]?) = some x → RelF w M (f i j) x) : RelF w M (.slice (some ⟨b, o, none⟩) n c) (.ls sz es)

theorem lt_of_cell {w : World} {b o : Nat} {v : Value} (h : w.cell? ⟨b, o, none⟩ = some v) : b < w.heap.size := World.block_lt_of_cell? w ⟨b, o, none⟩ h

theorem cell_congr {w w' : World} {b o : Nat} (h : w'.heap[b]? = w.heap[b]?) : w'.cell? ⟨b, o, none⟩ = w.cell? ⟨b, o, none⟩ := by
  unfold World.cell?; simp only [h]

theorem RelF.keep {w w' : World} {M M' : Nat → Prop} {v : Value} {x : FV} (h : RelF w M v x)
    (hw : ∀ b, b < w.heap.size → ¬ M b → w'.heap[b]? = w.heap[b]?) (hM : ∀ b, b < w.heap.size → ¬ M b → ¬ M' b) : RelF w' M' v x := by
  induction h with
  | sc v h1 => exact .sc v h1
  | emp A c sz hA => exact .emp A c sz hA
  | ls b o c sz n es f hn hne hsz hc hm hMa hl hcell _ ih =>
    have hb : b < w.heap.size := by
      have h0 : 0 < es.length := List.length_pos_iff.2 hne
      exact lt_of_cell (hcell 0 0 h0 hsz).1
    refine .ls b o c sz n es f hn hne hsz hc hm (hM _ hb hMa) hl (fun i j hi hj => ?_) ih
    rw [cell_congr (hw _ hb hMa)]
    exact hcell i j hi hj

/-- Fewer cells are asked to stay. -/
theorem RelF.less {w : World} {M M' : Nat → Prop} {v : Value} {x : FV} (h : RelF w M v x) (hM : ∀ b, M' b → M b) : RelF w M' v x :=
  h.keep (fun _ _ _ => rfl) (fun b _ hb hb' => hb (hM b hb'))

inductive RelA (w : World) (M L : Nat → Prop) (s : Sto) (h : Nat → Value) (bk : Nat → Option Nat) : Value → AV → Prop
  | fz {v : Value} {x : FV} (hx : RelF w M v x) : RelA w M L s h bk v (.fz x)
  | brn (A : Option Addr) (c sz : Nat) (hA : A = none → c = 0) : RelA w M L s h bk (.slice A 0 c) (.br sz [])
  | br (b o c sz n : Nat) (es : List (List FV)) (f : Nat → Nat → Value) (hn : n = es.length) (hne : es ≠ []) (hsz : 0 < sz) (hc : n ≤ c) (hm : c ≤ maxLen) (hL : ¬ L b)
      (hl : ∀ x ∈ es, x.length = sz)
      (hcell : ∀ i j, i < es.length → j < sz → w.cell? ⟨b, o + (i * sz + j), none⟩ = some (f i j) ∧ (f i j).oneCell' = true)
      (hrel : ∀ i j x, es[i]?.bind (·[j]?) = some x → RelF w M (f i j) x) : RelA w M L s h bk (.slice (some ⟨b, o, none⟩) n c) (.br sz es)
  | ow {v : Value} (k u : Nat) (h1 : v.oneCell' = true) (hu : u ≤ (s k).v) (hv : (s k).v = u → v = h k) : RelA w M L s h bk v (.ow k u)
  | op {v : Value} (k u n : Nat) (h1 : v.oneCell' = true) (hu : u ≤ (s k).v) (hv : (s k).v = u → ∃ A m c, h k = .slice A m c ∧ v = .slice A n c) : RelA w M L s h bk v (.op k u n)
  | mp {v : Value} (k u : Nat) (h1 : v.oneCell' = true) (hu : u ≤ (s k).v) (hv : (s k).v = u → ∃ b, bk k = some b ∧ v = .map (some b)) : RelA w M L s h bk v (.mp k u)
  | ud {v : Value} (hv : v = undef) : RelA w M L s h bk v .ud
  | er (t : TypeId) (x : Value) : RelA w M L s h bk (.iface t x) .er
  | pt {v : Value} (k u off : Nat) (h1 : v.oneCell' = true) (hu : u ≤ (s k).v) (hv : (s k).v = u → ∃ b, bk k = some b ∧ v = .pointer (some ⟨b, off, none⟩)) : RelA w M L s h bk v (.pt k u off)
  | fc (A : Option Addr) (n sz : Nat) (es : List (List FV)) (hx : RelF w M (.slice A n n) (.ls sz es)) : RelA w M L s h bk (.slice A n n) (.fc sz es)
  | pe (b o : Nat) (cs : List FV) (f : Nat → Value) (hL : cs ≠ [] → ¬ L b)
      (hcell : ∀ j, j < cs.length → w.cell? ⟨b, o + j, none⟩ = some (f j) ∧ (f j).oneCell' = true) (hrel : ∀ j x, cs[j]? = some x → RelF w M (f j) x) : RelA w M L s h bk (.pointer (some ⟨b, o, none⟩)) (.pe cs)
  | ag (arr : Array Value) (cs : List AV) (hs : arr.size = cs.length) (hr : ∀ i x, cs[i]? = some x → RelA w M L s h bk (arr.getD i undef) x) : RelA w M L s h bk (.agg arr) (.ag cs)
  | tu (arr : Array Value) (cs : List AV) (hs : arr.size = cs.length) (hr : ∀ i x, cs[i]? = some x → RelA w M L s h bk (arr.getD i undef) x) : RelA w M L s h bk (.tuple arr) (.tu cs)
  | fn (f : FuncId) (arr : Array Value) (cs : List AV) (hs : arr.size = cs.length) (hr : ∀ i x, cs[i]? = some x → RelA w M L s h bk (arr.getD i undef) x) : RelA w M L s h bk (.func (.func f) #[] arr) (.fn f cs)
  | xx (v : Value) : RelA w M L s h bk v .xx

theorem RelA.ud_inv {w : World} {M L : Nat → Prop} {s : Sto} {h : Nat → Value} {bk : Nat → Option Nat} {v : Value} {x : AV} (r : RelA w M L s h bk v x) (e : x = .ud) : v = undef := by
  cases r with
  | ud hv => exact hv
  | _ => cases e

/-- What stays of a temporary when object k changes. -/
theorem RelA.keep {w w' : World} {M M' L L' : Nat → Prop} {s s' : Sto} {h h' : Nat → Value} {bk bk' : Nat → Option Nat} {v : Value} {x : AV} (r : RelA w M L s h bk v x)
    (hw : ∀ b, b < w.heap.size → ¬ L b → w'.heap[b]? = w.heap[b]?) (hML : ∀ b, L b → M b)
    (hM : ∀ b, b < w.heap.size → ¬ M b → ¬ M' b) (hL : ∀ b, b < w.heap.size → ¬ L b → ¬ L' b)
    (hst : ∀ k, (s k).v ≤ (s' k).v) (hsame : ∀ k, (s' k).v = (s k).v → h' k = h k ∧ bk' k = bk k) : RelA w' M' L' s' h' bk' v x := by
  have hwM : ∀ b, b < w.heap.size → ¬ M b → w'.heap[b]? = w.heap[b]? := fun b hb hm => hw b hb (fun hl => hm (hML b hl))
  induction r with
  | fz hx => exact .fz (hx.keep hwM hM)
  | brn A c sz hA => exact .brn A c sz hA
  | br b o c sz n es f hn hne hsz hc hm hLa hl hcell hrel =>
    have hb : b < w.heap.size := by
      have h0 : 0 < es.length := List.length_pos_iff.2 hne
      exact lt_of_cell (hcell 0 0 h0 hsz).1
    refine .br b o c sz n es f hn hne hsz hc hm (hL _ hb hLa) hl (fun i j hi hj => ?_) (fun i j x hx => (hrel i j x hx).keep hwM hM)
    rw [cell_congr (hw _ hb hLa)]
    exact hcell i j hi hj
  | ow k u h1 hu hv =>
    refine .ow k u h1 (Nat.le_trans hu (hst k)) (fun e => ?_)
    have e1 : (s' k).v = (s k).v := Nat.le_antisymm (by omega) (hst k)
    rw [(hsame k e1).1]
    exact hv (by omega)
  | op k u n h1 hu hv =>
    refine .op k u n h1 (Nat.le_trans hu (hst k)) (fun e => ?_)
    have e1 : (s' k).v = (s k).v := Nat.le_antisymm (by omega) (hst k)
    rw [(hsame k e1).1]
    exact hv (by omega)
  | mp k u h1 hu hv =>
    refine .mp k u h1 (Nat.le_trans hu (hst k)) (fun e => ?_)
    have e1 : (s' k).v = (s k).v := Nat.le_antisymm (by omega) (hst k)
    rw [(hsame k e1).2]
    exact hv (by omega)
  | ud hv => exact .ud hv
  | er t x => exact .er t x
  | pt k u off h1 hu hv =>
    refine .pt k u off h1 (Nat.le_trans hu (hst k)) (fun e => ?_)
    have e1 : (s' k).v = (s k).v := Nat.le_antisymm (by omega) (hst k)
    rw [(hsame k e1).2]
    exact hv (by omega)
  | fc A n sz es hx => exact .fc A n sz es (hx.keep hwM hM)
  | pe b o cs f hLa hcell hrel =>
    by_cases hcs : cs = []
    · subst hcs
      exact .pe b o [] f (fun h => absurd rfl h) (fun j hj => absurd hj (by simp)) (fun j x hx => by simp at hx)
    have h0 : 0 < cs.length := List.length_pos_iff.2 hcs
    have hb : b < w.heap.size := lt_of_cell (hcell 0 h0).1
    refine .pe b o cs f (fun _ => hL _ hb (hLa hcs)) (fun j hj => ?_) (fun j x hx => (hrel j x hx).keep hwM hM)
    rw [cell_congr (hw _ hb (hLa hcs))]
    exact hcell j hj
  | ag arr cs hs _ ih => exact .ag arr cs hs ih
  | tu arr cs hs _ ih => exact .tu arr cs hs ih
  | fn f arr cs hs _ ih => exact .fn f arr cs hs ih
  | xx v => exact .xx v

/-- Object o is what stands at header v, block b. -/
def ObjOk (w : World) (B : Nat) (M L : Nat → Prop) (s : Sto) (h : Nat → Value) (bk : Nat → Option Nat) (k : Nat) : Prop :=
  match (s k).o with
  | .no => bk k = none
  | .row e sz es => ∃ xs, w.ownsRow B e sz (h k) es.length xs ∧ 0 < sz ∧ bk k = (h k).ownBlock ∧ (∀ x ∈ es, x.length = sz) ∧
      ∀ i j x, es[i]?.bind (·[j]?) = some x → ∃ v, xs[i * sz + j]? = some v ∧ v.oneCell' = true ∧ RelF w M v x
  | .rowA e sz es => ∃ xs, w.ownsRow B e sz (h k) es.length xs ∧ 0 < sz ∧ bk k = (h k).ownBlock ∧ (∀ x ∈ es, x.length = sz) ∧
      ∀ i j x, es[i]?.bind (·[j]?) = some x → ∃ v, xs[i * sz + j]? = some v ∧ v.oneCell' = true ∧ RelA w M L s h bk v x
  | .gn φ => ∃ b o, bk k = some b ∧ B ≤ b ∧ w.heap[b]? = some o ∧ φ o
  | .box e cs => ∃ b c, bk k = some b ∧ B ≤ b ∧ w.heap[b]? = some (.cells c e (0, 0)) ∧ c.size = cs.length ∧ ∀ i x, cs[i]? = some x → (c.getD i undef).oneCell' = true ∧ RelA w M L s h bk (c.getD i undef) x

structure Ctx (P : Program) where
  w0 : World
  M : Nat → Prop
  A : Nat → Prop
  hM : ∀ b, M b → b < w0.heap.size
  hA : ∀ b, A b → b < w0.heap.size ∧ ¬ M b
  s0 : Sto
  h0 : Nat → Value
  bk0 : Nat → Option Nat

def Own (bk : Nat → Option Nat) (b : Nat) : Prop := ∃ k, bk k = some b
def Ctx.Mut {P : Program} (C : Ctx P) (bk : Nat → Option Nat) (b : Nat) : Prop := C.M b ∨ Own bk b

/-- The heap's part. -/
structure HeapOk {P : Program} (C : Ctx P) (s : Sto) (w : World) (h : Nat → Value) (bk : Nat → Option Nat) : Prop where
  below : Below 0 C.w0 w
  old : ∀ b, b < C.w0.heap.size → ¬ C.A b → w.heap[b]? = C.w0.heap[b]?
  obj : ∀ k, ObjOk w 0 (C.Mut bk) (Own bk) s h bk k
  mono : ∀ k, (C.s0 k).v ≤ (s k).v ∧ ((s k).v = (C.s0 k).v → h k = C.h0 k ∧ bk k = C.bk0 k)
  apart : ∀ k k' b, bk k = some b → bk k' = some b → k = k'
  lt : ∀ k b, bk k = some b → (C.w0.heap.size ≤ b ∨ C.A b) ∧ b < w.heap.size

def Rel {P : Program} (C : Ctx P) (s : Sto) (w : World) (h : Nat → Value) (bk : Nat → Option Nat) (v : Value) (x : AV) : Prop := RelA w (C.Mut bk) (Own bk) s h bk v x

def lookT : List (Nat × AV) → Nat → AV
  | [], _ => .xx
  | (m, x) :: l, n => bif Nat.beq n m then x else lookT l n
theorem lookT_cons (m : Nat) (x : AV) (l : List (Nat × AV)) (n : Nat) : lookT ((m, x) :: l) n = if n = m then x else lookT l n := by
  show (bif Nat.beq n m then x else lookT l n) = _
  by_cases h : n = m
  · subst h; simp
  · have : Nat.beq n m = false := by cases hb : Nat.beq n m with
      | false => rfl
      | true => exact absurd (Nat.eq_of_beq_eq_true hb) h
    simp [this, h]
structure St where
  t : List (Nat × AV)
  s : Sto
def St.put (σ : St) (d : Option Nat) (x : AV) : St := match d with | some d => ⟨(d, x) :: σ.t, σ.s⟩ | none => σ

structure Sim {P : Program} (C : Ctx P) (N : Nat) (σ : St) (a : Act) (w : World) : Prop where mk ::
  ex : ∃ h bk, HeapOk C σ.s w h bk ∧ a.defers = [] ∧ a.tmps.size = N ∧ ∀ n, n < N → Rel C σ.s w h bk (a.tmps.getD n undef) (lookT σ.t n)

end Go.SL
