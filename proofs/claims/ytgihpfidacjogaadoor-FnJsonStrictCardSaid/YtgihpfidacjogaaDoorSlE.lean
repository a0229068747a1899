/- S-logic, part 5: regions, control, the call from outside. -/
import Derived.Test.YtgihpfidacjogaaDoorSlD
import Derived.Tactics
set_option linter.unusedVariables false
set_option linter.unusedSimpArgs false
namespace Go.SL
open Go.RowKit

def cA : Value → AV
  | .agg cs => .ag (cs.toList.map fun v => .fz (.sc v))
  | .tuple _ => .xx
  | v => .fz (.sc v)
def cOk : Value → Bool
  | .agg cs => cs.toList.all (·.oneCell')
  | _ => true
theorem cA_spec {P : Program} {C : Ctx P} {s : Sto} {w : World} {h : Nat → Value} {bk : Nat → Option Nat} {v : Value} (hv : cOk v = true) : Rel C s w h bk v (cA v) := by
  cases v with
  | agg cs =>
    refine .ag cs _ (by simp) (fun i x hx => ?_)
    rw [List.getElem?_map] at hx
    obtain ⟨u, hu, rfl⟩ := Option.map_eq_some_iff.1 hx
    have e1 : cs.getD i undef = u := by
      have : cs[i]? = some u := by simpa using hu
      simp [Array.getD_eq_getD_getElem?, this]
    rw [e1]
    exact .fz (.sc u (List.all_eq_true.1 hv u (List.mem_of_getElem? hu)))
  | tuple vs => exact .xx _
  | bool => exact .fz (.sc _ rfl)
  | int => exact .fz (.sc _ rfl)
  | float => exact .fz (.sc _ rfl)
  | complex => exact .fz (.sc _ rfl)
  | string => exact .fz (.sc _ rfl)
  | pointer => exact .fz (.sc _ rfl)
  | slice => exact .fz (.sc _ rfl)
  | map => exact .fz (.sc _ rfl)
  | chan => exact .fz (.sc _ rfl)
  | func => exact .fz (.sc _ rfl)
  | nilFunc => exact .fz (.sc _ rfl)
  | iface => exact .fz (.sc _ rfl)
  | nilIface => exact .fz (.sc _ rfl)

def evA (t : List (Nat × AV)) : Operand → AV
  | .tmp n => lookT t n
  | .const v => cA v
  | .global g => .fz (.sc (.pointer (some ⟨g, 0, none⟩)))
  | .func f => .fn f []

def EOps {P : Program} (C : Ctx P) (N : Nat) (ops : Array Oper) (l : List Oper) (σ : St) (K : St → Prop) : Prop :=
  ∀ a w, Sim C N σ a w → ∀ (Q : Exit → Act → World → Prop), (∀ σ' a' w', K σ' → Sim C N σ' a' w' → Q Exit.normal a' w') → wpList P ops Q l a w

theorem EOps.nil {P : Program} {C : Ctx P} {N : Nat} {ops : Array Oper} {σ : St} {K : St → Prop} (h : K σ) : EOps C N ops [] σ K :=
  fun a w hs Q hq => hq σ a w h hs

/-- every operand is a temporary of the frame, a constant, a function -/
def opIn (N : Nat) : Operand → Bool
  | .tmp n => Nat.blt n N
  | .const v => cOk v
  | _ => true
def inFrame (N : Nat) (o : Oper) : Bool := o.op.operands.toList.all (opIn N)

theorem opRel {P : Program} {C : Ctx P} {N : Nat} {σ : St} {a : Act} {w : World} {h : Nat → Value} {bk : Nat → Option Nat} {o : Oper} (hf : inFrame N o = true) (ht : ∀ n, n < N → Rel C σ.s w h bk (a.tmps.getD n undef) (lookT σ.t n)) :
    ∀ p, p ∈ o.op.operands → Rel C σ.s w h bk (a.eval p) (evA σ.t p) := by
  intro p hp
  have hpp := List.all_eq_true.1 hf p (by simpa using hp)
  cases p with
  | tmp n => exact ht n (Nat.le_of_ble_eq_true hpp)
  | const v => exact cA_spec hpp
  | global g => exact .fz (.sc _ rfl)
  | func f => exact .fn f #[] [] rfl (fun i x hx => by simp at hx)

theorem Does.wp {P : Program} {C : Ctx P} {N : Nat} {o : Oper} {σ : St} {x : AV} {s' : Sto} (hd : Does C o σ.s (evA σ.t) x s') (hf : inFrame N o = true) {a : Act} {w : World} (hs : Sim C N σ a w)
    {K : Act → World → Prop} {Q : Exit → Act → World → Prop} (hk : ∀ a' w', Sim C N (St.put ⟨σ.t, s'⟩ o.dst x) a' w' → K a' w') : o.wp P a w K Q := by
  obtain ⟨h, bk, H, hdf, hN, ht⟩ := hs
  unfold Oper.wp
  refine hd a.eval w h bk H (opRel hf ht) a K Q (fun v w' h' bk' H' hm hv => hk _ _ ?_)
  exact Sim.put (σ := σ) H' hdf hN (fun n hn => hm _ _ (ht n hn)) hv

theorem EOps.cons {P : Program} {C : Ctx P} {N : Nat} {ops : Array Oper} {o : Oper} {l : List Oper} {σ : St} {K : St → Prop} (hg : o.guard = none) (hf : inFrame N o = true) (x : AV) (s' : Sto)
    (hd : Does C o σ.s (evA σ.t) x s') (hr : EOps C N ops l (St.put ⟨σ.t, s'⟩ o.dst x) K) : EOps C N ops (o :: l) σ K := by
  intro a w hs Q hq
  refine wpList_plain hg fun K' hK => ?_
  exact hd.wp hf hs (fun a' w' hs' => hK _ _ (hr a' w' hs' Q hq))

/-- A guarded operation: both ways. -/
theorem EOps.guard {P : Program} {C : Ctx P} {N : Nat} {ops : Array Oper} {o : Oper} {l : List Oper} {σ : St} {K : St → Prop} (j d : Nat) (want b : Bool) (hg : o.guard = some (j, want)) (hj : (ops[j]?).bind (·.dst) = some d) (hdN : d < N)
    (hb : lookT σ.t d = .fz (.sc (.bool b))) (h1 : b = want → inFrame N o = true ∧ ∃ x s', Does C o σ.s (evA σ.t) x s' ∧ EOps C N ops l (St.put ⟨σ.t, s'⟩ o.dst x) K)
    (h2 : b ≠ want → EOps C N ops l (St.put σ o.dst .ud) K) : EOps C N ops (o :: l) σ K := by
  intro a w hs Q hq
  obtain ⟨h, bk, H, hdf, hN, ht⟩ := hs
  have hy : yielded ops a.tmps j = some b := by
    have r := ht d hdN
    rw [hb] at r
    have e := r.sc
    have hlt : d < a.tmps.size := by omega
    unfold yielded
    rw [hj]
    simp only [Option.bind_some, Array.getElem?_eq_getElem hlt]
    have : a.tmps[d] = .bool b := by simpa [Array.getD_eq_getD_getElem?, hlt] using e
    rw [this]
  refine wpList_step fun K' hK => ?_
  by_cases hbw : b = want
  · obtain ⟨hf, x, s', hd, hr⟩ := h1 hbw
    rw [if_pos (by simp [Region.wanted, hg, hy, hbw])]
    exact hd.wp hf ⟨h, bk, H, hdf, hN, ht⟩ (fun a' w' hs' => hK _ _ (hr a' w' hs' Q hq))
  · rw [if_neg (by simp [Region.wanted, hg, hy, hbw])]
    exact hK _ _ (h2 hbw _ _ (Sim.put (σ := σ) H hdf hN ht (fun _ => .ud rfl)) Q hq)

/-! ### What an operation does, told for every store that agrees with this one where it looks -/
def Sto.app : Sto → List (Nat × Ent) → Sto
  | s, [] => s
  | s, (k, e) :: l => Sto.app (s.set k e) l
def Dz {P : Program} (C : Ctx P) (o : Oper) (s : Sto) (ρA : Operand → AV) (x : AV) (eff : List (Nat × Ent)) (ks : List Nat) : Prop :=
  ∀ s1 : Sto, (∀ k, k ∈ ks → s1 k = s k) → Does C o s1 ρA x (s1.app eff)

section
variable {P : Program} {C : Ctx P} {N : Nat} {ops : Array Oper} {op : Op} {ty d j : Nat} {ps : String} {af : Array Edge} {l : List Oper} {t : List (Nat × AV)} {s : Sto} {K : St → Prop} {x : AV} {ks : List Nat}
/-- It leaves the objects alone. -/
theorem EOps.p (hf : inFrame N ⟨some d, op, ty, ps, af, none⟩ = true) (hd : Dz C ⟨some d, op, ty, ps, af, none⟩ s (evA t) x [] ks) (hr : EOps C N ops l ⟨(d, x) :: t, s⟩ K) : EOps C N ops (⟨some d, op, ty, ps, af, none⟩ :: l) ⟨t, s⟩ K :=
  EOps.cons rfl hf x s (hd s (fun _ _ => rfl)) hr
/-- It turns one object. -/
theorem EOps.w {k : Nat} {e : Ent} (hf : inFrame N ⟨some d, op, ty, ps, af, none⟩ = true) (hd : Dz C ⟨some d, op, ty, ps, af, none⟩ s (evA t) x [(k, e)] ks) (hr : EOps C N ops l ⟨(d, x) :: t, s.set k e⟩ K) : EOps C N ops (⟨some d, op, ty, ps, af, none⟩ :: l) ⟨t, s⟩ K :=
  EOps.cons rfl hf x (s.set k e) (hd s (fun _ _ => rfl)) hr
/-- A store. -/
theorem EOps.st {k : Nat} {e : Ent} (hf : inFrame N ⟨none, op, ty, ps, af, none⟩ = true) (hd : Dz C ⟨none, op, ty, ps, af, none⟩ s (evA t) x [(k, e)] ks) (hr : EOps C N ops l ⟨t, s.set k e⟩ K) : EOps C N ops (⟨none, op, ty, ps, af, none⟩ :: l) ⟨t, s⟩ K :=
  EOps.cons rfl hf x (s.set k e) (hd s (fun _ _ => rfl)) hr
/-- Whatever it turns. -/
theorem EOps.c {eff : List (Nat × Ent)} (hf : inFrame N ⟨some d, op, ty, ps, af, none⟩ = true) (hd : Dz C ⟨some d, op, ty, ps, af, none⟩ s (evA t) x eff ks) (hr : EOps C N ops l ⟨(d, x) :: t, s.app eff⟩ K) : EOps C N ops (⟨some d, op, ty, ps, af, none⟩ :: l) ⟨t, s⟩ K :=
  EOps.cons rfl hf x (s.app eff) (hd s (fun _ _ => rfl)) hr
theorem EOps.c0 {eff : List (Nat × Ent)} (hf : inFrame N ⟨none, op, ty, ps, af, none⟩ = true) (hd : Dz C ⟨none, op, ty, ps, af, none⟩ s (evA t) x eff ks) (hr : EOps C N ops l ⟨t, s.app eff⟩ K) : EOps C N ops (⟨none, op, ty, ps, af, none⟩ :: l) ⟨t, s⟩ K :=
  EOps.cons rfl hf x (s.app eff) (hd s (fun _ _ => rfl)) hr
/-- A guarded operation that is wanted. -/
theorem EOps.gy {b want : Bool} {g : Nat} (hj : (ops[j]?).bind (·.dst) = some g) (hgN : Nat.blt g N = true) (hb : lookT t g = .fz (.sc (.bool b))) (hw : b = want) (hf : inFrame N ⟨some d, op, ty, ps, af, some (j, want)⟩ = true) (hd : Dz C ⟨some d, op, ty, ps, af, some (j, want)⟩ s (evA t) x [] ks)
    (hr : EOps C N ops l ⟨(d, x) :: t, s⟩ K) : EOps C N ops (⟨some d, op, ty, ps, af, some (j, want)⟩ :: l) ⟨t, s⟩ K :=
  EOps.guard j g want b rfl hj (Nat.le_of_ble_eq_true hgN) hb (fun _ => ⟨hf, x, _, hd s (fun _ _ => rfl), hr⟩) (fun h => absurd hw h)
theorem EOps.gyc {b want : Bool} {g : Nat} {eff : List (Nat × Ent)} (hj : (ops[j]?).bind (·.dst) = some g) (hgN : Nat.blt g N = true) (hb : lookT t g = .fz (.sc (.bool b))) (hw : b = want) (hf : inFrame N ⟨some d, op, ty, ps, af, some (j, want)⟩ = true) (hd : Dz C ⟨some d, op, ty, ps, af, some (j, want)⟩ s (evA t) x eff ks)
    (hr : EOps C N ops l ⟨(d, x) :: t, s.app eff⟩ K) : EOps C N ops (⟨some d, op, ty, ps, af, some (j, want)⟩ :: l) ⟨t, s⟩ K :=
  EOps.guard j g want b rfl hj (Nat.le_of_ble_eq_true hgN) hb (fun _ => ⟨hf, x, _, hd s (fun _ _ => rfl), hr⟩) (fun h => absurd hw h)
/-- A guarded operation that is left. -/
theorem EOps.gn {b want : Bool} {g : Nat} (hj : (ops[j]?).bind (·.dst) = some g) (hgN : Nat.blt g N = true) (hb : lookT t g = .fz (.sc (.bool b))) (hw : b ≠ want)
    (hr : EOps C N ops l ⟨(d, .ud) :: t, s⟩ K) : EOps C N ops (⟨some d, op, ty, ps, af, some (j, want)⟩ :: l) ⟨t, s⟩ K :=
  EOps.guard j g want b rfl hj (Nat.le_of_ble_eq_true hgN) hb (fun h => absurd h hw) (fun _ => hr)
/-- Its guard itself was left. -/
theorem EOps.gu {want : Bool} {g : Nat} (hj : (ops[j]?).bind (·.dst) = some g) (hgN : Nat.blt g N = true) (hb : lookT t g = .ud)
    (hr : EOps C N ops l ⟨(d, .ud) :: t, s⟩ K) : EOps C N ops (⟨some d, op, ty, ps, af, some (j, want)⟩ :: l) ⟨t, s⟩ K := by
  intro a w hs Q hq
  obtain ⟨h, bk, H, hdf, hN, ht⟩ := hs
  have hy : yielded ops a.tmps j = none := by
    have hgl : g < N := Nat.le_of_ble_eq_true hgN
    have r := ht g hgl
    rw [hb] at r
    have e : a.tmps.getD g undef = undef := r.ud_inv rfl
    have hlt : g < a.tmps.size := by omega
    unfold yielded
    rw [hj]
    simp only [Option.bind_some, Array.getElem?_eq_getElem hlt]
    have : a.tmps[g] = undef := by simpa [Array.getD_eq_getD_getElem?, hlt] using e
    rw [this]
    rfl
  refine wpList_step fun K' hK => ?_
  rw [if_neg (by simp [Region.wanted, hy])]
  exact hK _ _ (hr _ _ (Sim.put (σ := ⟨t, s⟩) (d := some d) H hdf hN ht (fun _ => .ud rfl)) Q hq)
end

/-! ### Control -/
def EW {P : Program} (C : Ctx P) (N : Nat) (c : Code) (σ : St) (Q : Exit → St → Prop) : Prop := ∀ a w, Sim C N σ a w → c.wp P (fun e a w => ∃ σ', Q e σ' ∧ Sim C N σ' a w) a w

section
variable {P : Program} {C : Ctx P} {N : Nat} {σ : St} {Q : Exit → St → Prop}
theorem EW.region {id : Nat} {ops : Array Oper} (h : EOps C N ops ops.toList σ (Q .normal)) : EW C N (.region id ops false) σ Q := fun a w hs =>
  wp_region_list (h a w hs _ (fun σ' _ _ hk hs' => ⟨σ', hk, hs'⟩))
theorem EW.mono {c : Code} {Q' : Exit → St → Prop} (h : EW C N c σ Q) (hq : ∀ e σ', Q e σ' → Q' e σ') : EW C N c σ Q' := fun a w hs =>
  wp_mono (h a w hs) (fun e _ _ ⟨σ', h1, h2⟩ => ⟨σ', hq e σ' h1, h2⟩)
abbrev thenQ (R : St → Prop) (Q : Exit → St → Prop) : Exit → St → Prop
  | .normal, σ => R σ
  | e, σ => Q e σ
theorem EW.seq {x y : Code} (h : EW C N x σ (thenQ (fun σ' => EW C N y σ' Q) Q)) : EW C N (.seq x y) σ Q := fun a w hs =>
  wp_seq (wp_mono (h a w hs) (fun e a' w' ⟨σ', h1, h2⟩ => by
    cases e with
    | normal => exact h1 a' w' h2
    | exit id => exact ⟨σ', h1, h2⟩
    | goto l => exact ⟨σ', h1, h2⟩
    | ret => exact ⟨σ', h1, h2⟩
    | panic c => exact ⟨σ', h1, h2⟩
    | outgrown => exact ⟨σ', h1, h2⟩))
theorem EW.skip (h : Q .normal σ) : EW C N .skip σ Q := fun _ _ hs => wp_skip ⟨σ, h, hs⟩
theorem EW.exit {id : Nat} (h : Q (.exit id) σ) : EW C N (.exit id) σ Q := fun _ _ hs => wp_exit ⟨σ, h, hs⟩
theorem EW.ret (h : Q .ret σ) : EW C N .ret σ Q := fun _ _ hs => wp_ret ⟨σ, h, hs⟩
theorem EW.cond {n : Nat} {x y : Code} {b : Bool} (hn : n < N) (hb : lookT σ.t n = .fz (.sc (.bool b))) (h1 : b = true → EW C N x σ Q) (h2 : b = false → EW C N y σ Q) : EW C N (.cond (.tmp n) x y) σ Q := fun a w hs => by
  have hs' := hs
  obtain ⟨h, bk, H, hdf, hN, ht⟩ := hs'
  have r := ht n hn
  rw [hb] at r
  exact wp_cond_split (t := b) r.sc (fun e => h1 e a w hs) (fun e => h2 e a w hs)
abbrev inB (id : Nat) (Q : Exit → St → Prop) : Exit → St → Prop
  | .exit id', σ => bif Nat.beq id' id then Q .normal σ else Q (.exit id') σ
  | e, σ => Q e σ
theorem EW.block {id : Nat} {c : Code} (h : EW C N c σ (inB id Q)) : EW C N (.block id c) σ Q := fun a w hs =>
  wp_block (wp_mono (h a w hs) (fun e a' w' ⟨σ', h1, h2⟩ => by
    cases e with
    | exit id' =>
      simp only [inB] at h1
      simp only [Exit.inBlock]
      split
      · rename_i he; subst he; rw [Nat.beq_refl] at h1; exact ⟨σ', h1, h2⟩
      · rename_i he
        have hb : Nat.beq id' id = false := by cases hb : Nat.beq id' id with
          | false => rfl
          | true => exact absurd (Nat.eq_of_beq_eq_true hb) he
        rw [hb] at h1; exact ⟨σ', h1, h2⟩
    | normal => exact ⟨σ', h1, h2⟩
    | goto l => exact ⟨σ', h1, h2⟩
    | ret => exact ⟨σ', h1, h2⟩
    | panic c => exact ⟨σ', h1, h2⟩
    | outgrown => exact ⟨σ', h1, h2⟩))
/-- A loop under way. -/
def EWL {P : Program} (C : Ctx P) (N : Nat) (c : Code) (σ : St) (Q : Exit → St → Prop) : Prop := ∀ a w, Sim C N σ a w → ∀ b kk cs, ∃ e a' w', (∃ σ', Q e σ' ∧ Sim C N σ' a' w') ∧ Arrives P (lone (b.at a (.code c :: .inLoop c :: kk)) cs w) b kk cs e a' w'
theorem EW.loop {c : Code} (h : EWL C N c σ Q) : EW C N (.loop c) σ Q := fun a w hs b kk cs => by
  obtain ⟨e, a', w', hq, harr⟩ := h a w hs b kk cs
  exact ⟨e, a', w', hq, .of_steps (.one step_loop) harr⟩
theorem EWL.round {c : Code} (h : EW C N c σ (thenQ (fun σ' => EWL C N c σ' Q) Q)) : EWL C N c σ Q := fun a w hs b kk cs => by
  obtain ⟨e, a₁, w₁, ⟨σ', hq, hs'⟩, harr⟩ := h a w hs b (.inLoop c :: kk) cs
  cases e with
  | normal =>
    obtain ⟨e₂, a₂, w₂, hq₂, harr₂⟩ := hq a₁ w₁ hs' b kk cs
    exact ⟨e₂, a₂, w₂, hq₂, .of_steps (Steps.trans harr (.one step_inLoop)) harr₂⟩
  | exit id => exact ⟨_, a₁, w₁, ⟨σ', hq, hs'⟩, .pass (x := .inLoop c) rfl (fun _ _ => .inl (by simp)) harr⟩
  | goto l => exact ⟨_, a₁, w₁, ⟨σ', hq, hs'⟩, .pass (x := .inLoop c) rfl (fun _ _ => .inl (by simp)) harr⟩
  | ret => exact ⟨_, a₁, w₁, ⟨σ', hq, hs'⟩, .pass (x := .inLoop c) rfl (fun _ _ => .inl (by simp)) harr⟩
  | panic ch => exact ⟨_, a₁, w₁, ⟨σ', hq, hs'⟩, .pass (x := .inLoop c) rfl (fun _ _ => .inl (by simp)) harr⟩
  | outgrown => exact ⟨_, a₁, w₁, ⟨σ', hq, hs'⟩, .pass (x := .inLoop c) rfl (fun _ _ => .inl (by simp)) harr⟩
/-- A region, and then code. -/
theorem EW.rs {id : Nat} {ops : Array Oper} {y : Code} (h : EOps C N ops ops.toList σ (fun σ' => EW C N y σ' Q)) : EW C N (.seq (.region id ops false) y) σ Q := EW.seq (EW.region h)
/-- Code that ends in one way, and then code. -/
theorem EW.sj (J : St → Prop) {x y : Code} (h1 : EW C N x σ (thenQ J Q)) (h2 : ∀ σ', J σ' → EW C N y σ' Q) : EW C N (.seq x y) σ Q :=
  EW.seq (EW.mono h1 (fun e σ' h => by
    cases e with
    | normal => exact h2 σ' h
    | exit id => exact h
    | goto l => exact h
    | ret => exact h
    | panic c => exact h
    | outgrown => exact h))
end

/-! ### A function from outside -/
/-- Started with the objects s0, at these arguments, the function answers res, and the objects are s1 then. -/
def Fn (P : Program) (n : FuncId) (s0 : Sto) (args : List AV) (s1 : Sto) (res : AV) : Prop :=
  ∀ C : Ctx P, C.s0 = s0 → HeapOk C s0 C.w0 C.h0 C.bk0 → ∀ vals : List Value, vals.length = args.length → (∀ i x, args[i]? = some x → Rel C s0 C.w0 C.h0 C.bk0 (vals.getD i undef) x) →
    Calls P n vals.toArray C.w0 fun e w' => ∃ v h' bk', e = .returned v ∧ HeapOk C s1 w' h' bk' ∧ Rel C s1 w' h' bk' v res

def numT : Nat → List AV → List (Nat × AV)
  | _, [] => []
  | i, x :: l => (i, x) :: numT (i + 1) l
theorem numT_look : ∀ (l : List AV) (i n : Nat), lookT (numT i l) n = if n < i then .xx else l.getD (n - i) .xx
  | [], i, n => by
    show AV.xx = _
    split <;> simp
  | x :: l, i, n => by
    unfold numT
    rw [lookT_cons, numT_look l]
    by_cases h : n = i
    · subst h; simp
    · rw [if_neg h]
      by_cases h1 : n < i
      · rw [if_pos h1, if_pos (by omega)]
      · rw [if_neg h1, if_neg (by omega)]
        have : n - i = (n - (i + 1)) + 1 := by omega
        rw [this]
        simp
def St.init (s0 : Sto) (args : List AV) : St := ⟨numT 0 args, s0⟩
theorem init_look (s0 : Sto) (args : List AV) (n : Nat) : lookT (St.init s0 args).t n = args.getD n .xx := by
  unfold St.init
  rw [numT_look]
  simp

theorem relF_of_row {w : World} {M : Nat → Prop} {B e sz : Nat} {es : List (List FV)} {v : Value} {xs : List Value} (hrow : w.ownsRow B e sz v es.length xs) (hsz : 0 < sz) (hlen : ∀ c ∈ es, c.length = sz) (hb : ∀ b, v.ownBlock = some b → ¬ M b)
    (hx : ∀ i j x, es[i]?.bind (·[j]?) = some x → ∃ v, xs[i * sz + j]? = some v ∧ v.oneCell' = true ∧ RelF w M v x) : RelF w M v (.ls sz es) := by
  obtain ⟨hl, hown⟩ := hrow
  rcases hown with ⟨hv, hn⟩ | ⟨g, cap, cur, hv, hB, hg, hnc, hcm, hcs, htake⟩
  · have : es = [] := List.eq_nil_of_length_eq_zero hn
    subst this
    rw [hv]
    exact .emp none 0 sz (fun _ => rfl)
  · subst hv
    by_cases hne : es = []
    · subst hne; exact .emp _ cap sz (fun h => by cases h)
    · refine .ls g 0 cap sz es.length es (fun i j => xs.getD (i * sz + j) undef) rfl hne hsz hnc hcm (hb g rfl) hlen (fun i j hi hj => ⟨?_, ?_⟩) (fun i j x hx' => ?_)
      · have hin : i * sz + j < es.length * sz := by
          have : (i + 1) * sz ≤ es.length * sz := Nat.mul_le_mul_right _ hi
          rw [Nat.add_mul] at this
          omega
        rw [cell_mid hg]
        have h1 : (cur.toList.take (es.length * sz))[i * sz + j]? = xs[i * sz + j]? := by rw [htake]
        rw [List.getElem?_take_of_lt hin] at h1
        have h2 : i * sz + j < xs.length := by omega
        simp only [Nat.zero_add]
        rw [List.getElem?_eq_getElem h2] at h1
        rw [List.getD_eq_getElem?_getD, List.getElem?_eq_getElem h2]
        simpa using h1
      · have hle : (es[i]'hi).length = sz := hlen _ (List.getElem_mem hi)
        obtain ⟨v, hv1, hv0, _⟩ := hx i j ((es[i]'hi)[j]'(by omega)) (by rw [List.getElem?_eq_getElem hi]; simp)
        rw [List.getD_eq_getElem?_getD, hv1]
        exact hv0
      · obtain ⟨v, hv1, _, hv2⟩ := hx i j x hx'
        rw [List.getD_eq_getElem?_getD, hv1]
        exact hv2


/-- What a value is when only the objects ks stay. -/
inductive OutC (s s1 : Sto) (ks : Nat → Bool) : AV → AV → Prop
  | fz {c : FV} : OutC s s1 ks (.fz c) (.fz c)
  | nil {sz : Nat} : OutC s s1 ks (.fz (.sc (.slice none 0 0))) (.fz (.ls sz []))
  | fc {sz : Nat} {es : List (List FV)} : OutC s s1 ks (.fc sz es) (.fz (.ls sz es))
  | row {k u e sz : Nat} {es : List (List FV)} (h : s k = ⟨u, .row e sz es⟩) (hk : ks k = false) : OutC s s1 ks (.ow k u) (.fz (.ls sz es))
  | ow {k u u' : Nat} (hk : ks k = true) (h : (s k).v = u) (h1 : (s1 k).v = u') : OutC s s1 ks (.ow k u) (.ow k u')
  | pt {k u u' off : Nat} (hk : ks k = true) (h : (s k).v = u) (h1 : (s1 k).v = u') : OutC s s1 ks (.pt k u off) (.pt k u' off)
  | mp {k u u' : Nat} (hk : ks k = true) (h : (s k).v = u) (h1 : (s1 k).v = u') : OutC s s1 ks (.mp k u) (.mp k u')
  | er : OutC s s1 ks .er .er
  | xx {x : AV} : OutC s s1 ks x .xx
inductive OutL (s s1 : Sto) (ks : Nat → Bool) : List AV → List AV → Prop
  | nil : OutL s s1 ks [] []
  | cons {x y : AV} {xs ys : List AV} (h : OutC s s1 ks x y) (t : OutL s s1 ks xs ys) : OutL s s1 ks (x :: xs) (y :: ys)
inductive OutV (s s1 : Sto) (ks : Nat → Bool) : AV → AV → Prop
  | c {x y : AV} (h : OutC s s1 ks x y) : OutV s s1 ks x y
  | ag {xs ys : List AV} (h : OutL s s1 ks xs ys) : OutV s s1 ks (.ag xs) (.ag ys)
  | fn {f : FuncId} {xs ys : List AV} (h : OutL s s1 ks xs ys) : OutV s s1 ks (.fn f xs) (.fn f ys)
/-- no .xx among them -/
inductive OutB (s s1 : Sto) (ks : Nat → Bool) : List AV → List AV → Prop
  | nil : OutB s s1 ks [] []
  | cons {x y : AV} {xs ys : List AV} (h : OutC s s1 ks x y) (t : OutB s s1 ks xs ys) : OutB s s1 ks (x :: xs) (y :: ys)
theorem OutL.at {s s1 : Sto} {ks : Nat → Bool} {xs ys : List AV} (h : OutL s s1 ks xs ys) : xs.length = ys.length ∧ ∀ (i : Nat) (x y : AV), xs[i]? = some x → ys[i]? = some y → OutC s s1 ks x y := by
  induction h with
  | nil => exact ⟨rfl, fun i x y h => by simp at h⟩
  | cons h t ih =>
    refine ⟨by simp [ih.1], fun i x' y' hx hy => ?_⟩
    cases i with
    | zero => simp at hx hy; subst hx; subst hy; exact h
    | succ i => exact ih.2 i x' y' (by simpa using hx) (by simpa using hy)
def isFz : AV → Bool
  | .fz _ => true
  | _ => false
theorem OutL.all {s s1 : Sto} {ks : Nat → Bool} : ∀ {xs : List AV}, xs.all isFz = true → OutL s s1 ks xs xs
  | [], _ => .nil
  | x :: xs, h => by
    simp only [List.all_cons, Bool.and_eq_true] at h
    refine .cons ?_ (OutL.all h.2)
    cases x <;> first | exact .fz | (exact absurd h.1 (by simp [isFz]))
inductive OutOb (s s1 : Sto) (ks : Nat → Bool) : Ob → Ob → Prop
  | no : OutOb s s1 ks .no .no
  | row {e sz : Nat} {es : List (List FV)} : OutOb s s1 ks (.row e sz es) (.row e sz es)
  | rowA {e sz : Nat} {es fs : List (List AV)} (hl : es.length = fs.length) (h1 : ∀ x ∈ fs, x.length = sz) (h : ∀ (i j : Nat) (x y : AV), es[i]?.bind (·[j]?) = some x → fs[i]?.bind (·[j]?) = some y → OutC s s1 ks x y) : OutOb s s1 ks (.rowA e sz es) (.rowA e sz fs)
  | box {e : Nat} {xs ys : List AV} (h : OutL s s1 ks xs ys) : OutOb s s1 ks (.box e xs) (.box e ys)
  | gn {φ : Go.Obj → Prop} : OutOb s s1 ks (.gn φ) (.gn φ)
def Rest (s0 s s1 : Sto) (ks : Nat → Bool) : Prop :=
  ∀ k, if ks k then ((s0 k).v ≤ (s1 k).v ∧ ((s1 k).v = (s0 k).v → (s k).v = (s0 k).v)) ∧ OutOb s s1 ks (s k).o (s1 k).o else s1 k = s0 k ∧ (s0 k).o = .no

section
variable {P : Program} {C : Ctx P} {s s1 : Sto} {w : World} {h : Nat → Value} {bk : Nat → Option Nat} {ks : Nat → Bool}
def hRest (C : Ctx P) (h : Nat → Value) (ks : Nat → Bool) : Nat → Value := fun k => if ks k then h k else C.h0 k
def bkRest (C : Ctx P) (bk : Nat → Option Nat) (ks : Nat → Bool) : Nat → Option Nat := fun k => if ks k then bk k else C.bk0 k
theorem hRest_in {k : Nat} (hk : ks k = true) : hRest C h ks k = h k := by unfold hRest; rw [hk]; rfl
theorem hRest_out {k : Nat} (hk : ks k = false) : hRest C h ks k = C.h0 k := by unfold hRest; rw [hk]; rfl
theorem bkRest_in {k : Nat} (hk : ks k = true) : bkRest C bk ks k = bk k := by unfold bkRest; rw [hk]; rfl
theorem bkRest_out {k : Nat} (hk : ks k = false) : bkRest C bk ks k = C.bk0 k := by unfold bkRest; rw [hk]; rfl

theorem bkRest_some (H0 : HeapOk C C.s0 C.w0 C.h0 C.bk0) (R : Rest C.s0 s s1 ks) {k b : Nat} (hb : bkRest C bk ks k = some b) : ks k = true ∧ bk k = some b := by
  cases hk : ks k with
  | true => rw [bkRest_in hk] at hb; exact ⟨rfl, hb⟩
  | false =>
    have r := R k
    rw [hk] at r
    simp only [Bool.false_eq_true, if_false] at r
    have o := H0.obj k
    unfold ObjOk at o
    rw [r.2] at o
    rw [bkRest_out hk] at hb
    rw [o] at hb
    cases hb
theorem ownRest (H0 : HeapOk C C.s0 C.w0 C.h0 C.bk0) (R : Rest C.s0 s s1 ks) {b : Nat} (hb : Own (bkRest C bk ks) b) : Own bk b := by
  obtain ⟨k, hk⟩ := hb
  exact ⟨k, (bkRest_some H0 R hk).2⟩
theorem mutRest (H0 : HeapOk C C.s0 C.w0 C.h0 C.bk0) (R : Rest C.s0 s s1 ks) {b : Nat} (hb : C.Mut (bkRest C bk ks) b) : C.Mut bk b := hb.imp id (ownRest H0 R)

theorem OutC.spec (H0 : HeapOk C C.s0 C.w0 C.h0 C.bk0) (H : HeapOk C s w h bk) (R : Rest C.s0 s s1 ks) {v : Value} {x y : AV} (r : Rel C s w h bk v x) (ho : OutC s s1 ks x y) : Rel C s1 w (hRest C h ks) (bkRest C bk ks) v y := by
  cases ho with
  | fz => cases r with | fz hx => exact .fz (hx.less fun b hb => mutRest H0 R hb)
  | nil => rw [r.sc]; exact .fz (.emp none 0 _ (fun _ => rfl))
  | fc => cases r with | fc A n sz es hx => exact .fz (hx.less fun b hb => mutRest H0 R hb)
  | @row k u e sz es hk hn =>
    rw [r.ow_inv (by rw [hk])]
    obtain ⟨xs, h1, h2, h3, h4, h5⟩ := H.row (k := k) (e := e) (sz := sz) (es := es) (by rw [hk])
    refine .fz (relF_of_row h1 h2 h4 (fun b hb hm => ?_) (fun i j x hx => ?_))
    · have hbk : bk k = some b := by rw [h3]; exact hb
      rcases hm with hm | ⟨j, hj⟩
      · rcases (H.lt k b hbk).1 with h6 | h6
        · have := C.hM b hm; omega
        · exact (C.hA b h6).2 hm
      · obtain ⟨h6, h7⟩ := bkRest_some H0 R hj
        have := H.apart _ _ b hbk h7
        rw [← this, hn] at h6
        cases h6
    · obtain ⟨v, a1, a2, a3⟩ := h5 i j x hx
      exact ⟨v, a1, a2, a3.less fun b hb => mutRest H0 R hb⟩
  | @ow k u u' hk hs h1 =>
    cases r with
    | ow k u o1 hu hv => exact .ow k u' o1 (by rw [h1]; exact Nat.le_refl _) (fun _ => by rw [hRest_in hk]; exact hv hs)
  | @pt k u u' off hk hs h1 =>
    cases r with
    | pt k u off o1 hu hv => exact .pt k u' off o1 (by rw [h1]; exact Nat.le_refl _) (fun _ => by rw [bkRest_in hk]; exact hv hs)
  | @mp k u u' hk hs h1 =>
    cases r with
    | mp k u o1 hu hv => exact .mp k u' o1 (by rw [h1]; exact Nat.le_refl _) (fun _ => by rw [bkRest_in hk]; exact hv hs)
  | er => cases r with | er t x => exact .er t x
  | xx => exact .xx v
theorem OutV.spec (H0 : HeapOk C C.s0 C.w0 C.h0 C.bk0) (H : HeapOk C s w h bk) (R : Rest C.s0 s s1 ks) {v : Value} {x y : AV} (r : Rel C s w h bk v x) (ho : OutV s s1 ks x y) : Rel C s1 w (hRest C h ks) (bkRest C bk ks) v y := by
  cases ho with
  | c ho => exact OutC.spec H0 H R r ho
  | ag hl =>
    rename_i cs ys
    obtain ⟨h1, h2⟩ := hl.at
    cases r with
    | ag arr cs hs hr =>
      refine .ag arr ys (by omega) (fun i y hy => ?_)
      have hi : i < cs.length := by have := (List.getElem?_eq_some_iff.1 hy).1; omega
      exact OutC.spec H0 H R (hr i cs[i] (by simp [hi])) (h2 i cs[i] y (by simp [hi]) hy)
  | fn hl =>
    rename_i f cs ys
    obtain ⟨h1, h2⟩ := hl.at
    cases r with
    | fn f arr cs hs hr =>
      refine .fn f arr ys (by omega) (fun i y hy => ?_)
      have hi : i < cs.length := by have := (List.getElem?_eq_some_iff.1 hy).1; omega
      exact OutC.spec H0 H R (hr i cs[i] (by simp [hi])) (h2 i cs[i] y (by simp [hi]) hy)

theorem HeapOk.rest (H0 : HeapOk C C.s0 C.w0 C.h0 C.bk0) (H : HeapOk C s w h bk) (R : Rest C.s0 s s1 ks) : HeapOk C s1 w (hRest C h ks) (bkRest C bk ks) := by
  refine ⟨H.below, H.old, fun k => ?_, ?_, ?_, ?_⟩
  · have r := R k
    cases hk : ks k with
    | false =>
      rw [hk] at r
      simp only [Bool.false_eq_true, if_false] at r
      unfold ObjOk
      rw [r.1, r.2]
      show bkRest C bk ks k = none
      cases hb : bkRest C bk ks k with
      | none => rfl
      | some b =>
        have := (bkRest_some H0 R hb).1
        rw [hk] at this
        cases this
    | true =>
      rw [hk, if_pos rfl] at r
      have o := H.obj k
      have e1 : hRest C h ks k = h k := hRest_in hk
      have e2 : bkRest C bk ks k = bk k := bkRest_in hk
      obtain ⟨_, ro⟩ := r
      unfold ObjOk at o ⊢
      rw [e1, e2]
      generalize (s k).o = o1 at o ro
      generalize (s1 k).o = o2 at ro ⊢
      cases ro with
      | no => exact o
      | row =>
        rename_i e sz es
        obtain ⟨xs, h1, h2, h3, h4, h5⟩ := o
        refine ⟨xs, h1, h2, h3, h4, fun i j x hx => ?_⟩
        obtain ⟨v, a1, a2, a3⟩ := h5 i j x hx
        exact ⟨v, a1, a2, a3.less fun b hb => mutRest H0 R hb⟩
      | rowA hl hl1 hz =>
        rename_i e sz es fs
        obtain ⟨xs, h1, h2, h3, h4, h5⟩ := o
        refine ⟨xs, by rw [← hl]; exact h1, h2, h3, hl1, fun i j y hy => ?_⟩
        obtain ⟨fy, hfy, hyj⟩ := Option.bind_eq_some_iff.1 hy
        have hi : i < es.length := by have := (List.getElem?_eq_some_iff.1 hfy).1; omega
        have hj : j < es[i].length := by
          have a1 := (List.getElem?_eq_some_iff.1 hyj).1
          have a2 := hl1 fy (List.mem_of_getElem? hfy)
          have a3 := h4 es[i] (List.getElem_mem hi)
          omega
        have hx : es[i]?.bind (·[j]?) = some es[i][j] := by simp [hi, hj]
        obtain ⟨v, a1, a2, a3⟩ := h5 i j _ hx
        exact ⟨v, a1, a2, OutC.spec H0 H R a3 (hz i j _ y hx hy)⟩
      | box hl =>
        rename_i e xs ys
        obtain ⟨l1, l2⟩ := hl.at
        obtain ⟨b, c, h1, h2, h3, h4, h5⟩ := o
        refine ⟨b, c, h1, h2, h3, by omega, fun i y hy => ?_⟩
        have hi : i < xs.length := by have := (List.getElem?_eq_some_iff.1 hy).1; omega
        obtain ⟨a1, a2⟩ := h5 i xs[i] (by simp [hi])
        exact ⟨a1, OutC.spec H0 H R a2 (l2 i xs[i] y (by simp [hi]) hy)⟩
      | gn => exact o
  · intro k
    have r := R k
    cases hk : ks k with
    | false =>
      rw [hk] at r
      simp only [Bool.false_eq_true, if_false] at r
      exact ⟨by rw [r.1]; exact Nat.le_refl _, fun _ => ⟨hRest_out hk, bkRest_out hk⟩⟩
    | true =>
      rw [hk, if_pos rfl] at r
      have m := H.mono k
      refine ⟨r.1.1, fun e => ?_⟩
      rw [hRest_in hk, bkRest_in hk]
      exact m.2 (r.1.2 e)
  · intro k k' b hk hk'
    exact H.apart k k' b (bkRest_some H0 R hk).2 (bkRest_some H0 R hk').2
  · intro k b hk
    exact H.lt k b (bkRest_some H0 R hk).2
end

def rvIn (N : Nat) : ResultVar → Prop
  | .tmp n => n < N
  | .cell n _ => n < N
def rvRun (ts : Array Value) : ResultVar → Sem Value
  | .tmp t => pure (ts.getD t undef)
  | .cell a t => do loadVar t (← asAddr (ts.getD a undef))
/-- The results, one by one. -/
inductive resA (P : Program) (σ : St) : ResultVar → AV → Prop
  | tmp {n : Nat} {x : AV} (h : lookT σ.t n = x) : resA P σ (.tmp n) x
  | cell1 {n t k u off e m : Nat} {cs : List AV} {x : AV} (h1 : lookT σ.t n = .pt k u off) (h2 : σ.s k = ⟨u, .box e cs⟩) (h3 : tf P t = some (m, false)) (h4 : cs[off]? = some x) : resA P σ (.cell n t) x
  | cellN {n t k u off e m : Nat} {cs : List AV} (h1 : lookT σ.t n = .pt k u off) (h2 : σ.s k = ⟨u, .box e cs⟩) (h3 : tf P t = some (m, true)) (h4 : off + m ≤ cs.length) : resA P σ (.cell n t) (.ag ((cs.drop off).take m))
inductive ResL (P : Program) (N : Nat) (σ : St) (s1 : Sto) (ks : Nat → Bool) : List ResultVar → List AV → Prop
  | nil : ResL P N σ s1 ks [] []
  | cons {r : ResultVar} {rs : List ResultVar} {x y : AV} {ys : List AV} (hn : rvIn N r) (hr : resA P σ r x) (ho : OutV σ.s s1 ks x y) (t : ResL P N σ s1 ks rs ys) : ResL P N σ s1 ks (r :: rs) (y :: ys)
inductive ResV (P : Program) (N : Nat) (σ : St) (s1 : Sto) (ks : Nat → Bool) : List ResultVar → AV → Prop
  | one {r : ResultVar} {x y : AV} (hn : rvIn N r) (hr : resA P σ r x) (ho : OutV σ.s s1 ks x y) : ResV P N σ s1 ks [r] y
  | many {rs : List ResultVar} {ys : List AV} (hl : rs.length ≠ 1) (h : ResL P N σ s1 ks rs ys) : ResV P N σ s1 ks rs (.tu ys)
def ResOk (P : Program) (N : Nat) (σ : St) (rs : List ResultVar) (s0 s1 : Sto) (ks : Nat → Bool) (res : AV) : Prop := Rest s0 σ.s s1 ks ∧ ResV P N σ s1 ks rs res

theorem resA.spec {P : Program} {C : Ctx P} {N : Nat} {σ : St} {w : World} {h : Nat → Value} {bk : Nat → Option Nat} {a : Act} (H : HeapOk C σ.s w h bk) (ht : ∀ n, n < N → Rel C σ.s w h bk (a.tmps.getD n undef) (lookT σ.t n)) {r : ResultVar} {x : AV}
    (hr : resA P σ r x) (hn : rvIn N r) :
    ∃ v, (rvRun a.tmps r).run P w = .ok v w ∧ Rel C σ.s w h bk v x := by
  cases hr with
  | tmp h => subst h; exact ⟨_, rfl, ht _ hn⟩
  | @cell1 n t k u off e m cs x h1 h2 h3 h4 =>
    have r1 := ht n hn
    rw [h1] at r1
    obtain ⟨g', hg', hv'⟩ := r1.pt_inv (by rw [h2])
    obtain ⟨b', c, hb', _, hw, hs, hc⟩ := H.box (k := k) (by rw [h2])
    rw [hg'] at hb'
    cases hb'
    have hlt : off < c.size := by rw [hs]; exact (List.getElem?_eq_some_iff.1 h4).1
    refine ⟨c[off], ?_, ?_⟩
    · have := run_load1 (P := P) h3 (w := w) (b := g') (o := off) (v := c[off]) (by rw [cell_mid hw]; simp [hlt])
      simpa [rvRun, hv', Instr.loadAt, Instr.sureAddr, asAddr] using this
    · have := (hc off x h4).2
      simpa [hlt] using this
  | @cellN n t k u off e m cs h1 h2 h3 h4 =>
    have r1 := ht n hn
    rw [h1] at r1
    obtain ⟨g', hg', hv'⟩ := r1.pt_inv (by rw [h2])
    obtain ⟨b', c, hb', _, hw, hs, hc⟩ := H.box (k := k) (by rw [h2])
    rw [hg'] at hb'
    cases hb'
    have hlen : ((c.toList.drop off).take m).length = m := by simp; omega
    refine ⟨.agg ((c.toList.drop off).take m).toArray, ?_, ?_⟩
    · have := run_loadN (P := P) h3 (w := w) (b := g') (o := off) hlen (fun j v hj => by
        rw [cell_mid hw]
        have hjn : j < m := by rw [← hlen]; exact (List.getElem?_eq_some_iff.1 hj).1
        rw [List.getElem?_take_of_lt hjn, List.getElem?_drop] at hj
        simpa using hj)
      simpa [rvRun, hv', Instr.loadAt, Instr.sureAddr, asAddr] using this
    · refine .ag _ _ (by simp; omega) (fun i x hx => ?_)
      have hin : i < m := by have := (List.getElem?_eq_some_iff.1 hx).1; simp at this; omega
      rw [List.getElem?_take_of_lt hin, List.getElem?_drop] at hx
      have e1 : ((c.toList.drop off).take m).toArray.getD i undef = c.getD (off + i) undef := by
        simp only [Array.getD_eq_getD_getElem?, List.getElem?_toArray]
        rw [List.getElem?_take_of_lt hin, List.getElem?_drop]
        simp
      rw [e1]
      exact (hc (off + i) x hx).2

theorem run_mapM_list {P : Program} {w : World} {α : Type} (f : α → Sem Value) : ∀ (rs : List α) (vs : List Value), rs.length = vs.length → (∀ i r, rs[i]? = some r → (f r).run P w = .ok (vs.getD i undef) w) → (rs.mapM f).run P w = .ok vs w
  | [], [], _, _ => rfl
  | [], v :: vs, h, _ => by simp at h
  | r :: rs, [], h, _ => by simp at h
  | r :: rs, v :: vs, h, k => by
    have h0 := k 0 r rfl
    have ih := run_mapM_list f rs vs (by simpa using h) (fun i r' hr => k (i + 1) r' hr)
    simp only [List.mapM_cons, Sem.run_bind, h0, Result.andThen_ok, ih, Sem.run_pure]
    rfl

theorem ResL.spec {P : Program} {C : Ctx P} {N : Nat} {σ : St} {s1 : Sto} {ks : Nat → Bool} {w : World} {h : Nat → Value} {bk : Nat → Option Nat} {a : Act} (H0 : HeapOk C C.s0 C.w0 C.h0 C.bk0) (H : HeapOk C σ.s w h bk) (R : Rest C.s0 σ.s s1 ks)
    (ht : ∀ n, n < N → Rel C σ.s w h bk (a.tmps.getD n undef) (lookT σ.t n)) {rs : List ResultVar} {ys : List AV} (hr : ResL P N σ s1 ks rs ys) :
    ∃ vs : List Value, (rs.mapM (rvRun a.tmps)).run P w = .ok vs w ∧ vs.length = rs.length ∧ vs.length = ys.length ∧ ∀ i y, ys[i]? = some y → Rel C s1 w (hRest C h ks) (bkRest C bk ks) (vs.getD i undef) y := by
  induction hr with
  | nil => exact ⟨[], rfl, rfl, rfl, fun i y hy => by simp at hy⟩
  | cons hn hr ho t ih =>
    obtain ⟨v, hv1, hv2⟩ := resA.spec H ht hr hn
    obtain ⟨vs, h1, h2, h3, h4⟩ := ih
    refine ⟨v :: vs, ?_, by simp [h2], by simp [h3], fun i y hy => ?_⟩
    · simp only [List.mapM_cons, Sem.run_bind, hv1, Result.andThen_ok, h1, Sem.run_pure]
    · cases i with
      | zero => simp at hy; subst hy; exact OutV.spec H0 H R hv2 ho
      | succ i => exact h4 i y (by simpa using hy)

theorem Fn.intro {P : Program} {n : FuncId} {fn : Func} {c : Code} {N : Nat} {s0 s1 : Sto} {args : List AV} {res : AV} (ks : Nat → Bool) (hf : P.funcs[n]? = some fn) (hb : fn.body = some c) (hN : fn.ntmps = N) (hargs : args.length ≤ N)
    (h : ∀ C : Ctx P, EW C N c (St.init s0 args) (fun e σ => (e = .normal ∨ e = .ret) ∧ ResOk P N σ fn.results.toList s0 s1 ks res)) : Fn P n s0 args s1 res := by
  intro C hs0 H vals hl hv
  subst hs0
  have hsim : Sim C N (St.init C.s0 args) { tmps := vals.toArray ++ Array.replicate (fn.ntmps - vals.toArray.size) undef, defers := [] } C.w0 := by
    refine ⟨_, _, H, rfl, by simp; omega, fun i hi => ?_⟩
    rw [init_look]
    by_cases hlt : i < args.length
    · have e1 : (vals.toArray ++ Array.replicate (fn.ntmps - vals.toArray.size) undef).getD i undef = vals.getD i undef := by
        have : i < vals.length := by omega
        simp [Array.getD_eq_getD_getElem?, Array.getElem?_append, this]
      have e2 : args.getD i .xx = args[i] := by simp [hlt]
      rw [e1, e2]
      exact hv i args[i] (by simp [hlt])
    · have e2 : args.getD i .xx = .xx := by simp [Nat.not_lt.1 hlt]
      rw [e2]
      exact .xx _
  refine calls_of_wp hf hb (wp_mono (h C _ _ hsim) (fun e a' w' ⟨σ', ⟨he, hrest, hres⟩, hs'⟩ => ?_))
  obtain ⟨h', bk', H', hdf, hN', ht⟩ := hs'
  have H1 := HeapOk.rest H H' hrest
  have hret : ∃ v, (results fn a'.tmps).run P w' = .ok v w' ∧ Rel C s1 w' (hRest C h' ks) (bkRest C bk' ks) v res := by
    have hfr : fn.results = fn.results.toList.toArray := by simp
    have hre : (Go.results fn a'.tmps).run P w' = ((fn.results.mapM (rvRun a'.tmps)) >>= fun vs => pure (if h : vs.size = 1 then vs[0] else .tuple vs)).run P w' := by
      have key : ∀ g : ResultVar → Sem Value, (∀ r, g r = rvRun a'.tmps r) → ((fn.results.mapM g) >>= fun vs => (pure (if h : vs.size = 1 then vs[0] else .tuple vs) : Sem Value)).run P w' = ((fn.results.mapM (rvRun a'.tmps)) >>= fun vs => pure (if h : vs.size = 1 then vs[0] else .tuple vs)).run P w' := by
        intro g hg
        rw [show g = rvRun a'.tmps from funext hg]
      exact key _ (fun r => by cases r <;> rfl)
    rw [hre, hfr]
    generalize fn.results.toList = rs at hres
    cases hres with
    | one hn hr ho =>
      rename_i r x
      obtain ⟨v, hv1, hv2⟩ := resA.spec H' ht hr hn
      refine ⟨v, ?_, OutV.spec H H' hrest hv2 ho⟩
      have : ([r].mapM (rvRun a'.tmps)).run P w' = .ok [v] w' := by simp only [List.mapM_cons, List.mapM_nil, Sem.run_bind, hv1, Result.andThen_ok, Sem.run_pure]
      rw [List.mapM_toArray, Sem.run_bind, Sem.run_map, this]
      rfl
    | @many _ ys hne hall =>
      obtain ⟨vs, hvs, hvl, hvl2, hvv⟩ := ResL.spec H H' hrest ht hall
      refine ⟨.tuple vs.toArray, ?_, ?_⟩
      · rw [List.mapM_toArray, Sem.run_bind, Sem.run_map, hvs]
        simp only [Result.andThen_ok, Sem.run_pure]
        rw [dif_neg (by simp; omega)]
      · refine .tu _ ys (by simp; omega) (fun i y hy => ?_)
        have e1 : vs.toArray.getD i undef = vs.getD i undef := by simp [Array.getD_eq_getD_getElem?]
        rw [e1]
        exact hvv i y hy
  obtain ⟨v, hv1, hv2⟩ := hret
  rcases he with rfl | rfl <;> exact ⟨hdf, v, hv1, v, _, _, rfl, H1, hv2⟩

end Go.SL
