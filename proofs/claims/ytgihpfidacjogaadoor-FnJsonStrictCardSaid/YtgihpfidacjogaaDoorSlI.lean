/- S-logic, part 9: a region whose order is open. -/
import Derived.Test.YtgihpfidacjogaaDoorSlO
import Derived.Orders
set_option linter.unusedVariables false
set_option linter.unusedSimpArgs false
namespace Go.SL
open Go.RowKit

/-- A state whose temporaries are told by a function. -/
structure FS where
  t : Nat → AV
  s : Sto
def FS.put (σ : FS) (d : Option Nat) (x : AV) : FS := match d with | some d => { σ with t := fun n => if n = d then x else σ.t n } | none => σ
structure SimF {P : Program} (C : Ctx P) (N : Nat) (σ : FS) (a : Act) (w : World) : Prop where mk ::
  ex : ∃ h bk, HeapOk C σ.s w h bk ∧ a.defers = [] ∧ a.tmps.size = N ∧ ∀ n, n < N → Rel C σ.s w h bk (a.tmps.getD n undef) (σ.t n)
def evF (t : Nat → AV) : Operand → AV
  | .tmp n => t n
  | .const v => cA v
  | .global g => .fz (.sc (.pointer (some ⟨g, 0, none⟩)))
  | .func f => .fn f []
theorem SimF.put {P : Program} {C : Ctx P} {N : Nat} {σ : FS} {a : Act} {w' : World} {h : Nat → Value} {bk : Nat → Option Nat} {s' : Sto} {d : Option Nat} {v : Value} {x : AV}
    (H : HeapOk C s' w' h bk) (hdf : a.defers = []) (hN : a.tmps.size = N) (ht : ∀ n, n < N → Rel C s' w' h bk (a.tmps.getD n undef) (σ.t n))
    (hx : d ≠ none → Rel C s' w' h bk v x) : SimF C N (FS.put ⟨σ.t, s'⟩ d x) (a.put d v) w' := by
  cases d with
  | none => exact ⟨h, bk, H, hdf, hN, ht⟩
  | some j =>
    refine ⟨h, bk, H, hdf, by simp [Act.put, hN], fun n hn => ?_⟩
    rw [put_getD (by omega)]
    simp only [FS.put]
    split
    · exact hx (by simp)
    · exact ht n hn
theorem opRelF {P : Program} {C : Ctx P} {N : Nat} {σ : FS} {a : Act} {w : World} {h : Nat → Value} {bk : Nat → Option Nat} {o : Oper} (hf : inFrame N o = true) (ht : ∀ n, n < N → Rel C σ.s w h bk (a.tmps.getD n undef) (σ.t n)) :
    ∀ p, p ∈ o.op.operands → Rel C σ.s w h bk (a.eval p) (evF σ.t p) := by
  intro p hp
  have hpp := List.all_eq_true.1 hf p (by simpa using hp)
  cases p with
  | tmp n => exact ht n (Nat.le_of_ble_eq_true hpp)
  | const v => exact cA_spec hpp
  | global g => exact .fz (.sc _ rfl)
  | func f => exact .fn f #[] [] rfl (fun i x hx => by simp at hx)
theorem Does.wpF {P : Program} {C : Ctx P} {N : Nat} {o : Oper} {σ : FS} {x : AV} {s' : Sto} (hd : Does C o σ.s (evF σ.t) x s') (hf : inFrame N o = true) {a : Act} {w : World} (hs : SimF C N σ a w)
    {K : Act → World → Prop} {Q : Exit → Act → World → Prop} (hk : ∀ a' w', SimF C N (FS.put ⟨σ.t, s'⟩ o.dst x) a' w' → K a' w') : o.wp P a w K Q := by
  obtain ⟨h, bk, H, hdf, hN, ht⟩ := hs
  unfold Oper.wp
  refine hd a.eval w h bk H (opRelF hf ht) a K Q (fun v w' h' bk' H' hm hv => hk _ _ ?_)
  exact SimF.put (σ := σ) H' hdf hN (fun n hn => hm _ _ (ht n hn)) hv

/-- What an operation has done: its result, the object that it turned, the objects that it looked at. -/
structure Rec where
  run : Bool
  x : AV
  eff : List (Nat × Ent)
  ks : List Nat

/-- What is written last to k. -/
def look : List (Nat × Ent) → Nat → Option Ent
  | [], _ => none
  | (k', e) :: l, k => match look l k with
    | some e' => some e'
    | none => if k' = k then some e else none
theorem app_look : ∀ (l : List (Nat × Ent)) (s : Sto) (k : Nat), (s.app l) k = (look l k).getD (s k)
  | [], _, _ => rfl
  | (k', e) :: l, s, k => by
    unfold Sto.app look
    rw [app_look l]
    cases look l k with
    | some e' => rfl
    | none =>
      by_cases h : k' = k
      · subst h; simp [Sto.set_same]
      · rw [Sto.set_ne _ _ (Ne.symm h)]; simp [h]
theorem look_none : ∀ (l : List (Nat × Ent)) (k : Nat), k ∉ l.map (·.1) → look l k = none
  | [], _, _ => rfl
  | (k', e) :: l, k, h => by
    simp only [List.map_cons, List.mem_cons, not_or] at h
    unfold look
    rw [look_none l k h.2, if_neg (fun e => h.1 e.symm)]
theorem look_some : ∀ (l : List (Nat × Ent)) (k : Nat), k ∈ l.map (·.1) → ∃ e, look l k = some e
  | [], _, h => by simp at h
  | (k', e) :: l, k, h => by
    unfold look
    cases hl : look l k with
    | some e' => exact ⟨e', rfl⟩
    | none =>
      by_cases h' : k' = k
      · exact ⟨e, by rw [if_pos h']⟩
      · refine (?_ : False).elim
        simp only [List.map_cons, List.mem_cons] at h
        rcases h with h | h
        · exact h' h.symm
        · obtain ⟨e', he⟩ := look_some l k h
          rw [hl] at he
          cases he

def LDoes {P : Program} (C : Ctx P) (o : Oper) (s : Sto) (ρA : Operand → AV) (r : Rec) : Prop :=
  ∀ s1 : Sto, (∀ k, k ∈ r.ks → s1 k = s k) → Does C o s1 ρA r.x (s1.app r.eff)

theorem Does.ext {P : Program} {C : Ctx P} {o : Oper} {s : Sto} {ρA ρB : Operand → AV} {x : AV} {s' : Sto} (h : Does C o s ρA x s') (he : ∀ p, p ∈ o.op.operands → ρB p = ρA p) : Does C o s ρB x s' :=
  fun ρ w hh bk H hr => h ρ w hh bk H (fun p hp => by rw [← he p hp]; exact hr p hp)

def FS.nxt (σ : FS) (o : Oper) (r : Rec) : FS := FS.put ⟨σ.t, σ.s.app r.eff⟩ o.dst r.x

/-- The state when the operations of D are done. -/
def stD : List (Oper × Rec) → (Nat → Bool) → Nat → FS → FS
  | [], _, _, σ => σ
  | (o, r) :: l, D, i, σ => stD l D (i + 1) (if D i then σ.nxt o r else σ)

theorem nxt_t (σ : FS) (o : Oper) (r : Rec) (n : Nat) : (σ.nxt o r).t n = if o.dst = some n then r.x else σ.t n := by
  unfold FS.nxt FS.put
  cases o.dst with
  | none => rfl
  | some d =>
    simp only [Option.some.injEq]
    by_cases h : n = d
    · subst h; simp
    · rw [if_neg h, if_neg (fun e => h e.symm)]
theorem nxt_s (σ : FS) (o : Oper) (r : Rec) (k : Nat) : (σ.nxt o r).s k = (look r.eff k).getD (σ.s k) := by
  have h1 : (σ.nxt o r).s = σ.s.app r.eff := by unfold FS.nxt FS.put; cases o.dst <;> rfl
  rw [h1, app_look]

def keysOf (r : Rec) : List Nat := r.eff.map (·.1)

theorem nxt_s_ne {σ : FS} {o : Oper} {r : Rec} {k : Nat} (h : k ∉ keysOf r) : (σ.nxt o r).s k = σ.s k := by
  rw [nxt_s, look_none _ _ h]
  rfl
theorem nxt_s_congr {σ σ' : FS} {o : Oper} {r : Rec} {k : Nat} (h : σ.s k = σ'.s k) : (σ.nxt o r).s k = (σ'.nxt o r).s k := by
  rw [nxt_s, nxt_s, h]
theorem nxt_t_congr {σ σ' : FS} {o : Oper} {r : Rec} {n : Nat} (h : σ.t n = σ'.t n) : (σ.nxt o r).t n = (σ'.nxt o r).t n := by
  rw [nxt_t, nxt_t, h]

/-- Two sets that agree where n is written. -/
theorem stD_t {n : Nat} {D D' : Nat → Bool} : ∀ (l : List (Oper × Rec)) (i : Nat) (σ σ' : FS), σ.t n = σ'.t n → (∀ j o r, l[j]? = some (o, r) → o.dst = some n → D (i + j) = D' (i + j)) → (stD l D i σ).t n = (stD l D' i σ').t n
  | [], _, _, _, h, _ => h
  | (o, r) :: l, i, σ, σ', h, k => by
    unfold stD
    refine stD_t l (i + 1) _ _ ?_ (fun j o' r' hj hd => by rw [Nat.add_assoc, Nat.add_comm 1 j]; exact k (j + 1) o' r' (by simpa using hj) hd)
    by_cases hd : o.dst = some n
    · have := k 0 o r (by simp) hd
      simp only [Nat.add_zero] at this
      rw [this]
      split
      · exact nxt_t_congr h
      · exact h
    · have e1 : ∀ τ : FS, (τ.nxt o r).t n = τ.t n := fun τ => by rw [nxt_t, if_neg hd]
      have e2 : ∀ (b : Bool) (τ : FS), (if b then τ.nxt o r else τ).t n = τ.t n := fun b τ => by cases b <;> simp [e1]
      rw [e2, e2]; exact h
theorem stD_s {k : Nat} {D D' : Nat → Bool} : ∀ (l : List (Oper × Rec)) (i : Nat) (σ σ' : FS), σ.s k = σ'.s k → (∀ j o r, l[j]? = some (o, r) → k ∈ keysOf r → D (i + j) = D' (i + j)) → (stD l D i σ).s k = (stD l D' i σ').s k
  | [], _, _, _, h, _ => h
  | (o, r) :: l, i, σ, σ', h, g => by
    unfold stD
    refine stD_s l (i + 1) _ _ ?_ (fun j o' r' hj hd => by rw [Nat.add_assoc, Nat.add_comm 1 j]; exact g (j + 1) o' r' (by simpa using hj) hd)
    by_cases hd : k ∈ keysOf r
    · have := g 0 o r (by simp) hd
      simp only [Nat.add_zero] at this
      rw [this]
      split
      · exact nxt_s_congr h
      · exact h
    · have e2 : ∀ (b : Bool) (τ : FS), (if b then τ.nxt o r else τ).s k = τ.s k := fun b τ => by
        cases b
        · simp
        · simp only [if_true]; exact nxt_s_ne hd
      rw [e2, e2]; exact h

/-- One more is done: the last that writes n. -/
theorem stD_t_add {n i0 : Nat} {o0 : Oper} {r0 : Rec} {D : Nat → Bool} (hD : D i0 = false) : ∀ (l : List (Oper × Rec)) (i : Nat) (σ : FS), (∀ j o r, l[j]? = some (o, r) → i0 < i + j → D (i + j) = true → o.dst = some n → False) → i ≤ i0 → l[i0 - i]? = some (o0, r0) → o0.dst = some n →
    (stD l (fun j => D j || j == i0) i σ).t n = r0.x
  | [], _, _, _, _, h, _ => by simp at h
  | (o, r) :: l, i, σ, hne, hi, h, hd => by
    unfold stD
    by_cases e : i = i0
    · subst e
      simp at h
      obtain ⟨rfl, rfl⟩ := h
      simp only [BEq.rfl, Bool.or_true, if_true]
      have h1 : (stD l (fun j => D j || j == i) (i + 1) (σ.nxt o r)).t n = (stD l (fun _ => false) (i + 1) (σ.nxt o r)).t n :=
        stD_t l (i + 1) _ _ rfl (fun j o' r' hj hd' => by
          have hb : (i + 1 + j == i) = false := by simp; omega
          rw [hb, Bool.or_false]
          cases hc : D (i + 1 + j) with
          | false => rfl
          | true =>
            refine (hne (j + 1) o' r' (by simpa using hj) (by omega) ?_ hd').elim
            rw [show i + (j + 1) = i + 1 + j by omega]; exact hc)
      have h2 : ∀ (l : List (Oper × Rec)) i σ, stD l (fun _ => false) i σ = σ := by
        intro l
        induction l with
        | nil => intros; rfl
        | cons p l ih => intro i σ; obtain ⟨o, r⟩ := p; unfold stD; simp [ih]
      rw [h1, h2, nxt_t, if_pos hd]
    · refine stD_t_add hD l (i + 1) _ (fun j o' r' hj hlt hc hd' => hne (j + 1) o' r' (by simpa using hj) (by omega) (by rw [show i + (j + 1) = i + 1 + j by omega]; exact hc) hd') (by omega) ?_ hd
      rw [show i0 - i = (i0 - (i + 1)) + 1 by omega] at h
      simpa using h
theorem stD_s_add {k i0 : Nat} {e0 : Ent} {o0 : Oper} {r0 : Rec} {D : Nat → Bool} (hD : D i0 = false) : ∀ (l : List (Oper × Rec)) (i : Nat) (σ : FS), (∀ j o r, l[j]? = some (o, r) → i0 < i + j → D (i + j) = true → k ∈ keysOf r → False) → i ≤ i0 → l[i0 - i]? = some (o0, r0) → look r0.eff k = some e0 →
    (stD l (fun j => D j || j == i0) i σ).s k = e0
  | [], _, _, _, _, h, _ => by simp at h
  | (o, r) :: l, i, σ, hne, hi, h, hd => by
    unfold stD
    by_cases e : i = i0
    · subst e
      simp at h
      obtain ⟨rfl, rfl⟩ := h
      simp only [BEq.rfl, Bool.or_true, if_true]
      have h1 : (stD l (fun j => D j || j == i) (i + 1) (σ.nxt o r)).s k = (stD l (fun _ => false) (i + 1) (σ.nxt o r)).s k :=
        stD_s l (i + 1) _ _ rfl (fun j o' r' hj hd' => by
          have hb : (i + 1 + j == i) = false := by simp; omega
          rw [hb, Bool.or_false]
          cases hc : D (i + 1 + j) with
          | false => rfl
          | true =>
            refine (hne (j + 1) o' r' (by simpa using hj) (by omega) ?_ hd').elim
            rw [show i + (j + 1) = i + 1 + j by omega]; exact hc)
      have h2 : ∀ (l : List (Oper × Rec)) i σ, stD l (fun _ => false) i σ = σ := by
        intro l
        induction l with
        | nil => intros; rfl
        | cons p l ih => intro i σ; obtain ⟨o, r⟩ := p; unfold stD; simp [ih]
      rw [h1, h2, nxt_s, hd]
      rfl
    · refine stD_s_add (o0 := o0) hD l (i + 1) _ (fun j o' r' hj hlt hc hd' => hne (j + 1) o' r' (by simpa using hj) (by omega) (by rw [show i + (j + 1) = i + 1 + j by omega]; exact hc) hd') (by omega) ?_ hd
      rw [show i0 - i = (i0 - (i + 1)) + 1 by omega] at h
      simpa using h

theorem stD_none {D : Nat → Bool} : ∀ (l : List (Oper × Rec)) (i : Nat) (σ : FS), (∀ m, i ≤ m → D m = false) → stD l D i σ = σ
  | [], _, _, _ => rfl
  | (o, r) :: l, i, σ, h => by
    unfold stD
    rw [h i (Nat.le_refl _)]
    exact stD_none l (i + 1) σ (fun m hm => h m (by omega))

/-! ### The chain in text order -/
def stepOk {P : Program} (C : Ctx P) (N : Nat) (ops : Array Oper) (σ : FS) (o : Oper) (r : Rec) : Prop :=
  (r.run = true → inFrame N o = true ∧ LDoes C o σ.s (evF σ.t) r) ∧ (r.run = false → r.x = .ud ∧ r.eff = []) ∧
  match o.guard with
  | none => r.run = true
  | some (j, want) => ∃ d : Nat, (ops[j]?).bind (·.dst) = some d ∧ d < N ∧ ((∃ b : Bool, σ.t d = .fz (.sc (.bool b)) ∧ r.run = (b == want)) ∨ (σ.t d = .ud ∧ r.run = false))
def Chain {P : Program} (C : Ctx P) (N : Nat) (ops : Array Oper) : List (Oper × Rec) → FS → Prop
  | [], _ => True
  | (o, r) :: l, σ => stepOk C N ops σ o r ∧ Chain C N ops l (σ.nxt o r)
theorem Chain.at {P : Program} {C : Ctx P} {N : Nat} {ops : Array Oper} : ∀ (l : List (Oper × Rec)) (i : Nat) (σ : FS), Chain C N ops l σ → ∀ (j : Nat) (o : Oper) (r : Rec), l[j]? = some (o, r) → stepOk C N ops (stD l (fun m => decide (m < i + j)) i σ) o r
  | [], _, _, _, _, _, _, h => by simp at h
  | (o, r) :: l, i, σ, ⟨h1, h2⟩, 0, o', r', h => by
    simp at h
    obtain ⟨rfl, rfl⟩ := h
    rw [stD_none _ _ _ (fun m hm => by simp; omega)]
    exact h1
  | (o, r) :: l, i, σ, ⟨h1, h2⟩, j + 1, o', r', h => by
    have := Chain.at l (i + 1) _ h2 j o' r' (by simpa using h)
    unfold stD
    rw [if_pos (by simp), show i + (j + 1) = i + 1 + j by omega]
    exact this

/-! ### What may be done in any order -/
def tmpsOf (ops : Array Oper) (o : Oper) : List Nat :=
  (o.op.operands.toList.filterMap fun | .tmp t => some t | _ => none) ++ match o.guard with
    | some (j, _) => ((ops[j]?).bind (·.dst)).toList
    | none => []
def apartB (ops : Array Oper) (p q : Oper × Rec) : Bool :=
  (match p.1.dst with
    | none => true
    | some d => !(tmpsOf ops q.1).contains d && q.1.dst != some d) &&
  (match q.1.dst with
    | none => true
    | some d => !(tmpsOf ops p.1).contains d) &&
  ((keysOf p.2).all fun k => !q.2.ks.contains k && !(keysOf q.2).contains k) &&
  ((keysOf q.2).all fun k => !p.2.ks.contains k)
/-- what stands before, as bits: M tells it for every operation -/
def befM (M : List Nat) : List Edge → Nat
  | [] => 0
  | e :: l => if Region.binds .any e then Nat.lor (Nat.lor (Nat.shiftLeft 1 e.on) (M.getD e.on 0)) (befM M l) else befM M l
def ancOk (l : List Oper) (M : List Nat) : Bool :=
  (List.range l.length).all fun i => match l[i]? with
    | none => true
    | some o => (o.after.toList.all fun e => !Region.binds .any e || decide (e.on < i)) && Nat.beq (Nat.lor (befM M o.after.toList) (M.getD i 0)) (befM M o.after.toList)
def pairsOk (ops : Array Oper) (l : List (Oper × Rec)) (M : List Nat) : Bool :=
  (List.range l.length).all fun i => (List.range i).all fun j => (M.getD i 0).testBit j || match l[i]?, l[j]? with
    | some p, some q => apartB ops p q
    | _, _ => true
def commB (M : List Nat) (ops : Array Oper) (rs : List Rec) : Bool := ancOk ops.toList M && pairsOk ops (ops.toList.zip rs) M

structure Apart (ops : Array Oper) (p q : Oper × Rec) : Prop where
  dt : ∀ d, p.1.dst = some d → d ∉ tmpsOf ops q.1
  dd : ∀ d, p.1.dst = some d → q.1.dst = some d → False
  dt' : ∀ d, q.1.dst = some d → d ∉ tmpsOf ops p.1
  kk : ∀ k, k ∈ keysOf p.2 → k ∉ q.2.ks
  kd : ∀ k, k ∈ keysOf p.2 → k ∈ keysOf q.2 → False
  kk' : ∀ k, k ∈ keysOf q.2 → k ∉ p.2.ks
theorem apartB_spec {ops : Array Oper} {p q : Oper × Rec} (h : apartB ops p q = true) : Apart ops p q := by
  unfold apartB at h
  simp only [Bool.and_eq_true] at h
  obtain ⟨⟨⟨h1, h2⟩, h3⟩, h4⟩ := h
  refine ⟨fun d hd => ?_, fun d hd hq => ?_, fun d hd => ?_, fun k hk => ?_, fun k hk hq => ?_, fun k hk => ?_⟩
  · rw [hd] at h1; simp at h1; exact h1.1
  · rw [hd] at h1; simp at h1; exact h1.2 hq
  · rw [hd] at h2; simpa using h2
  · have := List.all_eq_true.1 h3 k hk; simp at this; exact this.1
  · have := List.all_eq_true.1 h3 k hk; simp at this; exact this.2 hq
  · have := List.all_eq_true.1 h4 k hk; simpa using this

structure Comm (ops : Array Oper) (l : List (Oper × Rec)) (A : Nat → List Nat) : Prop where
  back : ∀ i o, ops[i]? = some o → ∀ e, e ∈ o.after → Region.binds .any e = true → e.on < i
  anc : ∀ i o, ops[i]? = some o → ∀ a, a ∈ A i → ∃ e, e ∈ o.after ∧ Region.binds .any e = true ∧ (a = e.on ∨ a ∈ A e.on)
  pair : ∀ i j p q, j < i → l[i]? = some p → l[j]? = some q → j ∈ A i ∨ Apart ops p q
theorem befM_spec {M : List Nat} {a : Nat} : ∀ {l : List Edge}, (befM M l).testBit a = true → ∃ e, e ∈ l ∧ Region.binds .any e = true ∧ (a = e.on ∨ (M.getD e.on 0).testBit a = true)
  | [], h => by simp [befM] at h
  | e :: l, h => by
    unfold befM at h
    split at h
    · rename_i hb
      rw [show Nat.lor (Nat.lor (Nat.shiftLeft 1 e.on) (M.getD e.on 0)) (befM M l) = ((1 <<< e.on) ||| M.getD e.on 0) ||| befM M l from rfl] at h
      rw [Nat.testBit_or, Nat.testBit_or, Nat.one_shiftLeft, Nat.testBit_two_pow] at h
      simp only [Bool.or_eq_true, decide_eq_true_eq] at h
      rcases h with (h | h) | h
      · exact ⟨e, by simp, hb, .inl h.symm⟩
      · exact ⟨e, by simp, hb, .inr h⟩
      · obtain ⟨e', h1, h2⟩ := befM_spec h
        exact ⟨e', by simp [h1], h2⟩
    · obtain ⟨e', h1, h2⟩ := befM_spec h
      exact ⟨e', by simp [h1], h2⟩
theorem commB_spec {M : List Nat} {ops : Array Oper} {rs : List Rec} (h : commB M ops rs = true) : ∃ A, Comm ops (ops.toList.zip rs) A := by
  unfold commB at h
  simp only [Bool.and_eq_true] at h
  obtain ⟨h1, h2⟩ := h
  refine ⟨fun i => (List.range ops.size).filter fun a => (M.getD i 0).testBit a, ⟨fun i o ho e he hb => ?_, fun i o ho a ha => ?_, fun i j p q hji hp hq => ?_⟩⟩
  · have hi : i < ops.toList.length := by simpa using (Array.getElem?_eq_some_iff.1 ho).1
    have := List.all_eq_true.1 h1 i (List.mem_range.2 hi)
    have ho' : ops.toList[i]? = some o := by simpa using ho
    rw [ho'] at this
    simp only [Bool.and_eq_true] at this
    have := List.all_eq_true.1 this.1 e (by simpa using he)
    rw [hb] at this
    simpa using this
  · have hi : i < ops.toList.length := by simpa using (Array.getElem?_eq_some_iff.1 ho).1
    have := List.all_eq_true.1 h1 i (List.mem_range.2 hi)
    have ho' : ops.toList[i]? = some o := by simpa using ho
    rw [ho'] at this
    simp only [Bool.and_eq_true] at this
    have h3 := Nat.eq_of_beq_eq_true this.2
    rw [List.mem_filter] at ha
    have h4 : (befM M o.after.toList).testBit a = true := by
      rw [← h3, show Nat.lor (befM M o.after.toList) (M.getD i 0) = befM M o.after.toList ||| M.getD i 0 from rfl, Nat.testBit_or, ha.2, Bool.or_true]
    obtain ⟨e, he, hb, hx⟩ := befM_spec h4
    exact ⟨e, by simpa using he, hb, hx.imp id (fun h => List.mem_filter.2 ⟨ha.1, h⟩)⟩
  · have hi := (List.getElem?_eq_some_iff.1 hp).1
    have := List.all_eq_true.1 h2 i (List.mem_range.2 hi)
    have := List.all_eq_true.1 this j (List.mem_range.2 hji)
    rw [hp, hq] at this
    simp only [Bool.or_eq_true] at this
    refine this.imp (fun h => List.mem_filter.2 ⟨List.mem_range.2 ?_, h⟩) apartB_spec
    have : (ops.toList.zip rs).length ≤ ops.size := by simp; omega
    omega

def Closed (ops : Array Oper) (D : Nat → Bool) : Prop := ∀ i o, ops[i]? = some o → D i = true → ∀ e, e ∈ o.after → Region.binds .any e = true → D e.on = true
theorem Comm.anc_done {ops : Array Oper} {l : List (Oper × Rec)} {A : Nat → List Nat} (c : Comm ops l A) {D : Nat → Bool} (hD : Closed ops D) :
    ∀ i o, ops[i]? = some o → (∀ e, e ∈ o.after → Region.binds .any e = true → D e.on = true) → ∀ a, a ∈ A i → D a = true := by
  intro i
  induction i using Nat.strongRecOn with
  | _ i ih =>
    intro o ho hp a ha
    obtain ⟨e, he, hb, h⟩ := c.anc i o ho a ha
    rcases h with rfl | h
    · exact hp e he hb
    · have hlt := c.back i o ho e he hb
      have hi := (Array.getElem?_eq_some_iff.1 ho).1
      have ho' : ops[e.on]? = some ops[e.on] := Array.getElem?_eq_getElem (by omega)
      exact ih e.on hlt _ ho' (hD e.on _ ho' (hp e he hb)) a h

section
variable {P : Program} {C : Ctx P} {N : Nat} {ops : Array Oper} {rs : List Rec} {σ0 : FS} {A : Nat → List Nat}

theorem zip_at {i : Nat} {o : Oper} (hl : rs.length = ops.size) (ho : ops[i]? = some o) : ∃ r, (ops.toList.zip rs)[i]? = some (o, r) := by
  have hi := (Array.getElem?_eq_some_iff.1 ho).1
  have hr : i < rs.length := by omega
  refine ⟨rs[i], ?_⟩
  rw [List.getElem?_zip_eq_some]
  exact ⟨by simpa using ho, by simp [hr]⟩
theorem zip_op {i : Nat} {p : Oper × Rec} (h : (ops.toList.zip rs)[i]? = some p) : ops[i]? = some p.1 := by
  obtain ⟨o, r⟩ := p
  rw [List.getElem?_zip_eq_some] at h
  simpa using h.1

/-- What op i sees is what it sees in text order. -/
theorem sees_t (c : Comm ops (ops.toList.zip rs) A) {D : Nat → Bool} (hD : Closed ops D) {i : Nat} {o : Oper} {r : Rec} (hi : (ops.toList.zip rs)[i]? = some (o, r)) (hDi : D i = false)
    (hp : ∀ e, e ∈ o.after → Region.binds .any e = true → D e.on = true) {n : Nat} (hn : n ∈ tmpsOf ops o) :
    (stD (ops.toList.zip rs) D 0 σ0).t n = (stD (ops.toList.zip rs) (fun m => decide (m < 0 + i)) 0 σ0).t n := by
  refine stD_t _ 0 σ0 σ0 rfl (fun j o' r' hj hd => ?_)
  simp only [Nat.zero_add]
  rcases Nat.lt_trichotomy j i with h | h | h
  · rw [decide_eq_true h]
    rcases c.pair i j _ _ h hi hj with h1 | h1
    · exact c.anc_done hD i o (zip_op hi) hp j h1
    · exact (h1.dt' n hd hn).elim
  · subst h; simp [hDi]
  · rw [decide_eq_false (by omega)]
    cases hc : D j with
    | false => rfl
    | true =>
      rcases c.pair j i _ _ h hj hi with h1 | h1
      · have := c.anc_done hD j o' (zip_op hj) (hD j o' (zip_op hj) hc) i h1
        rw [hDi] at this
        cases this
      · exact (h1.dt n hd hn).elim
theorem sees_s (c : Comm ops (ops.toList.zip rs) A) {D : Nat → Bool} (hD : Closed ops D) {i : Nat} {o : Oper} {r : Rec} (hi : (ops.toList.zip rs)[i]? = some (o, r)) (hDi : D i = false)
    (hp : ∀ e, e ∈ o.after → Region.binds .any e = true → D e.on = true) {k : Nat} (hk : k ∈ r.ks) :
    (stD (ops.toList.zip rs) D 0 σ0).s k = (stD (ops.toList.zip rs) (fun m => decide (m < 0 + i)) 0 σ0).s k := by
  refine stD_s _ 0 σ0 σ0 rfl (fun j o' r' hj hd => ?_)
  simp only [Nat.zero_add]
  rcases Nat.lt_trichotomy j i with h | h | h
  · rw [decide_eq_true h]
    rcases c.pair i j _ _ h hi hj with h1 | h1
    · exact c.anc_done hD i o (zip_op hi) hp j h1
    · exact (h1.kk' k hd hk).elim
  · subst h; simp [hDi]
  · rw [decide_eq_false (by omega)]
    cases hc : D j with
    | false => rfl
    | true =>
      rcases c.pair j i _ _ h hj hi with h1 | h1
      · have := c.anc_done hD j o' (zip_op hj) (hD j o' (zip_op hj) hc) i h1
        rw [hDi] at this
        cases this
      · exact (h1.kk k hd hk).elim
theorem added (c : Comm ops (ops.toList.zip rs) A) {D : Nat → Bool} (hD : Closed ops D) {i : Nat} {o : Oper} {r : Rec} (hi : (ops.toList.zip rs)[i]? = some (o, r)) (hDi : D i = false) :
    (stD (ops.toList.zip rs) D 0 σ0).nxt o r = stD (ops.toList.zip rs) (fun j => D j || j == i) 0 σ0 := by
  have late : ∀ (j : Nat) (p : Oper × Rec), (ops.toList.zip rs)[j]? = some p → i < j → D j = true → Apart ops p (o, r) := by
    intro j p hj hlt hc
    rcases c.pair j i _ _ hlt hj hi with h1 | h1
    · have := c.anc_done hD j p.1 (zip_op hj) (hD j p.1 (zip_op hj) hc) i h1
      rw [hDi] at this
      cases this
    · exact h1
  have ht : ∀ n, ((stD (ops.toList.zip rs) D 0 σ0).nxt o r).t n = (stD (ops.toList.zip rs) (fun j => D j || j == i) 0 σ0).t n := by
    intro n
    rw [nxt_t]
    by_cases hd : o.dst = some n
    · rw [if_pos hd]
      refine (stD_t_add (o0 := o) hDi _ 0 σ0 (fun j o' r' hj hlt hc hd' => ?_) (Nat.zero_le _) (by simpa using hi) hd).symm
      simp only [Nat.zero_add] at hlt hc
      exact (late j _ hj hlt hc).dd n hd' hd
    · rw [if_neg hd]
      refine stD_t _ 0 σ0 σ0 rfl (fun j o' r' hj hd' => ?_)
      have : j ≠ i := by
        rintro rfl
        rw [hj] at hi
        cases hi
        exact hd hd'
      have hb : (0 + j == i) = false := by simp; omega
      rw [hb, Bool.or_false]
  have hs : ∀ k, ((stD (ops.toList.zip rs) D 0 σ0).nxt o r).s k = (stD (ops.toList.zip rs) (fun j => D j || j == i) 0 σ0).s k := by
    intro k
    by_cases hd : k ∈ keysOf r
    · obtain ⟨e, he⟩ := look_some _ _ hd
      rw [stD_s_add (o0 := o) hDi _ 0 σ0 (fun j o' r' hj hlt hc hd' => by
        simp only [Nat.zero_add] at hlt hc
        exact (late j _ hj hlt hc).kd k hd' hd) (Nat.zero_le _) (by simpa using hi) he, nxt_s, he]
      rfl
    · rw [nxt_s_ne hd]
      refine stD_s _ 0 σ0 σ0 rfl (fun j o' r' hj hd' => ?_)
      have : j ≠ i := by
        rintro rfl
        rw [hj] at hi
        cases hi
        exact hd hd'
      have hb : (0 + j == i) = false := by simp; omega
      rw [hb, Bool.or_false]
  generalize (stD (ops.toList.zip rs) D 0 σ0).nxt o r = x at *
  generalize stD (ops.toList.zip rs) (fun j => D j || j == i) 0 σ0 = y at *
  cases x
  cases y
  simp only at ht hs
  rw [FS.mk.injEq]
  exact ⟨funext ht, funext hs⟩

theorem count_set {m i : Nat} {p p' : Nat → Bool} (hi : i < m) (h : p i = true) (h' : ∀ j, p' j = (p j && j != i)) : (List.range m).countP p = (List.range m).countP p' + 1 := by
  have same : ∀ m, m ≤ i → (List.range m).countP p = (List.range m).countP p' := by
    intro m hm
    refine List.countP_congr (fun j hj => ?_)
    have := List.mem_range.1 hj
    rw [h']
    have : (j != i) = true := by simp; omega
    simp [this]
  have : ∀ d, (List.range (i + 1 + d)).countP p = (List.range (i + 1 + d)).countP p' + 1 := by
    intro d
    induction d with
    | zero =>
      rw [Nat.add_zero, List.range_succ, List.countP_append, List.countP_append, same i (Nat.le_refl _)]
      simp [h, h']
    | succ d ih =>
      rw [← Nat.add_assoc, List.range_succ, List.countP_append, List.countP_append, ih]
      have hne : (i + 1 + d != i) = true := by simp; omega
      simp only [List.countP_cons, List.countP_nil, h', hne, Bool.and_true]
      omega
  have := this (m - (i + 1))
  rwa [show i + 1 + (m - (i + 1)) = m by omega] at this

theorem listed_set {listed : Array Bool} {i : Nat} (hi : i < listed.size) (j : Nat) : (listed.setIfInBounds i true).getD j false = (listed.getD j false || j == i) := by
  by_cases h : j = i
  · subst h; simp [Array.getD_eq_getD_getElem?, hi]
  · have hb : (j == i) = false := by simp [h]
    rw [hb, Bool.or_false]
    simp only [Array.getD_eq_getD_getElem?]
    rw [Array.getElem?_setIfInBounds_ne (Ne.symm h)]

theorem any_run (hl : rs.length = ops.size) (hch : Chain C N ops (ops.toList.zip rs) σ0) (c : Comm ops (ops.toList.zip rs) A) {Q : Exit → Act → World → Prop}
    (hQ : ∀ a w, SimF C N (stD (ops.toList.zip rs) (fun _ => true) 0 σ0) a w → Q .normal a w) :
    ∀ (fuel : Nat) (listed : Array Bool) (a : Act) (w : World), listed.size = ops.size → (List.range ops.size).countP (fun j => !listed.getD j false) ≤ fuel → Closed ops (fun j => listed.getD j false) →
      SimF C N (stD (ops.toList.zip rs) (fun j => listed.getD j false) 0 σ0) a w → wpAny P .any ops Q fuel listed a w := by
  -- when nothing is ready, all is done
  have done : ∀ (listed : Array Bool), listed.size = ops.size → Closed ops (fun j => listed.getD j false) → Region.ready .any ops listed = [] → ∀ j, j < ops.size → listed.getD j false = true := by
    intro listed hsz hcl hr j
    induction j using Nat.strongRecOn with
    | _ j ih =>
      intro hj
      cases hc : listed.getD j false with
      | true => rfl
      | false =>
        have hm : j ∈ Region.ready .any ops listed := by
          rw [mem_ready]
          refine ⟨?_, ops[j], Array.getElem?_eq_getElem hj, fun e he hb => ?_⟩
          · have : j < listed.size := by omega
            simpa [Array.getD_eq_getD_getElem?, this] using hc
          · have hb' := c.back j _ (Array.getElem?_eq_getElem hj) e he hb
            exact ih e.on hb' (by omega)
        rw [hr] at hm
        cases hm
  have fin : ∀ (listed : Array Bool) a w, (∀ j, j < ops.size → listed.getD j false = true) → SimF C N (stD (ops.toList.zip rs) (fun j => listed.getD j false) 0 σ0) a w → Q .normal a w := by
    intro listed a w hall hs
    have e1 : stD (ops.toList.zip rs) (fun j => listed.getD j false) 0 σ0 = stD (ops.toList.zip rs) (fun _ => true) 0 σ0 := by
      have hin : ∀ (j : Nat) (p : Oper × Rec), (ops.toList.zip rs)[j]? = some p → listed.getD (0 + j) false = true := by
        intro j p hj
        rw [Nat.zero_add]
        exact hall j (Array.getElem?_eq_some_iff.1 (zip_op hj)).1
      have ht : ∀ n, (stD (ops.toList.zip rs) (fun j => listed.getD j false) 0 σ0).t n = (stD (ops.toList.zip rs) (fun _ => true) 0 σ0).t n := fun n =>
        stD_t _ 0 σ0 σ0 rfl (fun j o' r' hj _ => hin j _ hj)
      have hs : ∀ k, (stD (ops.toList.zip rs) (fun j => listed.getD j false) 0 σ0).s k = (stD (ops.toList.zip rs) (fun _ => true) 0 σ0).s k := fun n =>
        stD_s _ 0 σ0 σ0 rfl (fun j o' r' hj _ => hin j _ hj)
      generalize stD (ops.toList.zip rs) (fun j => listed.getD j false) 0 σ0 = x at *
      generalize stD (ops.toList.zip rs) (fun _ => true) 0 σ0 = y at *
      cases x
      cases y
      simp only at ht hs
      rw [FS.mk.injEq]
      exact ⟨funext ht, funext hs⟩
    rw [e1] at hs
    exact hQ a w hs
  intro fuel
  induction fuel with
  | zero =>
    intro listed a w hsz hcnt hcl hs
    have hall : ∀ j, j < ops.size → listed.getD j false = true := by
      intro j hj
      have h0 : (List.range ops.size).countP (fun j => !listed.getD j false) = 0 := by omega
      have := List.countP_eq_zero.1 h0 j (List.mem_range.2 hj)
      simpa using this
    refine ⟨?_, fin listed a w hall hs⟩
    refine List.eq_nil_iff_forall_not_mem.2 (fun j hj => ?_)
    obtain ⟨h1, o, ho, _⟩ := mem_ready.1 hj
    have hj' := (Array.getElem?_eq_some_iff.1 ho).1
    have h2 := hall j hj'
    have : j < listed.size := by omega
    simp only [Array.getD_eq_getD_getElem?, Array.getElem?_eq_getElem this, Option.getD_some] at h1 h2
    rw [h1] at h2
    cases h2
  | succ fuel ih =>
    intro listed a w hsz hcnt hcl hs
    refine ⟨fun hr => fin listed a w (done listed hsz hcl hr) hs, fun i hi => ?_⟩
    obtain ⟨h1, o, ho, hp⟩ := mem_ready.1 hi
    have hin := (Array.getElem?_eq_some_iff.1 ho).1
    have hil : i < listed.size := by omega
    have hDi : listed.getD i false = false := by
      simpa [Array.getD_eq_getD_getElem?, hil] using h1
    obtain ⟨r, hir⟩ := zip_at hl ho
    have hst := Chain.at _ 0 σ0 hch i o r hir
    have hset : (fun j => (listed.setIfInBounds i true).getD j false) = fun j => (listed.getD j false || j == i) := funext (listed_set hil)
    have next : ∀ a' w', SimF C N ((stD (ops.toList.zip rs) (fun j => listed.getD j false) 0 σ0).nxt o r) a' w' → wpAny P .any ops Q fuel (listed.setIfInBounds i true) a' w' := by
      intro a' w' hs'
      refine ih _ a' w' (by simpa using hsz) ?_ ?_ ?_
      · have := count_set (m := ops.size) (i := i) (p := fun j => !listed.getD j false) (p' := fun j => !(listed.setIfInBounds i true).getD j false) hin (by simp only [hDi]; rfl) (fun j => by
          simp only [listed_set hil]
          cases listed.getD j false <;> simp [bne])
        omega
      · rw [hset]
        intro j oj hoj hdj e he hb
        simp only [Bool.or_eq_true, beq_iff_eq] at hdj ⊢
        rcases hdj with h | rfl
        · exact .inl (hcl j oj hoj h e he hb)
        · rw [ho] at hoj
          cases hoj
          exact .inl (hp e he hb)
      · rw [hset]
        rw [added c hcl hir hDi] at hs'
        exact hs'
    have st := fun n hn => sees_t (σ0 := σ0) c hcl hir hDi hp (n := n) hn
    have ss := fun k hk => sees_s (σ0 := σ0) c hcl hir hDi hp (k := k) hk
    generalize hτ : stD (ops.toList.zip rs) (fun j => listed.getD j false) 0 σ0 = τ at *
    generalize hα : stD (ops.toList.zip rs) (fun m => decide (m < 0 + i)) 0 σ0 = α at *
    obtain ⟨s1, s2, s3⟩ := hst
    have hwant : Region.wanted o (yielded ops a.tmps) = r.run := by
      unfold Region.wanted
      cases hg : o.guard with
      | none => rw [hg] at s3; exact s3.symm
      | some q =>
        obtain ⟨j, want⟩ := q
        rw [hg] at s3
        obtain ⟨d, hd, hdN, hcase⟩ := s3
        obtain ⟨h, bk, H, hdf, hN, ht⟩ := hs
        have hmem : d ∈ tmpsOf ops o := by
          unfold tmpsOf
          rw [hg]
          refine List.mem_append.2 (.inr ?_)
          show d ∈ ((ops[j]?).bind (·.dst)).toList
          rw [hd]; simp
        have rr := ht d hdN
        have hlt : d < a.tmps.size := by omega
        rcases hcase with ⟨b, hb, hrun⟩ | ⟨hb, hrun⟩
        · rw [st d hmem, hb] at rr
          have e := rr.sc
          have hy : yielded ops a.tmps j = some b := by
            unfold yielded
            rw [hd]
            simp only [Option.bind_some, Array.getElem?_eq_getElem hlt]
            have : a.tmps[d] = .bool b := by simpa [Array.getD_eq_getD_getElem?, hlt] using e
            rw [this]
          simp only [hy, hrun]
          cases b <;> cases want <;> rfl
        · rw [st d hmem, hb] at rr
          have e : a.tmps.getD d undef = undef := rr.ud_inv rfl
          have hy : yielded ops a.tmps j = none := by
            unfold yielded
            rw [hd]
            simp only [Option.bind_some, Array.getElem?_eq_getElem hlt]
            have : a.tmps[d] = undef := by simpa [Array.getD_eq_getD_getElem?, hlt] using e
            rw [this]
            rfl
          simp only [hy, hrun]
          cases want <;> rfl
    unfold wpOp
    rw [ho]
    simp only [hwant]
    cases hrun : r.run with
    | true =>
      rw [if_pos rfl]
      obtain ⟨hf, hd⟩ := s1 hrun
      have hd1 : Does C o τ.s (evF τ.t) r.x (τ.s.app r.eff) := (hd τ.s ss).ext (fun p hp => by
        cases p with
        | tmp n =>
          show τ.t n = α.t n
          refine st n ?_
          unfold tmpsOf
          exact List.mem_append.2 (.inl (List.mem_filterMap.2 ⟨.tmp n, by simpa using hp, rfl⟩))
        | const v => rfl
        | global g => rfl
        | func f => rfl)
      exact .inl (hd1.wpF hf hs (fun a' w' hs' => next a' w' hs'))
    | false =>
      rw [if_neg (by simp)]
      obtain ⟨hx, he⟩ := s2 hrun
      obtain ⟨h, bk, H, hdf, hN, ht⟩ := hs
      refine next _ _ ?_
      unfold FS.nxt
      rw [hx, he]
      exact SimF.put (σ := τ) H hdf hN ht (fun _ => .ud rfl)
end


/-- The operations of a region whose order is open, in text order. -/
inductive EOpsD {P : Program} (C : Ctx P) (N : Nat) (ops : Array Oper) (K : St → Prop) : List Oper → St → List Rec → Prop
  | nil {σ : St} {rs : List Rec} {M : List Nat} (hc : commB M ops rs.reverse = true) (hk : K σ) : EOpsD C N ops K [] σ rs
  | cc {op : Op} {ty : Nat} {ps : String} {af : Array Edge} {dst : Option Nat} {l : List Oper} {t : List (Nat × AV)} {s : Sto} {rs : List Rec} {x : AV} {eff : List (Nat × Ent)} {ks : List Nat} (hf : inFrame N ⟨dst, op, ty, ps, af, none⟩ = true)
      (hd : Dz C ⟨dst, op, ty, ps, af, none⟩ s (evA t) x eff ks) (hr : EOpsD C N ops K l (St.put ⟨t, s.app eff⟩ dst x) (⟨true, x, eff, ks⟩ :: rs)) : EOpsD C N ops K (⟨dst, op, ty, ps, af, none⟩ :: l) ⟨t, s⟩ rs
  | ggy {op : Op} {ty : Nat} {ps : String} {af : Array Edge} {dst : Option Nat} {l : List Oper} {t : List (Nat × AV)} {s : Sto} {rs : List Rec} {x : AV} {eff : List (Nat × Ent)} {ks : List Nat} {j d : Nat} {want b : Bool} (hj : (ops[j]?).bind (·.dst) = some d) (hdN : Nat.blt d N = true) (hb : lookT t d = .fz (.sc (.bool b))) (hw : b = want)
      (hf : inFrame N ⟨dst, op, ty, ps, af, some (j, want)⟩ = true) (hd : Dz C ⟨dst, op, ty, ps, af, some (j, want)⟩ s (evA t) x eff ks) (hr : EOpsD C N ops K l (St.put ⟨t, s.app eff⟩ dst x) (⟨true, x, eff, ks⟩ :: rs)) : EOpsD C N ops K (⟨dst, op, ty, ps, af, some (j, want)⟩ :: l) ⟨t, s⟩ rs
  | ggn {op : Op} {ty : Nat} {ps : String} {af : Array Edge} {dst : Option Nat} {l : List Oper} {t : List (Nat × AV)} {s : Sto} {rs : List Rec} {j d : Nat} {want b : Bool} (hj : (ops[j]?).bind (·.dst) = some d) (hdN : Nat.blt d N = true) (hb : lookT t d = .fz (.sc (.bool b))) (hw : b ≠ want)
      (hr : EOpsD C N ops K l (St.put ⟨t, s⟩ dst .ud) (⟨false, .ud, [], []⟩ :: rs)) : EOpsD C N ops K (⟨dst, op, ty, ps, af, some (j, want)⟩ :: l) ⟨t, s⟩ rs

  | ggu {op : Op} {ty : Nat} {ps : String} {af : Array Edge} {dst : Option Nat} {l : List Oper} {t : List (Nat × AV)} {s : Sto} {rs : List Rec} {j d : Nat} {want : Bool} (hj : (ops[j]?).bind (·.dst) = some d) (hdN : Nat.blt d N = true) (hb : lookT t d = .ud)
      (hr : EOpsD C N ops K l (St.put ⟨t, s⟩ dst .ud) (⟨false, .ud, [], []⟩ :: rs)) : EOpsD C N ops K (⟨dst, op, ty, ps, af, some (j, want)⟩ :: l) ⟨t, s⟩ rs

section
variable {P : Program} {C : Ctx P} {N : Nat} {ops : Array Oper} {op : Op} {ty d j k : Nat} {e : Ent} {ps : String} {af : Array Edge} {l : List Oper} {t : List (Nat × AV)} {s : Sto} {K : St → Prop} {x : AV} {ks : List Nat} {rs : List Rec} {eff : List (Nat × Ent)} {b want : Bool} {g : Nat}
theorem EOpsD.p (hf : inFrame N ⟨some d, op, ty, ps, af, none⟩ = true) (hd : Dz C ⟨some d, op, ty, ps, af, none⟩ s (evA t) x [] ks) (hr : EOpsD C N ops K l ⟨(d, x) :: t, s⟩ (⟨true, x, [], ks⟩ :: rs)) : EOpsD C N ops K (⟨some d, op, ty, ps, af, none⟩ :: l) ⟨t, s⟩ rs := .cc hf hd hr
theorem EOpsD.w (hf : inFrame N ⟨some d, op, ty, ps, af, none⟩ = true) (hd : Dz C ⟨some d, op, ty, ps, af, none⟩ s (evA t) x [(k, e)] ks) (hr : EOpsD C N ops K l ⟨(d, x) :: t, s.set k e⟩ (⟨true, x, [(k, e)], ks⟩ :: rs)) : EOpsD C N ops K (⟨some d, op, ty, ps, af, none⟩ :: l) ⟨t, s⟩ rs := .cc hf hd hr
theorem EOpsD.st (hf : inFrame N ⟨none, op, ty, ps, af, none⟩ = true) (hd : Dz C ⟨none, op, ty, ps, af, none⟩ s (evA t) x [(k, e)] ks) (hr : EOpsD C N ops K l ⟨t, s.set k e⟩ (⟨true, x, [(k, e)], ks⟩ :: rs)) : EOpsD C N ops K (⟨none, op, ty, ps, af, none⟩ :: l) ⟨t, s⟩ rs := .cc hf hd hr
theorem EOpsD.c (hf : inFrame N ⟨some d, op, ty, ps, af, none⟩ = true) (hd : Dz C ⟨some d, op, ty, ps, af, none⟩ s (evA t) x eff ks) (hr : EOpsD C N ops K l ⟨(d, x) :: t, s.app eff⟩ (⟨true, x, eff, ks⟩ :: rs)) : EOpsD C N ops K (⟨some d, op, ty, ps, af, none⟩ :: l) ⟨t, s⟩ rs := .cc hf hd hr
theorem EOpsD.c0 (hf : inFrame N ⟨none, op, ty, ps, af, none⟩ = true) (hd : Dz C ⟨none, op, ty, ps, af, none⟩ s (evA t) x eff ks) (hr : EOpsD C N ops K l ⟨t, s.app eff⟩ (⟨true, x, eff, ks⟩ :: rs)) : EOpsD C N ops K (⟨none, op, ty, ps, af, none⟩ :: l) ⟨t, s⟩ rs := .cc hf hd hr
theorem EOpsD.gy (hj : (ops[j]?).bind (·.dst) = some g) (hdN : Nat.blt g N = true) (hb : lookT t g = .fz (.sc (.bool b))) (hw : b = want) (hf : inFrame N ⟨some d, op, ty, ps, af, some (j, want)⟩ = true) (hd : Dz C ⟨some d, op, ty, ps, af, some (j, want)⟩ s (evA t) x [] ks)
    (hr : EOpsD C N ops K l ⟨(d, x) :: t, s⟩ (⟨true, x, [], ks⟩ :: rs)) : EOpsD C N ops K (⟨some d, op, ty, ps, af, some (j, want)⟩ :: l) ⟨t, s⟩ rs := .ggy hj hdN hb hw hf hd hr
theorem EOpsD.gyc (hj : (ops[j]?).bind (·.dst) = some g) (hdN : Nat.blt g N = true) (hb : lookT t g = .fz (.sc (.bool b))) (hw : b = want) (hf : inFrame N ⟨some d, op, ty, ps, af, some (j, want)⟩ = true) (hd : Dz C ⟨some d, op, ty, ps, af, some (j, want)⟩ s (evA t) x eff ks)
    (hr : EOpsD C N ops K l ⟨(d, x) :: t, s.app eff⟩ (⟨true, x, eff, ks⟩ :: rs)) : EOpsD C N ops K (⟨some d, op, ty, ps, af, some (j, want)⟩ :: l) ⟨t, s⟩ rs := .ggy hj hdN hb hw hf hd hr
theorem EOpsD.gu (hj : (ops[j]?).bind (·.dst) = some g) (hdN : Nat.blt g N = true) (hb : lookT t g = .ud)
    (hr : EOpsD C N ops K l ⟨(d, .ud) :: t, s⟩ (⟨false, .ud, [], []⟩ :: rs)) : EOpsD C N ops K (⟨some d, op, ty, ps, af, some (j, want)⟩ :: l) ⟨t, s⟩ rs := .ggu hj hdN hb hr
theorem EOpsD.gn (hj : (ops[j]?).bind (·.dst) = some g) (hdN : Nat.blt g N = true) (hb : lookT t g = .fz (.sc (.bool b))) (hw : b ≠ want)
    (hr : EOpsD C N ops K l ⟨(d, .ud) :: t, s⟩ (⟨false, .ud, [], []⟩ :: rs)) : EOpsD C N ops K (⟨some d, op, ty, ps, af, some (j, want)⟩ :: l) ⟨t, s⟩ rs := .ggn hj hdN hb hw hr
end

def FS.of (σ : St) : FS := ⟨lookT σ.t, σ.s⟩
theorem FS.of_put (σ : St) (d : Option Nat) (x : AV) : FS.of (St.put σ d x) = FS.put (FS.of σ) d x := by
  cases d with
  | none => rfl
  | some d =>
    show (⟨lookT ((d, x) :: σ.t), σ.s⟩ : FS) = ⟨fun n => if n = d then x else lookT σ.t n, σ.s⟩
    congr 1
    funext n
    exact lookT_cons d x σ.t n
theorem evF_of (t : List (Nat × AV)) : evF (lookT t) = evA t := by funext p; cases p <;> rfl

theorem EOpsD.spec {P : Program} {C : Ctx P} {N : Nat} {ops : Array Oper} {K : St → Prop} {l : List Oper} {σ : St} {rs : List Rec} (h : EOpsD C N ops K l σ rs) :
    ∃ rl : List Rec, rl.length = l.length ∧ Chain C N ops (l.zip rl) (FS.of σ) ∧ (∃ M, commB M ops (rs.reverse ++ rl) = true) ∧ ∀ i, ∃ σ', K σ' ∧ FS.of σ' = stD (l.zip rl) (fun _ => true) i (FS.of σ) := by
  induction h with
  | nil hc hk => exact ⟨[], rfl, trivial, ⟨_, by simpa using hc⟩, fun _ => ⟨_, hk, rfl⟩⟩
  | @cc op ty ps af dst l t s rs x eff ks hf hd hr ih =>
    obtain ⟨rl, h1, h2, h3, h4⟩ := ih
    rw [FS.of_put] at h2 h4
    refine ⟨⟨true, x, eff, ks⟩ :: rl, by simp [h1], ⟨⟨fun _ => ⟨hf, by rw [show evF (FS.of ⟨t, s⟩).t = evA t from evF_of t]; exact hd⟩, fun h => by simp at h, rfl⟩, h2⟩, by simpa using h3, fun i => ?_⟩
    obtain ⟨σ', k1, k2⟩ := h4 (i + 1)
    refine ⟨σ', k1, ?_⟩
    show FS.of σ' = stD ((_, (⟨true, x, eff, ks⟩ : Rec)) :: l.zip rl) (fun _ => true) i (FS.of ⟨t, s⟩)
    unfold stD
    rw [if_pos rfl]
    exact k2
  | @ggy op ty ps af dst l t s rs x eff ks j d want b hj hdN hb hw hf hd hr ih =>
    obtain ⟨rl, h1, h2, h3, h4⟩ := ih
    rw [FS.of_put] at h2 h4
    refine ⟨⟨true, x, eff, ks⟩ :: rl, by simp [h1], ⟨⟨fun _ => ⟨hf, by rw [show evF (FS.of ⟨t, s⟩).t = evA t from evF_of t]; exact hd⟩, fun h => by simp at h, d, hj, Nat.le_of_ble_eq_true hdN, .inl ⟨b, hb, by simp [hw]⟩⟩, h2⟩, by simpa using h3, fun i => ?_⟩
    obtain ⟨σ', k1, k2⟩ := h4 (i + 1)
    refine ⟨σ', k1, ?_⟩
    show FS.of σ' = stD ((_, (⟨true, x, eff, ks⟩ : Rec)) :: l.zip rl) (fun _ => true) i (FS.of ⟨t, s⟩)
    unfold stD
    rw [if_pos rfl]
    exact k2
  | @ggn op ty ps af dst l t s rs j d want b hj hdN hb hw hr ih =>
    obtain ⟨rl, h1, h2, h3, h4⟩ := ih
    rw [FS.of_put] at h2 h4
    refine ⟨⟨false, .ud, [], []⟩ :: rl, by simp [h1], ⟨⟨fun h => by simp at h, fun _ => ⟨rfl, rfl⟩, d, hj, Nat.le_of_ble_eq_true hdN, .inl ⟨b, hb, by cases b <;> cases want <;> simp at hw ⊢⟩⟩, h2⟩, by simpa using h3, fun i => ?_⟩
    obtain ⟨σ', k1, k2⟩ := h4 (i + 1)
    refine ⟨σ', k1, ?_⟩
    show FS.of σ' = stD ((_, (⟨false, .ud, [], []⟩ : Rec)) :: l.zip rl) (fun _ => true) i (FS.of ⟨t, s⟩)
    unfold stD
    rw [if_pos rfl]
    exact k2
  | @ggu op ty ps af dst l t s rs j d want hj hdN hb hr ih =>
    obtain ⟨rl, h1, h2, h3, h4⟩ := ih
    rw [FS.of_put] at h2 h4
    refine ⟨⟨false, .ud, [], []⟩ :: rl, by simp [h1], ⟨⟨fun h => by simp at h, fun _ => ⟨rfl, rfl⟩, d, hj, Nat.le_of_ble_eq_true hdN, .inr ⟨hb, rfl⟩⟩, h2⟩, by simpa using h3, fun i => ?_⟩
    obtain ⟨σ', k1, k2⟩ := h4 (i + 1)
    refine ⟨σ', k1, ?_⟩
    show FS.of σ' = stD ((_, (⟨false, .ud, [], []⟩ : Rec)) :: l.zip rl) (fun _ => true) i (FS.of ⟨t, s⟩)
    unfold stD
    rw [if_pos rfl]
    exact k2

theorem Sim.draw {P : Program} {C : Ctx P} {N : Nat} {σ : St} {a : Act} {w : World} (h : Sim C N σ a w) (n : Nat) : Sim C N σ a { w with drawn := n } := by
  obtain ⟨hh, bk, H, hdf, hN, ht⟩ := h
  obtain ⟨H', hm⟩ := H.grown (w' := { w with drawn := n }) ⟨rfl, rfl, rfl, Nat.le_refl _, fun _ _ => rfl⟩
  exact ⟨hh, bk, H', hdf, hN, fun m hm' => hm _ _ (ht m hm')⟩

theorem EW.draw {P : Program} {C : Ctx P} {N : Nat} {σ : St} {Q : Exit → St → Prop} {id : Nat} {ops : Array Oper} (hm : P.follows .mixedOrders = true) (h : EOpsD C N ops (Q .normal) ops.toList σ []) : EW C N (.region id ops true) σ Q := by
  intro a w hs
  obtain ⟨rl, h1, h2, h3, h4⟩ := h.spec
  obtain ⟨M, h3⟩ := h3
  obtain ⟨A, hc⟩ := commB_spec (M := M) (ops := ops) (rs := rl) (by simpa using h3)
  have h0 : ∀ j, (Array.replicate ops.size false).getD j false = false := by
    intro j
    simp only [Array.getD_eq_getD_getElem?, Array.getElem?_replicate]
    split <;> rfl
  obtain ⟨σ', k1, k2⟩ := h4 0
  have fin : ∀ a w, SimF C N (stD (ops.toList.zip rl) (fun _ => true) 0 (FS.of σ)) a w → ∃ σ', Q .normal σ' ∧ Sim C N σ' a w := by
    intro a' w' hs'
    rw [← k2] at hs'
    obtain ⟨e⟩ := hs'
    exact ⟨σ', k1, ⟨e⟩⟩
  refine wp_region_any hm (any_run (σ0 := FS.of σ) (by simpa using h1) h2 hc fin ops.size _ a _ (by simp) ?_ ?_ ?_)
  · exact Nat.le_trans List.countP_le_length (by simp)
  · intro i o _ hd
    simp only [h0] at hd
    cases hd
  · simp only [h0]
    rw [stD_none _ _ _ (fun _ _ => rfl)]
    obtain ⟨e⟩ := hs.draw (w.drawn + 1)
    exact ⟨e⟩
theorem EW.ds {P : Program} {C : Ctx P} {N : Nat} {σ : St} {Q : Exit → St → Prop} {id : Nat} {ops : Array Oper} {y : Code} (hm : P.follows .mixedOrders = true) (h : EOpsD C N ops (fun σ' => EW C N y σ' Q) ops.toList σ []) : EW C N (.seq (.region id ops true) y) σ Q := EW.seq (EW.draw hm h)

end Go.SL
