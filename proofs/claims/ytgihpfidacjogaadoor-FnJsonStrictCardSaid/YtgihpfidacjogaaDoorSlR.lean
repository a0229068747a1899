/- S-logic: what printed texts use besides. -/
import Derived.Test.YtgihpfidacjogaaDoorSlQ
import Derived.Laws.MakeOwn
set_option linter.unusedVariables false
set_option linter.unusedSimpArgs false
namespace Go.SL
open Go.RowKit

theorem sj_ {α : Type} {a b : α} (h : some a = some b) : a = b := Option.some.inj h
theorem itT {α : Type} {b : Bool} {x y : Option α} {r : α} (h : (if b = true then x else y) = some r) (hb : b = true) : x = some r := by subst hb; exact h
theorem itF {α : Type} {b : Bool} {x y : Option α} {r : α} (h : (if b = true then x else y) = some r) (hb : b = false) : y = some r := by subst hb; exact h
theorem nT {b : Bool} (h : b = false) : b ≠ true := by rw [h]; decide
theorem nF {b : Bool} (h : b = true) : b ≠ false := by rw [h]; decide
theorem nz_ {a : Int} {z : Unit} (h : (if (a == 0) = true then none else some ()) = some z) : a ≠ 0 := by
  rintro rfl
  cases h

/-- The state can be told so that R holds. -/
def Up {P : Program} (C : Ctx P) (N : Nat) (R : St → Prop) (σ : St) : Prop := ∀ a w, Sim C N σ a w → ∃ σ', R σ' ∧ Sim C N σ' a w
section
variable {P : Program} {C : Ctx P} {N : Nat} {Q : Exit → St → Prop}
theorem Up.of {R : St → Prop} {σ : St} (h : R σ) : Up C N R σ := fun _ _ hs => ⟨σ, h, hs⟩
theorem Up.at {t : List (Nat × AV)} {s : Sto} {R : St → Prop} {g : Nat → Nat} {hs : List Nat} {L : (Nat → Nat) → List (Nat × AV)} {O : (Nat → Nat) → List (Nat × Ob)}
    (ks : List Nat) (hq : ∀ σ', At g hs L O σ' → R σ') (hf : agree g hs (wkF s ks)) (hL : allLe s (stoF (wkF s ks) (O (wkF s ks))) (memK ks) t (L (wkF s ks))) (hO : allOb s (stoF (wkF s ks) (O (wkF s ks))) (memK ks) ks (O (wkF s ks))) : Up C N R ⟨t, s⟩ :=
  fun _ _ hS => ⟨_, hq _ ⟨_, hf, rfl⟩, Sim.less ks _ hL hO hS⟩
theorem EW.monoU {c : Code} {σ : St} {Q' : Exit → St → Prop} (h : EW C N c σ Q) (hq : ∀ e σ', Q e σ' → Up C N (Q' e) σ') : EW C N c σ Q' := fun a w hs =>
  wp_mono (h a w hs) (fun e a' w' ⟨σ', h1, h2⟩ => hq e σ' h1 a' w' h2)
theorem EW.bjU {σ : St} (J : St → Prop) {x : Code} (h1 : EW C N x σ (thenQ J Q)) (h2 : ∀ σ', J σ' → Up C N (Q .normal) σ') : EW C N x σ Q :=
  EW.monoU h1 (fun e σ' h => by
    cases e with
    | normal => exact h2 σ' h
    | exit id => exact Up.of h
    | goto l => exact Up.of h
    | ret => exact Up.of h
    | panic c => exact Up.of h
    | outgrown => exact Up.of h)
theorem EW.drawU {σ : St} {id : Nat} {ops : Array Oper} (hm : P.follows .mixedOrders = true) (h : EOpsD C N ops (Up C N (Q .normal)) ops.toList σ []) : EW C N (.region id ops true) σ Q :=
  EW.monoU (Q := fun e σ' => e = .normal ∧ Up C N (Q .normal) σ') (EW.draw hm (by
    have key : ∀ l σ rs, EOpsD C N ops (Up C N (Q .normal)) l σ rs → EOpsD C N ops (fun σ' => Exit.normal = Exit.normal ∧ Up C N (Q .normal) σ') l σ rs := by
      intro l σ rs hh
      induction hh with
      | nil hc hk => exact .nil hc ⟨rfl, hk⟩
      | cc hf hd _ ih => exact .cc hf hd ih
      | ggy hj hdN hb hw hf hd _ ih => exact .ggy hj hdN hb hw hf hd ih
      | ggn hj hdN hb hw _ ih => exact .ggn hj hdN hb hw ih
      | ggu hj hdN hb _ ih => exact .ggu hj hdN hb ih
    exact key _ _ _ h)) (fun e σ' hh => by obtain ⟨rfl, hu⟩ := hh; exact hu)
end

/-- Temporaries of which no more is told. -/
inductive XxL : List (Nat × AV) → List (Nat × AV) → Prop
  | nil {t : List (Nat × AV)} : XxL t t
  | same {d : Nat} {x : AV} {t t' : List (Nat × AV)} (h : XxL t t') : XxL ((d, x) :: t) ((d, x) :: t')
  | drop {d : Nat} {x : AV} {t t' : List (Nat × AV)} (h : XxL t t') : XxL ((d, x) :: t) ((d, .xx) :: t')
theorem XxL.look {t t' : List (Nat × AV)} (h : XxL t t') : ∀ n, lookT t' n = lookT t n ∨ lookT t' n = .xx := by
  induction h with
  | nil => exact fun n => .inl rfl
  | @same d x t t' h ih =>
    intro n
    rw [lookT_cons, lookT_cons]
    by_cases e : n = d
    · rw [if_pos e, if_pos e]; exact .inl rfl
    · rw [if_neg e, if_neg e]; exact ih n
  | @drop d x t t' h ih =>
    intro n
    rw [lookT_cons, lookT_cons]
    by_cases e : n = d
    · rw [if_pos e]; exact .inr rfl
    · rw [if_neg e, if_neg e]; exact ih n
def xxs : List Nat → List (Nat × AV) → List (Nat × AV)
  | [], t => t
  | d :: ds, t => (d, .xx) :: xxs ds t
section
variable {P : Program} {C : Ctx P} {N : Nat} {ops : Array Oper} {l : List Oper} {t t' : List (Nat × AV)} {s : Sto} {K : St → Prop}
theorem EOps.drp (h : XxL t t') (k : EOps C N ops l ⟨t', s⟩ K) : EOps C N ops l ⟨t, s⟩ K := fun a w hs => k a w (by
  obtain ⟨hh, bk, H, hdf, hN, ht⟩ := hs
  refine ⟨hh, bk, H, hdf, hN, fun n hn => ?_⟩
  rcases h.look n with e | e
  · show Rel C s w hh bk _ (lookT t' n)
    rw [e]; exact ht n hn
  · show Rel C s w hh bk _ (lookT t' n)
    rw [e]; exact .xx _)
theorem EOps.fork2 (ds : List Nat) (d : Nat) (x : AV) (m : Nat) (b : Bool) (h1 : b = true → ∀ K : St → Prop, EOps C N ops (l.drop m) ⟨(d, x) :: xxs ds t, s⟩ K → EOps C N ops l ⟨t, s⟩ K)
    (h2 : b = false → ∀ K : St → Prop, EOps C N ops (l.drop m) ⟨(d, x) :: xxs ds t, s⟩ K → EOps C N ops l ⟨t, s⟩ K) (h : EOps C N ops (l.drop m) ⟨(d, x) :: xxs ds t, s⟩ K) : EOps C N ops l ⟨t, s⟩ K := by
  cases b with
  | true => exact h1 rfl K h
  | false => exact h2 rfl K h
end

theorem CellsF.map_ {cs : List FV} : CellsF (cs.map .fz) cs := CellsF.map
theorem ElemA.agE {xs : List AV} {cs cs' : List FV} (hc : cs = cs') (h : CellsF xs cs') : ElemA (.ag xs) cs := by subst hc; exact .ag h

inductive ElemsP (ρA : Operand → AV) : Nat → List (Nat × Operand) → List (List FV) → Prop
  | nil {i : Nat} : ElemsP ρA i [] []
  | cons {i : Nat} {p : Operand} {c : List FV} {ps : List (Nat × Operand)} {es : List (List FV)} (h : ElemA (ρA p) c) (t : ElemsP ρA (i + 1) ps es) : ElemsP ρA i ((i, p) :: ps) (c :: es)
theorem ElemsP.spec {ρA : Operand → AV} {i : Nat} {parts : List (Nat × Operand)} {es : List (List FV)} (h : ElemsP ρA i parts es) : ∃ ps : List Operand, parts = (ps.zipIdx i).map (fun x => (x.2, x.1)) ∧ ps.length = parts.length ∧ ElemsA ρA ps es := by
  induction h with
  | nil => exact ⟨[], rfl, rfl, .nil⟩
  | @cons i p c ps es h t ih =>
    obtain ⟨qs, h1, h2, h3⟩ := ih
    exact ⟨p :: qs, by rw [h1]; simp, by simp [h2], .cons h h3⟩

def mkl {α : Type} (b : Nat) (n : Int) (z : α) : Option (List α) := if 0 ≤ n ∧ n * b ≤ 140737488355328 then some (List.replicate n.toNat z) else none
theorem mkl_some {α : Type} {b : Nat} {n : Int} {z : α} {r : List α} (h : mkl b n z = some r) : 0 ≤ n ∧ n * b ≤ 140737488355328 ∧ r = List.replicate n.toNat z := by
  unfold mkl at h
  split at h
  · rename_i h0; cases h; exact ⟨h0.1, h0.2, rfl⟩
  · cases h

section
variable {P : Program} {C : Ctx P} {dst : Option Nat} {ty : Nat} {pos : String} {af : Array Edge} {gd : Option (Nat × Bool)} {s : Sto} {ρA : Operand → AV} {t e sz by_ u : Nat} {p q : Operand} {zs : List Value} {α : Type} {enc : α → List FV} {l : List α}
theorem len_map (h : ∀ x, (enc x).length = sz) : ∀ c ∈ l.map enc, c.length = sz := by
  intro c hc
  obtain ⟨x, _, rfl⟩ := List.mem_map.1 hc
  exact h x
theorem D.litZ {l : List α} {enc : α → List FV} {n : Nat} {parts : List (Nat × Operand)} (ht : P.underlying t = some (.slice e)) (hz : zb P e = some (zs, sz, by_)) (hsz : Nat.blt 0 sz = true) (hsm : Nat.ble (n * sz) 16777216 = true) (hn : parts.length = n) (hes : ∀ x, (enc x).length = sz) (hx : ElemsP ρA 0 parts (l.map enc)) :
    Dz C ⟨dst, .buildSlice t n ⟨parts⟩, ty, pos, af, gd⟩ s ρA (.fz (.ls sz (l.map enc))) [] [] := by
  obtain ⟨ps, h1, h2, h3⟩ := hx.spec
  exact D.litF ht hz hsz hsm ps h1 (by omega) (len_map hes) h3
theorem D.litO {l : List α} {enc : α → List FV} {n : Nat} {parts : List (Nat × Operand)} (d : Nat) (hd : (s d).v = u) (ht : P.underlying t = some (.slice e)) (hz : zb P e = some (zs, sz, by_)) (hsz : Nat.blt 0 sz = true) (hsm : Nat.ble (n * sz) 16777216 = true) (hn : parts.length = n) (hes : ∀ x, (enc x).length = sz) (hx : ElemsP ρA 0 parts (l.map enc)) :
    Dz C ⟨dst, .buildSlice t n ⟨parts⟩, ty, pos, af, gd⟩ s ρA (.ow d (u + 1)) [(d, ⟨u + 1, .row e sz (l.map enc)⟩)] [d] := by
  obtain ⟨ps, h1, h2, h3⟩ := hx.spec
  exact D.lit ht hz hsz hsm ps h1 (by omega) (len_map hes) h3 d hd
theorem D.appZ {l2 r : List α} {enc : α → List FV} {ks : List Nat} (d : Nat) (hd : (s d).v = u) (ht : P.underlying t = some (.slice e)) (hz : zel P e sz by_ = true) (hp : ρA p = .fz (.sc (.slice none 0 0))) (hq : SrcL s ks (ρA q) sz (l2.map enc)) (h : apd by_ ([] : List α) l2 = some r) :
    Dz C ⟨dst, .call { callee := .builtin .append, args := ⟨[p, q]⟩, argTypes := ⟨[t, t]⟩ }, ty, pos, af, gd⟩ s ρA (.ow d (u + 1)) [(d, ⟨u + 1, .row e sz (r.map enc)⟩)] (d :: ks) := by
  obtain ⟨h1, rfl⟩ := apd_some h
  exact D.appN d hd ht hz hp hq (by simpa using h1)

theorem made_at {z : Array Value} {n i j : Nat} (hz : 0 < z.size) (hi : i < n) (hj : j < z.size) : (madeCells z (n * z.size))[i * z.size + j]? = some (z.getD j undef) := by
  have hlt : i * z.size + j < n * z.size := mul_lt_of hi hj
  unfold madeCells
  have e1 : (i * z.size + j) % z.size = j := by rw [Nat.add_comm, Nat.add_mul_mod_self_right, Nat.mod_eq_of_lt hj]
  simp only [Array.getElem?_map, Array.getElem?_range, hlt, if_true, Option.map_some, e1]
  simp [hj]
/-- make: n zero values. -/
theorem D.mk {n : Int} {z : α} {r : List α} {enc : α → List FV} (d : Nat) (hd : (s d).v = u) (ht : P.underlying t = some (.slice e)) (hz : zb P e = some (zs, sz, by_)) (hsz : Nat.blt 0 sz = true) (hby : Nat.blt 0 by_ = true) (hzs : zs.all (·.oneCell') = true ∧ zs.length = sz) (hp : ρA p = .fz (.sc (.int .i64 n)) ∧ ρA q = .fz (.sc (.int .i64 n))) (hzz : CellsF (zs.map fun v => .fz (.sc v)) (enc z)) (h : mkl by_ n z = some r) :
    Dz C ⟨dst, .makeSlice t p q, ty, pos, af, gd⟩ s ρA (.ow d (u + 1)) [(d, ⟨u + 1, .row e sz (r.map enc)⟩)] [d] := fun s1 hs => by
  have e1 : (s1 d).v = u := by rw [hs d (by simp)]; exact hd
  subst e1
  obtain ⟨hn0, hnb, rfl⟩ := mkl_some h
  exact Does.turn fun ρ w hh bk H hr => by
    have rp := hr p (by simp [Op.operands])
    have rq := hr q (by simp [Op.operands])
    rw [hp.1] at rp
    rw [hp.2] at rq
    obtain ⟨i, zv, hi, hz0, hzc, his, hib⟩ := zb_spec hz
    have hbyp : 0 < by_ := Nat.le_of_ble_eq_true hby
    have hszp : 0 < sz := Nat.le_of_ble_eq_true hsz
    have hle : n ≤ n * by_ := by
      have : (1 : Int) ≤ by_ := by omega
      have := Int.mul_le_mul_of_nonneg_left this hn0
      omega
    have hcs : zv.cells.size = sz := by rw [← hzs.2, ← hzc]; simp
    have hrun := run_make (P := P) w t e i zv ht hi hz0 .i64 .i64 n n hn0 (Int.le_refl n) (by rw [hib, Int.mul_comm]; omega) (by omega)
    rw [his] at hrun
    have hcells : (enc z).length = sz := by have := hzz.at.1; simp at this; omega
    have hsize : (madeCells zv.cells (n.toNat * sz)).size = n.toNat * sz := size_madeCells _ _
    have hb : Born C w bk e sz ((List.replicate n.toNat z).map enc) (.slice (some ⟨w.heap.size, 0, none⟩) n.toNat n.toNat) (w.alloc (.cells (madeCells zv.cells (n.toNat * sz)) e)) := by
      refine ⟨alloc_below _ (Nat.le_refl _), fun b hb => (by cases hb; exact Nat.le_refl _), hszp, fun c hc => ?_, (madeCells zv.cells (n.toNat * sz)).toList, ⟨by simp [hsize], .inr ⟨w.heap.size, n.toNat, _, by simp, Nat.le_refl _, heap_alloc_new w _, by simp, by simp only [maxLen]; omega, hsize, by rw [List.take_of_length_le (by simp [hsize])]⟩⟩, fun a b x hx => ?_⟩
      · rw [List.map_replicate] at hc
        rw [List.eq_of_mem_replicate hc]; exact hcells
      · obtain ⟨y, hy, hyb⟩ := Option.bind_eq_some_iff.1 hx
        have ha : a < n.toNat := by have := (List.getElem?_eq_some_iff.1 hy).1; simpa using this
        have hy' : y = enc z := by
          rw [List.map_replicate, List.getElem?_replicate_of_lt ha] at hy
          exact (Option.some.inj hy).symm
        subst hy'
        have hb' : b < sz := by have := (List.getElem?_eq_some_iff.1 hyb).1; omega
        have hzsb : zs[b]? = some (zs[b]'(by omega)) := List.getElem?_eq_getElem _
        have hv : zv.cells.getD b undef = zs[b]'(by omega) := by
          have : zv.cells.toList[b]? = some (zs[b]'(by omega)) := by rw [hzc]; exact hzsb
          have : zv.cells[b]? = some (zs[b]'(by omega)) := by simpa using this
          simp [Array.getD_eq_getD_getElem?, this]
        have hone : (zs[b]'(by omega)).oneCell' = true := List.all_eq_true.1 hzs.1 _ (List.getElem_mem _)
        refine ⟨zs[b]'(by omega), ?_, hone, ?_⟩
        · have := made_at (z := zv.cells) (n := n.toNat) (i := a) (j := b) (by omega) ha (by omega)
          rw [hcs, hv] at this
          simpa using this
        · have hc := hzz.at.2 b (.fz (.sc (zs[b]'(by omega)))) x (by rw [List.getElem?_map, hzsb]; rfl) hyb
          exact (CellF.spec (C := C) (s := s1) (h := hh) (.fz (.sc _ hone)) hc).2
    obtain ⟨h', bk', a1, a2, a3⟩ := hb.own H d
    exact ⟨_, _, h', bk', .inl (by simp only [execOp, rp.sc, rq.sc, Sem.run_bind, hrun, Result.andThen_ok, Sem.run_pure]), a1, a2, fun _ => a3⟩
end

/-- A part of a slice that is read only. -/
theorem RelF.cut {w : World} {M : Nat → Prop} {b o c sz n i j : Nat} {es : List (List FV)} (r : RelF w M (.slice (some ⟨b, o, none⟩) n c) (.ls sz es)) (hn : n = es.length) (hij : i ≤ j) (hj : j ≤ n) (hc : n ≤ c) (hcm : c ≤ maxLen) :
    RelF w M (.slice (if c - i = 0 then some ⟨b, o, none⟩ else some ⟨b, o + i * sz, none⟩) (j - i) (c - i)) (.ls sz ((es.drop i).take (j - i))) := by
  by_cases h0 : j - i = 0
  · have e1 : (es.drop i).take (j - i) = [] := by rw [h0]; simp
    rw [e1, h0]
    refine .emp _ _ _ (fun h => ?_)
    split at h <;> cases h
  · cases r with
    | emp A c sz hA => simp at hn; omega
    | ls b o c sz n es f hn' hne hsz hc hm hM hl hcell hrel =>
      rw [if_neg (by omega)]
      have hlen : ((es.drop i).take (j - i)).length = j - i := by simp; omega
      refine .ls b (o + i * sz) (c - i) sz (j - i) _ (fun a d => f (i + a) d) hlen.symm (by intro h; rw [h] at hlen; simp at hlen; omega) hsz (by omega) (by omega) hM (fun x hx => hl x (List.mem_of_mem_drop (List.mem_of_mem_take hx))) (fun a d ha hd => ?_) (fun a d x hx => ?_)
      · rw [hlen] at ha
        have := hcell (i + a) d (by omega) hd
        rw [show o + i * sz + (a * sz + d) = o + ((i + a) * sz + d) by rw [Nat.add_mul]; omega]
        exact this
      · obtain ⟨y, hy, hyd⟩ := Option.bind_eq_some_iff.1 hx
        have ha : a < j - i := by have := (List.getElem?_eq_some_iff.1 hy).1; omega
        rw [List.getElem?_take_of_lt ha, List.getElem?_drop] at hy
        exact hrel (i + a) d x (by rw [hy]; exact hyd)

/-- A function without objects of its own that stay. -/
theorem bumpF_nil (g : Nat → Nat) : bumpF g [] = g := rfl
theorem Fn.of0 {P : Program} {n : FuncId} {fn : Func} {N : Nat} {args : List AV} {res : AV} {g : Nat → Nat} {hs kl : List Nat} {O0 O1 : List (Nat × Ob)} {L : (Nat → Nat) → List (Nat × AV)} {O : (Nat → Nat) → List (Nat × Ob)} (hf : P.funcs[n]? = some fn) (hb : fn.body.isSome = true) (hN : fn.ntmps = N) (hargs : Nat.ble args.length N = true)
    (hres : ∀ f, agree g hs f → RestL g f (stoF f (O f)) (stoF g O1) (memK kl) [] kl ∧ ResV P N ⟨L f, stoF f (O f)⟩ (stoF g O1) (memK kl) fn.results.toList res) (h0 : keysIn O0 kl = true) (h1 : keysIn O1 kl = true)
    (h : ∀ C : Ctx P, EW C N (bAt fn []) ⟨numT 0 args, stoF g O0⟩ (FQ g hs L O)) : Fn P n (stoF g O0) args (stoF g O1) res :=
  Fn.of (bs := []) hf hb hN hargs hres h0 h1 rfl h

end Go.SL
