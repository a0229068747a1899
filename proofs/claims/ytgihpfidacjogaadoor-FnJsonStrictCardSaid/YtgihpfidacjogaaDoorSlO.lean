/- S-logic: the operations in the form that printed texts use. -/
import Derived.Test.YtgihpfidacjogaaDoorSlN
import Derived.Test.YtgihpfidacjogaaDoorSlJ
set_option linter.unusedVariables false
set_option linter.unusedSimpArgs false
namespace Go.SL
open Go.RowKit

def apd {α : Type} (b : Nat) (xs ys : List α) : Option (List α) := if (xs.length + ys.length) * b ≤ 140737488355328 then some (xs ++ ys) else none
theorem apd_some {α : Type} {b : Nat} {xs ys r : List α} (h : apd b xs ys = some r) : (xs.length + ys.length) * b ≤ 140737488355328 ∧ r = xs ++ ys := by
  unfold apd at h
  split at h
  · rename_i h0; cases h; exact ⟨h0, rfl⟩
  · cases h
def zel (P : Program) (e : TypeId) (sz b : Nat) : Bool := match zb P e with
  | some (zs, sz', b') => zs.length == sz && sz' == sz && b' == b && Nat.blt 0 sz && Nat.blt 0 b
  | none => false
theorem zel_spec {P : Program} {e sz b : Nat} (h : zel P e sz b = true) : ∃ zs, zb P e = some (zs, sz, b) ∧ zs.length = sz ∧ 0 < sz ∧ 0 < b := by
  unfold zel at h
  cases hz : zb P e with
  | none => rw [hz] at h; cases h
  | some r =>
    obtain ⟨zs, sz', b'⟩ := r
    rw [hz] at h
    simp only [Bool.and_eq_true, beq_iff_eq] at h
    obtain ⟨⟨⟨⟨h1, rfl⟩, rfl⟩, h4⟩, h5⟩ := h
    exact ⟨zs, rfl, h1, Nat.le_of_ble_eq_true h4, Nat.le_of_ble_eq_true h5⟩

section
variable {P : Program} {C : Ctx P} {dst : Option Nat} {ty : Nat} {pos : String} {af : Array Edge} {gd : Option (Nat × Bool)} {s : Sto} {ρA : Operand → AV} {t e n sz k u off : Nat} {p q : Operand}
theorem Dz.at {o : Oper} {x : AV} {ks : List Nat} {s' : Sto → Sto} {eff : List (Nat × Ent)} (h : ∀ s1, (∀ k, k ∈ ks → s1 k = s k) → Does C o s1 ρA x (s1.app eff)) : Dz C o s ρA x eff ks := h

/-! ### Variables of one's own -/
theorem D.box {cs : List AV} (d : Nat) (hd : (s d).v = u) (hc : cellsOf (ρA p) = some cs) : Dz C ⟨dst, .box t p, ty, pos, af, gd⟩ s ρA (.pt d (u + 1) 0) [(d, ⟨u + 1, .box t cs⟩)] [d] := fun s1 hs => by
  have e1 : (s1 d).v = u := by rw [hs d (by simp)]; exact hd
  subst e1
  exact Does.box t d p rfl cs hc
theorem D.alloc {zs : List Value} {cs : List AV} (d : Nat) (hd : (s d).v = u) (hz : zf P t = some zs) (h1 : zs.all (·.oneCell') = true) (hcs : (zs.map fun v => .fz (.sc v)) = cs) : Dz C ⟨dst, .alloc t, ty, pos, af, gd⟩ s ρA (.pt d (u + 1) 0) [(d, ⟨u + 1, .box t cs⟩)] [d] := fun s1 hs => by
  have e1 : (s1 d).v = u := by rw [hs d (by simp)]; exact hd
  subst e1
  subst hcs
  exact Does.alloc t d rfl zs hz h1
theorem D.ld1 {cs : List AV} {x : AV} (ht : tf P t = some (n, false)) (hp : ρA p = .pt k u off) (hk : s k = ⟨u, .box e cs⟩) (hx : cs[off]? = some x) : Dz C ⟨dst, .load t p, ty, pos, af, gd⟩ s ρA x [] [k] := fun s1 hs =>
  Does.load_box1 t n p rfl ht k u off e cs hp (by rw [hs k (by simp)]; exact hk) x hx
theorem D.ldN {cs cs' : List AV} (ht : tf P t = some (n, true)) (hp : ρA p = .pt k u off) (hk : s k = ⟨u, .box e cs⟩) (hl : Nat.ble (off + n) cs.length = true) (hc : (cs.drop off).take n = cs') : Dz C ⟨dst, .load t p, ty, pos, af, gd⟩ s ρA (.ag cs') [] [k] := fun s1 hs => by
  subst hc
  exact Does.load_boxN t n p rfl ht k u off e cs hp (by rw [hs k (by simp)]; exact hk) (Nat.le_of_ble_eq_true hl)
theorem D.st {b : Bool} {cs ys cs' : List AV} (ht : tf P t = some (n, b)) (hp : ρA p = .pt k u off) (hk : s k = ⟨u, .box e cs⟩) (hq : cellsOf (ρA q) = some ys) (hn : ys.length = n) (hl : Nat.ble (off + n) cs.length = true) (hc : wr cs off ys = cs') :
    Dz C ⟨none, .store t p q, ty, pos, af, gd⟩ s ρA .xx [(k, ⟨u, .box e cs'⟩)] [k] := fun s1 hs => by
  subst hc
  exact Does.store_box t n b p q rfl rfl ht k u off e cs ys hp (by rw [hs k (by simp)]; exact hk) hq hn (Nat.le_of_ble_eq_true hl) .xx
theorem D.fld {f o : Nat} {b : Bool} (ht : fo P t f = some (o, n, b)) (hn : Nat.blt 0 n = true) (hp : ρA p = .pt k u off) (hk : (s k).v = u) : Dz C ⟨dst, .fieldAddr t p f, ty, pos, af, gd⟩ s ρA (.pt k u (off + o)) [] [k] := fun s1 hs =>
  Does.field_pt t f o n b p rfl ht (Nat.le_of_ble_eq_true hn) k u off hp (by rw [hs k (by simp)]; exact hk)
theorem D.nck (hp : ρA p = .pt k u off) (hk : (s k).v = u) : Dz C ⟨dst, .nilCheck p, ty, pos, af, gd⟩ s ρA (.pt k u off) [] [k] := fun s1 hs =>
  Does.nilCheck p rfl k u off hp (by rw [hs k (by simp)]; exact hk)

/-! ### What is read only -/
theorem D.ldp1 {cs : List FV} {x : FV} (ht : tf P t = some (n, false)) (hp : ρA p = .pe cs) (hx : cs[0]? = some x) : Dz C ⟨dst, .load t p, ty, pos, af, gd⟩ s ρA (.fz x) [] [] := fun _ _ => Does.load_pe1 t n p rfl ht cs hp x hx
theorem D.ldpN {cs : List FV} {cs' : List AV} (ht : tf P t = some (n, true)) (hp : ρA p = .pe cs) (hl : Nat.ble n cs.length = true) (hc : (cs.take n).map .fz = cs') : Dz C ⟨dst, .load t p, ty, pos, af, gd⟩ s ρA (.ag cs') [] [] := fun _ _ => by
  subst hc
  exact Does.load_peN t n p rfl ht cs hp (Nat.le_of_ble_eq_true hl)
theorem D.fldp {f o : Nat} {b : Bool} {cs cs' : List FV} (ht : fo P t f = some (o, n, b)) (hn : Nat.blt 0 n = true) (hp : ρA p = .pe cs) (hc : cs.drop o = cs') : Dz C ⟨dst, .fieldAddr t p f, ty, pos, af, gd⟩ s ρA (.pe cs') [] [] := fun _ _ => by
  subst hc
  exact Does.field_pe t f o n b p rfl ht (Nat.le_of_ble_eq_true hn) cs hp
section
variable {α : Type} {enc : α → List FV} {l : List α} {kd : IntKind} {i : Int} {x : α} {cs : List FV}
theorem map_getD (hx : rd l i = some x) : (l.map enc).getD i.toNat [] = enc x := by
  obtain ⟨_, _, h⟩ := rd_some hx
  simp [List.getD_eq_getElem?_getD, List.getElem?_map, h]
theorem D.idx (ht : ef P t = some (e, sz)) (hp : ρA p = .fz (.ls sz (l.map enc))) (hq : ρA q = .fz (.sc (.int kd i))) (hx : rd l i = some x) (hc : enc x = cs) : Dz C ⟨dst, .indexAddr t p q, ty, pos, af, gd⟩ s ρA (.pe cs) [] [] := fun s1 _ => by
  subst hc
  have := Does.index_fz (C := C) (s := s1) (o := ⟨dst, .indexAddr t p q, ty, pos, af, gd⟩) t e sz p q rfl ht sz (l.map enc) (.inl hp) rfl kd i hq (rd_some hx).1 (by simpa using (rd_some hx).2.1)
  rw [map_getD hx] at this
  exact this
theorem D.idxB (ht : ef P t = some (e, sz)) (hp : ρA p = .br sz (l.map enc)) (hq : ρA q = .fz (.sc (.int kd i))) (hx : rd l i = some x) (hc : enc x = cs) : Dz C ⟨dst, .indexAddr t p q, ty, pos, af, gd⟩ s ρA (.pe cs) [] [] := fun s1 _ => by
  subst hc
  have := Does.index_fz (C := C) (s := s1) (o := ⟨dst, .indexAddr t p q, ty, pos, af, gd⟩) t e sz p q rfl ht sz (l.map enc) (.inr hp) rfl kd i hq (rd_some hx).1 (by simpa using (rd_some hx).2.1)
  rw [map_getD hx] at this
  exact this
theorem D.len (ht : ef P t = some (e, sz)) (hp : ρA p = .fz (.ls sz (l.map enc))) : Dz C ⟨dst, .call { callee := .builtin .len, args := ⟨[p]⟩, argTypes := ⟨[t]⟩ }, ty, pos, af, gd⟩ s ρA (.fz (.sc (.int .i64 (l.length : Int)))) [] [] := fun _ _ =>
  Does.len p t e sz rfl ht l.length (.inl ⟨sz, l.map enc, .inl hp, by simp⟩)
theorem D.lenB (ht : ef P t = some (e, sz)) (hp : ρA p = .br sz (l.map enc)) : Dz C ⟨dst, .call { callee := .builtin .len, args := ⟨[p]⟩, argTypes := ⟨[t]⟩ }, ty, pos, af, gd⟩ s ρA (.fz (.sc (.int .i64 (l.length : Int)))) [] [] := fun _ _ =>
  Does.len p t e sz rfl ht l.length (.inl ⟨sz, l.map enc, .inr hp, by simp⟩)
theorem D.lenN (ht : ef P t = some (e, sz)) (hp : ρA p = .fz (.sc (.slice none 0 0))) : Dz C ⟨dst, .call { callee := .builtin .len, args := ⟨[p]⟩, argTypes := ⟨[t]⟩ }, ty, pos, af, gd⟩ s ρA (.fz (.sc (.int .i64 (0 : Int)))) [] [] := fun _ _ =>
  Does.len p t e sz rfl ht 0 (.inr (.inr ⟨hp, rfl⟩))
theorem D.lenO {e' sz' : Nat} (ht : ef P t = some (e, sz)) (hp : ρA p = .ow k u) (hk : s k = ⟨u, .row e' sz' (l.map enc)⟩) : Dz C ⟨dst, .call { callee := .builtin .len, args := ⟨[p]⟩, argTypes := ⟨[t]⟩ }, ty, pos, af, gd⟩ s ρA (.fz (.sc (.int .i64 (l.length : Int)))) [] [k] := fun s1 hs =>
  Does.len p t e sz rfl ht l.length (.inr (.inl ⟨k, u, e', sz', l.map enc, hp, by rw [hs k (by simp)]; exact hk, by simp⟩))

/-! ### Rows of one's own -/
theorem D.idxO {e' : Nat} (ht : ef P t = some (e, sz)) (hp : ρA p = .ow k u) (hk : s k = ⟨u, .row e' sz (l.map enc)⟩) (hq : ρA q = .fz (.sc (.int kd i))) (hx : rd l i = some x) : Dz C ⟨dst, .indexAddr t p q, ty, pos, af, gd⟩ s ρA (.pt k u (i.toNat * sz + 0)) [] [k] := fun s1 hs =>
  Does.index_ow t e sz p q rfl ht k u e' sz (l.map enc) hp (by rw [hs k (by simp)]; exact hk) kd i hq (rd_some hx).1 (by simpa using (rd_some hx).2.1)
theorem D.fldO {m f o : Nat} {b : Bool} (ht : fo P t f = some (o, n, b)) (hn : Nat.blt 0 n = true) (hp : ρA p = .pt k u (m + off)) (hk : (s k).v = u) : Dz C ⟨dst, .fieldAddr t p f, ty, pos, af, gd⟩ s ρA (.pt k u (m + (off + o))) [] [k] := fun s1 hs => by
  have := Does.field_pt (C := C) (o := ⟨dst, .fieldAddr t p f, ty, pos, af, gd⟩) t f o n b p rfl ht (Nat.le_of_ble_eq_true hn) k u (m + off) hp (show (s1 k).v = u by rw [hs k (by simp)]; exact hk)
  rw [Nat.add_assoc] at this
  exact this
theorem map_at {j : Nat} {c : FV} (hx : rd l i = some x) (hc : (enc x)[j]? = some c) : (l.map enc)[i.toNat]?.bind (·[j]?) = some c := by
  obtain ⟨_, _, h⟩ := rd_some hx
  simp [List.getElem?_map, h, hc]
theorem D.ldO1 {j : Nat} {c : FV} (ht : tf P t = some (n, false)) (hp : ρA p = .pt k u (i.toNat * sz + j)) (hk : s k = ⟨u, .row e sz (l.map enc)⟩) (hx : rd l i = some x) (hc : (enc x)[j]? = some c) : Dz C ⟨dst, .load t p, ty, pos, af, gd⟩ s ρA (.fz c) [] [k] := fun s1 hs =>
  Does.load_row1 t n p rfl ht k u _ e sz (l.map enc) hp (by rw [hs k (by simp)]; exact hk) i.toNat j rfl c (map_at hx hc)
theorem D.ldON {j : Nat} {cs' : List AV} (ht : tf P t = some (n, true)) (hp : ρA p = .pt k u (i.toNat * sz + j)) (hk : s k = ⟨u, .row e sz (l.map enc)⟩) (hx : rd l i = some x) (hj : Nat.ble (j + n) sz = true) (hc : (((enc x).drop j).take n).map .fz = cs') : Dz C ⟨dst, .load t p, ty, pos, af, gd⟩ s ρA (.ag cs') [] [k] := fun s1 hs => by
  subst hc
  exact Does.load_rowN t n p rfl ht k u _ e sz (l.map enc) hp (by rw [hs k (by simp)]; exact hk) i.toNat j rfl (enc x) (by rw [List.getElem?_map, (rd_some hx).2.2]; rfl) (Nat.le_of_ble_eq_true hj)
theorem map_set {y : α} {j : Nat} {ys : List FV} (hx : rd l i = some x) (hy : enc y = wr (enc x) j ys) : (l.map enc).set i.toNat (wr ((l.map enc).getD i.toNat []) j ys) = (l.set i.toNat y).map enc := by
  rw [map_getD hx, ← hy, List.map_set]
theorem D.stO {j : Nat} {b : Bool} {ys : List FV} {y : α} (ht : tf P t = some (n, b)) (hp : ρA p = .pt k u (i.toNat * sz + j)) (hk : s k = ⟨u, .row e sz (l.map enc)⟩) (hx : rd l i = some x) (hq : ElemA (ρA q) ys) (hn : ys.length = n) (hj : Nat.ble (j + n) sz = true) (hy : enc y = wr (enc x) j ys) :
    Dz C ⟨none, .store t p q, ty, pos, af, gd⟩ s ρA .xx [(k, ⟨u, .row e sz ((l.set i.toNat y).map enc)⟩)] [k] := fun s1 hs => by
  have := Does.store_row (C := C) (o := ⟨none, .store t p q, ty, pos, af, gd⟩) t n b p q rfl rfl ht k u _ e sz (l.map enc) hp (show s1 k = _ by rw [hs k (by simp)]; exact hk) i.toNat j rfl (by simpa using (by have := (rd_some hx).2.1; have := (rd_some hx).1; omega)) ys hq hn (Nat.le_of_ble_eq_true hj) .xx
  rw [map_set hx hy] at this
  exact this

/-- The source of an append. -/
inductive SrcL (s : Sto) (ks : List Nat) : AV → Nat → List (List FV) → Prop
  | fz {sz : Nat} {es : List (List FV)} : SrcL s ks (.fz (.ls sz es)) sz es
  | br {sz : Nat} {es : List (List FV)} : SrcL s ks (.br sz es) sz es
  | ow {k u e sz : Nat} {es : List (List FV)} (hm : k ∈ ks) (h : s k = ⟨u, .row e sz es⟩) : SrcL s ks (.ow k u) sz es
  | nil {sz : Nat} : SrcL s ks (.fz (.sc (.slice none 0 0))) sz []
theorem SrcL.src {s s1 : Sto} {ks : List Nat} {x : AV} {sz : Nat} {es : List (List FV)} (h : SrcL s ks x sz es) (hs : ∀ k, k ∈ ks → s1 k = s k) : SrcA s1 x sz es := by
  cases h with
  | fz => exact .inl rfl
  | br => exact .inr (.inl rfl)
  | ow hm h => exact .inr (.inr (.inl ⟨_, _, _, rfl, by rw [hs _ hm]; exact h⟩))
  | nil => exact .inr (.inr (.inr ⟨rfl, rfl⟩))
theorem D.app {b : Nat} {l2 r : List α} {ks : List Nat} (ht : P.underlying t = some (.slice e)) (hz : zel P e sz b = true) (hp : ρA p = .ow k u) (hk : s k = ⟨u, .row e sz (l.map enc)⟩) (hq : SrcL s ks (ρA q) sz (l2.map enc)) (h : apd b l l2 = some r) :
    Dz C ⟨dst, .call { callee := .builtin .append, args := ⟨[p, q]⟩, argTypes := ⟨[t, t]⟩ }, ty, pos, af, gd⟩ s ρA (.ow k (u + 1)) [(k, ⟨u + 1, .row e sz (r.map enc)⟩)] (k :: ks) := fun s1 hs => by
  obtain ⟨zs, z1, z2, z3, z4⟩ := zel_spec hz
  obtain ⟨h1, rfl⟩ := apd_some h
  have := Does.append (C := C) (o := ⟨dst, .call { callee := .builtin .append, args := ⟨[p, q]⟩, argTypes := ⟨[t, t]⟩ }, ty, pos, af, gd⟩) t e sz b zs p q rfl ht z1 z2 z3 z4 k u (l.map enc) (l2.map enc) hp (show s1 k = _ by rw [hs k (by simp)]; exact hk) (hq.src (fun k' hk' => hs k' (List.mem_cons_of_mem _ hk'))) (by simpa using h1)
  rw [← List.map_append] at this
  exact this
theorem D.appN {b : Nat} {l2 : List α} {ks : List Nat} (d : Nat) (hd : (s d).v = u) (ht : P.underlying t = some (.slice e)) (hz : zel P e sz b = true) (hp : ρA p = .fz (.sc (.slice none 0 0))) (hq : SrcL s ks (ρA q) sz (l2.map enc)) (h : l2.length * b ≤ 140737488355328) :
    Dz C ⟨dst, .call { callee := .builtin .append, args := ⟨[p, q]⟩, argTypes := ⟨[t, t]⟩ }, ty, pos, af, gd⟩ s ρA (.ow d (u + 1)) [(d, ⟨u + 1, .row e sz (l2.map enc)⟩)] (d :: ks) := fun s1 hs => by
  obtain ⟨zs, z1, z2, z3, z4⟩ := zel_spec hz
  have e1 : (s1 d).v = u := by rw [hs d (by simp)]; exact hd
  subst e1
  exact Does.append_nil t e sz b d zs p q rfl ht z1 z2 z3 z4 (l2.map enc) hp (hq.src (fun k' hk' => hs k' (List.mem_cons_of_mem _ hk'))) (by simpa using h)
end

/-! ### Taken apart, put together -/
theorem D.ext {cs : List AV} {i : Nat} {x : AV} (hp : ρA p = .tu cs) (hx : cs[i]? = some x) : Dz C ⟨dst, .extract p i, ty, pos, af, gd⟩ s ρA x [] [] := fun _ _ => Does.extract p i rfl cs hp x hx
theorem D.fv1 {f o : Nat} {cs : List AV} {x : AV} (ht : fo P t f = some (o, n, false)) (hp : ρA p = .ag cs) (hx : cs[o]? = some x) : Dz C ⟨dst, .field t p f, ty, pos, af, gd⟩ s ρA x [] [] := fun _ _ => Does.field1 t f o n p rfl ht cs hp x hx
theorem D.fvN {f o : Nat} {cs cs' : List AV} (ht : fo P t f = some (o, n, true)) (hp : ρA p = .ag cs) (hl : Nat.ble (o + n) cs.length = true) (hc : (cs.drop o).take n = cs') : Dz C ⟨dst, .field t p f, ty, pos, af, gd⟩ s ρA (.ag cs') [] [] := fun _ _ => by
  subst hc
  exact Does.fieldN t f o n p rfl ht cs hp (Nat.le_of_ble_eq_true hl)
inductive PartsA (ρA : Operand → AV) : List (Nat × Operand) → List (Nat × List AV) → Prop
  | nil : PartsA ρA [] []
  | cons {i : Nat} {p : Operand} {ys : List AV} {ps : List (Nat × Operand)} {as : List (Nat × List AV)} (h : cellsOf (ρA p) = some ys) (t : PartsA ρA ps as) : PartsA ρA ((i, p) :: ps) ((i, ys) :: as)
theorem PartsA.at {ps : List (Nat × Operand)} {as : List (Nat × List AV)} (h : PartsA ρA ps as) : ps.length = as.length ∧ ∀ (m : Nat) (p : Nat × Operand) (a : Nat × List AV), ps[m]? = some p → as[m]? = some a → p.1 = a.1 ∧ cellsOf (ρA p.2) = some a.2 := by
  induction h with
  | nil => exact ⟨rfl, fun i x y h => by simp at h⟩
  | cons h t ih =>
    refine ⟨by simp [ih.1], fun i x' y' hx hy => ?_⟩
    cases i with
    | zero => simp at hx hy; subst hx; subst hy; exact ⟨rfl, h⟩
    | succ i => exact ih.2 i x' y' (by simpa using hx) (by simpa using hy)
theorem D.build {parts : List (Nat × Operand)} {places : List (Nat × Nat)} {zs : List Value} {as : List (Nat × List AV)} {cs : List AV} (hf : fs P t = some places) (hz : zf P t = some zs) (h1 : zs.all (·.oneCell') = true) (ha : PartsA ρA parts as) (hc : fillA places (zs.map fun v => .fz (.sc v)) as = some cs) :
    Dz C ⟨dst, .build t ⟨parts⟩, ty, pos, af, gd⟩ s ρA (.ag cs) [] [] := fun _ _ =>
  Does.build t ⟨parts⟩ rfl places hf zs hz (fun v hv => List.all_eq_true.1 h1 v hv) as ha.at.1 ha.at.2 cs hc

theorem D.min {a b : Int} {ts : Array TypeId} (hp : ρA p = .fz (.sc (.int .i64 a))) (hq : ρA q = .fz (.sc (.int .i64 b))) : Dz C ⟨dst, .call { callee := .builtin .min, args := ⟨[p, q]⟩, argTypes := ts }, ty, pos, af, gd⟩ s ρA (.fz (.sc (.int .i64 (if b < a then b else a)))) [] [] :=
  .of fun _ => Does.same fun ρ w h bk H hr => by
    have rp := hr p (by simp [Op.operands, Call.operands])
    have rq := hr q (by simp [Op.operands, Call.operands])
    rw [hp] at rp
    rw [hq] at rq
    exact ⟨_, by simp [execOp, resolve, invoke, builtin, rp.sc, rq.sc, Builtin.min_, Builtin.min2], .fz (.sc _ rfl)⟩
theorem D.max {a b : Int} {ts : Array TypeId} (hp : ρA p = .fz (.sc (.int .i64 a))) (hq : ρA q = .fz (.sc (.int .i64 b))) : Dz C ⟨dst, .call { callee := .builtin .max, args := ⟨[p, q]⟩, argTypes := ts }, ty, pos, af, gd⟩ s ρA (.fz (.sc (.int .i64 (if b > a then b else a)))) [] [] :=
  .of fun _ => Does.same fun ρ w h bk H hr => by
    have rp := hr p (by simp [Op.operands, Call.operands])
    have rq := hr q (by simp [Op.operands, Call.operands])
    rw [hp] at rp
    rw [hq] at rq
    exact ⟨_, by simp [execOp, resolve, invoke, builtin, rp.sc, rq.sc, Builtin.max_, Builtin.max2], .fz (.sc _ rfl)⟩
end

end Go.SL
