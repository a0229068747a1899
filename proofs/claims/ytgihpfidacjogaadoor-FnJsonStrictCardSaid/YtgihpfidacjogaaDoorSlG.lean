/- S-logic, part 7: addresses of elements and fields, lengths; values taken apart. -/
import Derived.Test.YtgihpfidacjogaaDoorSlF
set_option linter.unusedVariables false
set_option linter.unusedSimpArgs false
namespace Go.SL
open Go.RowKit

/-- A slice type's element type, its cells. -/
def ef (P : Program) (t : TypeId) : Option (Nat × Nat) :=
  match P.underlying t with
  | some (.slice e) => (P.info? e).map fun i => (e, i.size)
  | _ => none
theorem ef_spec {P : Program} {t e sz : Nat} (h : ef P t = some (e, sz)) : P.underlying t = some (.slice e) ∧ ∃ i, P.info? e = some i ∧ i.size = sz := by
  unfold ef at h
  cases hu : P.underlying t with
  | none => rw [hu] at h; cases h
  | some d =>
    rw [hu] at h
    cases d <;> simp at h
    obtain ⟨i, hi, rfl, rfl⟩ := h
    exact ⟨rfl, i, hi, rfl⟩
theorem run_sizeE {P : Program} {t e sz : Nat} (h : ef P t = some (e, sz)) (w : World) : (sizeOf e).run P w = .ok sz w := by
  obtain ⟨_, i, hi, hs⟩ := ef_spec h
  simp [sizeOf, typeInfo, hi, hs]

theorem run_indexSlice {P : Program} {t e sz : Nat} (h : ef P t = some (e, sz)) {w : World} {b o n c : Nat} {k : IntKind} {i : Int} (h0 : 0 ≤ i) (h1 : i < n) :
    (Instr.indexAt t (.slice (some ⟨b, o, none⟩) n c) (.int k i)).run P w = .ok (.pointer (some ⟨b, o + i.toNat * sz, none⟩)) w := by
  obtain ⟨hu, _⟩ := ef_spec h
  simp [Instr.indexAt, asIntOf, run_underlying hu, h0, h1, run_sizeE h, add_mid]

theorem Rel.ls_inv {P : Program} {C : Ctx P} {s : Sto} {w : World} {h : Nat → Value} {bk : Nat → Option Nat} {v : Value} {x : AV} {sz : Nat} {es : List (List FV)} (r : Rel C s w h bk v x) (hx : x = .fz (.ls sz es) ∨ x = .br sz es) (hne : es ≠ []) :
    ∃ (b o c : Nat) (f : Nat → Nat → Value), v = .slice (some ⟨b, o, none⟩) es.length c ∧ 0 < sz ∧ es.length ≤ c ∧ c ≤ maxLen ∧ ¬ Own bk b ∧ (∀ x ∈ es, x.length = sz) ∧
      (∀ i j, i < es.length → j < sz → w.cell? ⟨b, o + (i * sz + j), none⟩ = some (f i j) ∧ (f i j).oneCell' = true) ∧ ∀ i j x, es[i]?.bind (·[j]?) = some x → RelF w (C.Mut bk) (f i j) x := by
  rcases hx with rfl | rfl
  · cases r with
    | fz hx => cases hx with
      | emp => exact absurd rfl hne
      | ls b o c sz n es f hn hne hsz hc hm hM hl hcell hrel => subst hn; exact ⟨b, o, c, f, rfl, hsz, hc, hm, fun h => hM (.inr h), hl, hcell, hrel⟩
  · cases r with
    | brn => exact absurd rfl hne
    | br b o c sz n es f hn hne hsz hc hm hL hl hcell hrel => subst hn; exact ⟨b, o, c, f, rfl, hsz, hc, hm, hL, hl, hcell, hrel⟩
theorem Rel.len_inv {P : Program} {C : Ctx P} {s : Sto} {w : World} {h : Nat → Value} {bk : Nat → Option Nat} {v : Value} {x : AV} {sz : Nat} {es : List (List FV)} (r : Rel C s w h bk v x) (hx : x = .fz (.ls sz es) ∨ x = .br sz es) :
    ∃ A c, v = .slice A es.length c := by
  rcases hx with rfl | rfl
  · cases r with
    | fz hx => cases hx with
      | emp A c => exact ⟨A, c, rfl⟩
      | ls b o c sz n es f hn => subst hn; exact ⟨_, c, rfl⟩
  · cases r with
    | brn A c => exact ⟨A, c, rfl⟩
    | br b o c sz n es f hn => subst hn; exact ⟨_, c, rfl⟩

/-- The address of an element of a slice that is read. -/
theorem Does.index_fz {P : Program} {C : Ctx P} {o : Oper} {s : Sto} {ρA : Operand → AV} (t e sz : Nat) (p q : Operand) (ho : o.op = .indexAddr t p q) (ht : ef P t = some (e, sz))
    (sz' : Nat) (es : List (List FV)) (hp : ρA p = .fz (.ls sz' es) ∨ ρA p = .br sz' es) (hsz : sz' = sz) (k : IntKind) (i : Int) (hq : ρA q = .fz (.sc (.int k i))) (h0 : 0 ≤ i) (h1 : i < es.length) :
    Does C o s ρA (.pe (es.getD i.toNat [])) s :=
  Does.same fun ρ w h bk H hr => by
    subst hsz
    have r := hr p (by simp [ho, Op.operands])
    have rq := hr q (by simp [ho, Op.operands])
    rw [hq] at rq
    have hi : i.toNat < es.length := by omega
    have hne : es ≠ [] := by rintro rfl; simp at hi
    obtain ⟨b, off, c, f, hv, hs0, hc, hm, hL, hl, hcell, hrel⟩ := r.ls_inv hp hne
    refine ⟨.pointer (some ⟨b, off + i.toNat * sz', none⟩), by simp only [execOp, ho, hv, rq.sc, Sem.run_bind, run_indexSlice ht h0 h1, Result.andThen_ok, Sem.run_pure], ?_⟩
    have hg : es.getD i.toNat [] = es[i.toNat] := by simp [hi]
    have hlen : (es[i.toNat]).length = sz' := hl _ (List.getElem_mem hi)
    rw [hg]
    refine .pe b (off + i.toNat * sz') _ (fun j => f i.toNat j) (fun _ => hL) (fun j hj => ?_) (fun j x hx => hrel i.toNat j x (by rw [List.getElem?_eq_getElem hi]; exact hx))
    have := hcell i.toNat j hi (by omega)
    rw [Nat.add_assoc]
    exact this

/-- The address of an element of a row of one's own. -/
theorem Does.index_ow {P : Program} {C : Ctx P} {o : Oper} {s : Sto} {ρA : Operand → AV} (t e sz : Nat) (p q : Operand) (ho : o.op = .indexAddr t p q) (ht : ef P t = some (e, sz))
    (k u e' sz' : Nat) (es : List (List FV)) (hp : ρA p = .ow k u) (hk : s k = ⟨u, .row e' sz' es⟩) (kd : IntKind) (i : Int) (hq : ρA q = .fz (.sc (.int kd i))) (h0 : 0 ≤ i) (h1 : i < es.length) :
    Does C o s ρA (.pt k u (i.toNat * sz)) s :=
  Does.same fun ρ w h bk H hr => by
    have r := hr p (by simp [ho, Op.operands])
    have rq := hr q (by simp [ho, Op.operands])
    rw [hq] at rq
    rw [hp] at r
    have hi : i.toNat < es.length := by omega
    have hv := r.ow_inv (by rw [hk])
    obtain ⟨xs, ⟨hl, hown⟩, hsz, hbk, _, _⟩ := H.row (k := k) (e := e') (sz := sz') (es := es) (by rw [hk])
    rcases hown with ⟨hn1, hn2⟩ | ⟨g, cap, cur, hv2, _⟩
    · omega
    · refine ⟨.pointer (some ⟨g, 0 + i.toNat * sz, none⟩), by simp only [execOp, ho, hv, hv2, rq.sc, Sem.run_bind, run_indexSlice ht h0 h1, Result.andThen_ok, Sem.run_pure], ?_⟩
      refine .pt k u _ rfl (by rw [hk]; exact Nat.le_refl _) (fun _ => ⟨g, by rw [hbk, hv2]; rfl, by simp⟩)

/-- A cell of a row of one's own, read. -/
theorem Does.load_row1 {P : Program} {C : Ctx P} {o : Oper} {s : Sto} {ρA : Operand → AV} (t n : Nat) (p : Operand) (ho : o.op = .load t p) (ht : tf P t = some (n, false))
    (k u off e sz : Nat) (es : List (List FV)) (hp : ρA p = .pt k u off) (hk : s k = ⟨u, .row e sz es⟩) (i j : Nat) (hoff : off = i * sz + j) (x : FV) (hx : es[i]?.bind (·[j]?) = some x) : Does C o s ρA (.fz x) s :=
  Does.same fun ρ w h bk H hr => by
    have r := hr p (by simp [ho, Op.operands])
    rw [hp] at r
    obtain ⟨b, hb, hv⟩ := r.pt_inv (by rw [hk])
    obtain ⟨xs, ⟨hl, hown⟩, hsz, hbk, hlen, hxs⟩ := H.row (k := k) (e := e) (sz := sz) (es := es) (by rw [hk])
    obtain ⟨v, hv1, _, hv2⟩ := hxs i j x hx
    rcases hown with ⟨hn1, hn2⟩ | ⟨g, cap, cur, hh, _, hg, hnc, _, hcs, htake⟩
    · have : es = [] := List.eq_nil_of_length_eq_zero hn2
      subst this
      simp at hx
    · have hbg : b = g := by rw [hbk, hh] at hb; simpa [Value.ownBlock] using hb.symm
      subst hbg
      have hcell : w.cell? ⟨b, off, none⟩ = some v := by
        rw [cell_mid hg, hoff]
        have h3 : i * sz + j < xs.length := (List.getElem?_eq_some_iff.1 hv1).1
        have h1 : (cur.toList.take (es.length * sz))[i * sz + j]? = xs[i * sz + j]? := by rw [htake]
        rw [List.getElem?_take_of_lt (by omega), hv1] at h1
        simpa using h1
      exact ⟨v, by simp only [execOp, ho, hv, Sem.run_bind, run_load1 ht hcell, Result.andThen_ok, Sem.run_pure], .fz hv2⟩

def fo (P : Program) (t f : Nat) : Option (Nat × Nat × Bool) :=
  match P.underlying t with
  | some (.struct fs) => (fs[f]?).bind fun g => (tf P g.type).map fun z => (g.offset, z.1, z.2)
  | _ => none
theorem fo_spec {P : Program} {t f off n : Nat} {b : Bool} (h : fo P t f = some (off, n, b)) : ∃ fs g, P.underlying t = some (.struct fs) ∧ fs[f]? = some g ∧ g.offset = off ∧ tf P g.type = some (n, b) := by
  unfold fo at h
  cases hu : P.underlying t with
  | none => rw [hu] at h; cases h
  | some d =>
    rw [hu] at h
    cases d <;> simp at h
    rename_i fs
    cases hf : fs[f]? with
    | none => rw [hf] at h; simp at h
    | some g =>
      rw [hf] at h
      simp only [Option.bind_some, Option.map_eq_some_iff] at h
      obtain ⟨z, h1, h2⟩ := h
      cases h2
      exact ⟨fs, g, rfl, hf, rfl, h1⟩
theorem run_fieldAt {P : Program} {t f off n : Nat} {b : Bool} (h : fo P t f = some (off, n, b)) (hn : 0 < n) (w : World) (g o : Nat) :
    (Instr.fieldAt t (.pointer (some ⟨g, o, none⟩)) f).run P w = .ok (.pointer (some ⟨g, o + off, none⟩)) w := by
  obtain ⟨fs, q, hu, hf, rfl, ht⟩ := fo_spec h
  simp only [Instr.fieldAt, Sem.run_bind, run_underlying hu, Result.andThen_ok, hf, Instr.sureAddr, Sem.run_pure, fieldPlace, run_sizeT ht]
  rw [if_neg (by omega)]
  simp [add_mid]

theorem Does.field_pt {P : Program} {C : Ctx P} {o : Oper} {s : Sto} {ρA : Operand → AV} (t f off n : Nat) (b : Bool) (p : Operand) (ho : o.op = .fieldAddr t p f) (ht : fo P t f = some (off, n, b)) (hn : 0 < n)
    (k u o0 : Nat) (hp : ρA p = .pt k u o0) (hk : (s k).v = u) : Does C o s ρA (.pt k u (o0 + off)) s :=
  Does.same fun ρ w h bk H hr => by
    have r := hr p (by simp [ho, Op.operands])
    rw [hp] at r
    obtain ⟨g, hg, hv⟩ := r.pt_inv hk
    exact ⟨_, by simp only [execOp, ho, hv, Sem.run_bind, run_fieldAt ht hn, Result.andThen_ok, Sem.run_pure], .pt k u _ rfl (by omega) (fun _ => ⟨g, hg, rfl⟩)⟩
theorem Does.field_pe {P : Program} {C : Ctx P} {o : Oper} {s : Sto} {ρA : Operand → AV} (t f off n : Nat) (b : Bool) (p : Operand) (ho : o.op = .fieldAddr t p f) (ht : fo P t f = some (off, n, b)) (hn : 0 < n)
    (cs : List FV) (hp : ρA p = .pe cs) : Does C o s ρA (.pe (cs.drop off)) s :=
  Does.same fun ρ w h bk H hr => by
    have r := hr p (by simp [ho, Op.operands])
    rw [hp] at r
    obtain ⟨g, o0, fv, hv, hL, hc, hrel⟩ := r.pe_inv
    refine ⟨.pointer (some ⟨g, o0 + off, none⟩), by simp only [execOp, ho, hv, Sem.run_bind, run_fieldAt ht hn, Result.andThen_ok, Sem.run_pure], ?_⟩
    refine .pe g (o0 + off) _ (fun j => fv (off + j)) (fun hne => hL (by rintro rfl; simp at hne)) (fun j hj => ?_) (fun j x hx => hrel _ x (by simpa using hx))
    simp at hj
    rw [Nat.add_assoc]
    exact hc (off + j) (by omega)

theorem Rel.tu_inv {P : Program} {C : Ctx P} {s : Sto} {w : World} {h : Nat → Value} {bk : Nat → Option Nat} {v : Value} {cs : List AV} (r : Rel C s w h bk v (.tu cs)) :
    ∃ arr : Array Value, v = .tuple arr ∧ arr.size = cs.length ∧ ∀ i x, cs[i]? = some x → Rel C s w h bk (arr.getD i undef) x := by
  cases r with
  | tu arr cs hs hr' => exact ⟨arr, rfl, hs, hr'⟩
theorem Rel.ag_inv {P : Program} {C : Ctx P} {s : Sto} {w : World} {h : Nat → Value} {bk : Nat → Option Nat} {v : Value} {cs : List AV} (r : Rel C s w h bk v (.ag cs)) :
    ∃ arr : Array Value, v = .agg arr ∧ arr.size = cs.length ∧ ∀ i x, cs[i]? = some x → Rel C s w h bk (arr.getD i undef) x := by
  cases r with
  | ag arr cs hs hr' => exact ⟨arr, rfl, hs, hr'⟩
/-- A component of a tuple. -/
theorem Does.extract {P : Program} {C : Ctx P} {o : Oper} {s : Sto} {ρA : Operand → AV} (p : Operand) (i : Nat) (ho : o.op = .extract p i) (cs : List AV) (hp : ρA p = .tu cs) (x : AV) (hx : cs[i]? = some x) : Does C o s ρA x s :=
  Does.same fun ρ w h bk H hr => by
    have r := hr p (by simp [ho, Op.operands])
    rw [hp] at r
    obtain ⟨arr, hv, hs, hr'⟩ := r.tu_inv
    have hi : i < arr.size := by have := (List.getElem?_eq_some_iff.1 hx).1; omega
    have := hr' i x hx
    refine ⟨arr[i], by simp [execOp, ho, hv, Instr.extract, hi], ?_⟩
    have e1 : arr.getD i undef = arr[i] := by simp [hi]
    rw [e1] at this
    exact this

/-- A pointer that isn't nil. -/
theorem Does.nilCheck {P : Program} {C : Ctx P} {o : Oper} {s : Sto} {ρA : Operand → AV} (p : Operand) (ho : o.op = .nilCheck p) (k u off : Nat) (hp : ρA p = .pt k u off) (hk : (s k).v = u) : Does C o s ρA (.pt k u off) s :=
  Does.same fun ρ w h bk H hr => by
    have r := hr p (by simp [ho, Op.operands])
    rw [hp] at r
    obtain ⟨g, hg, hv⟩ := r.pt_inv hk
    exact ⟨ρ p, by simp [execOp, ho, hv], r⟩

/-! ### Lengths -/
theorem Does.len {P : Program} {C : Ctx P} {o : Oper} {s : Sto} {ρA : Operand → AV} (p : Operand) (t e sz0 : Nat) (ho : o.op = .call { callee := .builtin .len, args := #[p], argTypes := #[t] }) (ht : ef P t = some (e, sz0)) (n : Nat)
    (hp : (∃ sz es, (ρA p = .fz (.ls sz es) ∨ ρA p = .br sz es) ∧ es.length = n) ∨ (∃ k u e sz es, ρA p = .ow k u ∧ s k = ⟨u, .row e sz es⟩ ∧ es.length = n) ∨ (ρA p = .fz (.sc (.slice none 0 0)) ∧ n = 0)) :
    Does C o s ρA (.fz (.sc (.int .i64 n))) s :=
  Does.same fun ρ w h bk H hr => by
    have r := hr p (by simp [ho, Op.operands, Call.operands])
    have hlen : ∃ A c, ρ p = .slice A n c := by
      rcases hp with ⟨sz, es, h1, rfl⟩ | ⟨k, u, e, sz, es, h1, hk, rfl⟩ | ⟨h1, rfl⟩
      · exact r.len_inv h1
      · rw [h1] at r
        have hv := r.ow_inv (by rw [hk])
        obtain ⟨xs, ⟨_, hown⟩, _⟩ := H.row (k := k) (e := e) (sz := sz) (es := es) (by rw [hk])
        rcases hown with ⟨h3, h4⟩ | ⟨g, cap, cur, h3, _⟩
        · exact ⟨none, 0, by rw [hv, h3, h4]⟩
        · exact ⟨_, cap, by rw [hv, h3]⟩
      · rw [h1] at r; exact ⟨none, 0, r.sc⟩
    obtain ⟨hu, _⟩ := ef_spec ht
    obtain ⟨A, c, hv⟩ := hlen
    exact ⟨.int .i64 n, by simp [execOp, ho, resolve, invoke, builtin, hv, Builtin.len_, run_underlying hu, goInt], .fz (.sc _ rfl)⟩
theorem Does.len_str {P : Program} {C : Ctx P} {o : Oper} {s : Sto} {ρA : Operand → AV} (p : Operand) (t : Nat) (ho : o.op = .call { callee := .builtin .len, args := #[p], argTypes := #[t] }) (ht : P.underlying t = some .string) (b : ByteArray)
    (hp : ρA p = .fz (.sc (.string b))) : Does C o s ρA (.fz (.sc (.int .i64 b.size))) s :=
  Does.same fun ρ w h bk H hr => by
    have r := hr p (by simp [ho, Op.operands, Call.operands])
    rw [hp] at r
    exact ⟨.int .i64 b.size, by simp [execOp, ho, resolve, invoke, builtin, r.sc, Builtin.len_, run_underlying ht, goInt], .fz (.sc _ rfl)⟩

end Go.SL
