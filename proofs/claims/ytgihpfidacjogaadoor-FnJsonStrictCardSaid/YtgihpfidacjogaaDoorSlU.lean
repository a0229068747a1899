/- S-logic: functions of Go's library, as contracts of ours. -/
import Derived.Test.YtgihpfidacjogaaDoorSlT
import Derived.Shelf.Small.Strs
import Derived.Shelf.Strings.OnBuilder
import Derived.Shelf.Strings.SlTrimAscii
set_option linter.unusedVariables false
set_option linter.unusedSimpArgs false
namespace Go.SL
open Go.RowKit Go.Shelf Go.Proofs

theorem sc_inv {w : World} {M L : Nat → Prop} {s : Sto} {h : Nat → Value} {bk : Nat → Option Nat} {v u : Value} {x : AV} (r : RelA w M L s h bk v x) (e : x = .fz (.sc u)) : v = u := by
  cases r with
  | fz hx =>
    cases e
    cases hx with
    | sc v h1 => rfl
  | _ => cases e
theorem scF_inv {w : World} {M : Nat → Prop} {v u : Value} {x : FV} (r : RelF w M v x) (e : x = .sc u) : v = u := by
  cases r with
  | sc v h1 => cases e; rfl
  | _ => cases e

theorem Fn.lib {P : Program} {n : FuncId} {s0 : Sto} {args : List AV} {res : AV}
    (h : ∀ (C : Ctx P) (hh : HeapOk C s0 C.w0 C.h0 C.bk0) (vals : List Value), vals.length = args.length → (∀ i x, args[i]? = some x → Rel C s0 C.w0 C.h0 C.bk0 (vals.getD i undef) x) →
      ∃ r : Value, Calls P n vals.toArray C.w0 (fun e w' => e = .returned r ∧ Below C.w0.heap.size C.w0 w') ∧ Rel C s0 C.w0 C.h0 C.bk0 r res) : Fn P n s0 args s0 res := by
  intro C hC H0 vals hl hv
  obtain ⟨r, h1, h2⟩ := h C H0 vals hl hv
  refine h1.mono ?_
  rintro e w' ⟨he, hb⟩
  obtain ⟨H', hm⟩ := H0.grown hb
  exact ⟨r, C.h0, C.bk0, he, H', hm _ _ h2⟩

theorem args2 {P : Program} {C : Ctx P} {s : Sto} {w : World} {h : Nat → Value} {bk : Nat → Option Nat} {x y : AV} {vals : List Value} (hl : vals.length = [x, y].length) (hv : ∀ i z, [x, y][i]? = some z → Rel C s w h bk (vals.getD i undef) z) :
    ∃ a b, vals = [a, b] ∧ Rel C s w h bk a x ∧ Rel C s w h bk b y := by
  match vals, hl with
  | [a, b], _ => exact ⟨a, b, rfl, hv 0 x rfl, hv 1 y rfl⟩

theorem u8_back (c : UInt8) : ((c.toNat : Int).toNat).toUInt8 = c := by simp

theorem Fn.indexByte {P : Program} {ρ : Ren} (L : Lays.n137 P ρ) (s : List UInt8) (c : UInt8) (s0 : Sto) : Fn P (ρ.f 137) s0 [aS s, aU c] s0 (aI (Lib.indexByte s c)) :=
  Fn.lib fun C _ vals hl hv => by
    obtain ⟨a, b, rfl, ha, hb⟩ := args2 hl hv
    have ha := sc_inv ha rfl
    have hb := sc_inv hb rfl
    subst ha; subst hb
    refine ⟨_, (Any.strings_IndexByte L (bs s) (c.toNat : Int) C.w0).mono ?_, .fz (.sc _ rfl)⟩
    rintro e w' ⟨he, rfl⟩
    refine ⟨?_, Below.refl _ _⟩
    rw [he, u8_back]
    simp [bs]

theorem Fn.trim {P : Program} {ρ : Ren} (L : Lays.n160 P ρ) (h116 : (P.info? (ρ.t 116)).map (fun i => (i.zero, i.size)) = some (some (.agg (Array.replicate 256 (.bool false))), 256)) (s cs : List UInt8) (s0 : Sto)
    (hs : s.length ≤ 9223372036854775807) (hcs : cs.length < 4294967281) (ha : cs.all (fun b => decide (b.toNat < 128)) = true) : Fn P (ρ.f 160) s0 [aS s, aS cs] s0 (aS (Lib.trimS s cs)) :=
  Fn.lib fun C _ vals hl hv => by
    obtain ⟨a, b, rfl, h1, h2⟩ := args2 hl hv
    have h1 := sc_inv h1 rfl
    have h2 := sc_inv h2 rfl
    subst h1; subst h2
    refine ⟨_, (Any.strings_Trim_laid L h116 (bs s) (bs cs) C.w0 (by rw [bs_size]; exact hs) (by rw [bs_size]; exact hcs) (ascii_of_all (by simpa [bs] using ha))).mono ?_, .fz (.sc _ rfl)⟩
    rintro e w' ⟨he, hb⟩
    refine ⟨?_, hb⟩
    rw [he]
    simp [bs]

theorem Fn.join {P : Program} {ρ : Ren} (L : Lays.n156 P ρ) (X : Builder.Extra P ρ) (xs : List (List UInt8)) (sep : List UInt8) (s0 : Sto) (hN : xs.length ≤ 140737488355328) (hlen : (Lib.join xs sep).length ≤ 140737488355328) :
    Fn P (ρ.f 156) s0 [aL 1 eS xs, aS sep] s0 (aS (Lib.join xs sep)) :=
  Fn.lib fun C _ vals hl hv => by
    obtain ⟨a, b, rfl, h1, h2⟩ := args2 hl hv
    have h2 := sc_inv h2 rfl
    subst h2
    obtain ⟨es, hes⟩ : ∃ es, xs.map eS = es := ⟨_, rfl⟩
    have h1 : Rel C s0 C.w0 C.h0 C.bk0 a (.fz (.ls 1 es)) := by rw [← hes]; exact h1
    cases h1 with
    | fz hx =>
      cases hx with
      | emp A c sz hA =>
        have : xs = [] := by simpa using hes
        subst this
        refine ⟨_, (Any.strings_Join_none L X A c (bs sep) C.w0).mono ?_, .fz (.sc _ rfl)⟩
        rintro e w' ⟨he, rfl⟩
        exact ⟨he, Below.refl _ _⟩
      | ls b o c sz n es f hn hne hsz hc hm hMa hl' hcell hrel =>
        have hlen' : xs.length = n := by rw [hn, ← hes]; simp
        subst hlen'
        have hf : ∀ (j : Nat) x, (xs.map bs)[j]? = some x → C.w0.cell? ⟨b, o + j, none⟩ = some (.string x) := by
          intro j x hj
          rw [List.getElem?_map] at hj
          obtain ⟨y, hy, rfl⟩ := Option.map_eq_some_iff.1 hj
          have hjl : j < es.length := by rw [← hn]; exact (List.getElem?_eq_some_iff.1 hy).1
          have h3 := (hcell j 0 hjl (by omega)).1
          have h4 := hrel j 0 (fS y) (by rw [← hes]; simp [List.getElem?_map, hy])
          rw [scF_inv h4 rfl] at h3
          simpa using h3
        have h0 : 0 < es.length := List.length_pos_iff.2 hne
        have hb := lt_of_cell (hcell 0 0 h0 hsz).1
        have hd : (xs.map bs).map (·.data.toList) = xs := by
          rw [List.map_map]
          exact (List.map_congr_left (fun x _ => by simp [bs])).trans (List.map_id xs)
        have := Any.strings_Join L X b o c (xs.map bs) (bs sep) C.w0 hf hb (by simpa using hN) (by simpa using hc) (by rw [hd]; simpa [bs] using hlen)
        rw [hd] at this
        refine ⟨.string (bs (Lib.join xs sep)), ?_, .fz (.sc _ rfl)⟩
        have e1 : (xs.map bs).length = xs.length := by simp
        rw [e1] at this
        refine this.mono ?_
        rintro e w' ⟨he, hb'⟩
        refine ⟨?_, hb'⟩
        rw [he]
        simp [bs]

/-! ### As typed functions -/
def strings_IndexByte (s : List UInt8) (c : UInt8) : Option Int := some (Lib.indexByte s c)
def strings_Trim (s cs : List UInt8) : Option (List UInt8) := if s.length ≤ 9223372036854775807 ∧ cs.length < 4294967281 ∧ cs.all (fun b => decide (b.toNat < 128)) = true then some (Lib.trimS s cs) else none
def strings_Join (xs : List (List UInt8)) (sep : List UInt8) : Option (List UInt8) := if xs.length ≤ 140737488355328 ∧ (Lib.join xs sep).length ≤ 140737488355328 then some (Lib.join xs sep) else none
theorem Fn.indexByteF {P : Program} {ρ : Ren} (L : Lays.n137 P ρ) {n : Nat} (hn : ρ.f 137 = n) {s : List UInt8} {c : UInt8} {y : Int} (h : strings_IndexByte s c = some y) (s0 : Sto) : Fn P n s0 [aS s, aU c] s0 (aI y) := by
  cases h; subst hn; exact Fn.indexByte L s c s0
theorem Fn.trimF {P : Program} {ρ : Ren} (L : Lays.n160 P ρ) (h116 : (P.info? (ρ.t 116)).map (fun i => (i.zero, i.size)) = some (some (.agg (Array.replicate 256 (.bool false))), 256)) {n : Nat} (hn : ρ.f 160 = n) {s cs y : List UInt8} (h : strings_Trim s cs = some y) (s0 : Sto) : Fn P n s0 [aS s, aS cs] s0 (aS y) := by
  unfold strings_Trim at h
  split at h
  · rename_i hc
    cases h; subst hn; exact Fn.trim L h116 s cs s0 hc.1 hc.2.1 hc.2.2
  · cases h
theorem Fn.joinF {P : Program} {ρ : Ren} (L : Lays.n156 P ρ) (X : Builder.Extra P ρ) {n : Nat} (hn : ρ.f 156 = n) {xs : List (List UInt8)} {sep y : List UInt8} (h : strings_Join xs sep = some y) (s0 : Sto) : Fn P n s0 [aL 1 eS xs, aS sep] s0 (aS y) := by
  unfold strings_Join at h
  split at h
  · rename_i hc
    cases h; subst hn; exact Fn.join L X xs sep s0 hc.1 hc.2
  · cases h
end Go.SL
